/- WaitsTrees: whoever waits only for lesser ones never makes anybody give way: the law answers true at every input. No condition. -/
import Derived.Test.YtlpimkmkcfbddaaWaitApp
namespace Go.Proofs.Ytlpimkmkcfbddaa
open Go.RowKit

def downs (l : List (Int × Int)) : List (Int × Int) := l.filter fun e => decide (e.2 < e.1)
theorem downs_snoc {l : List (Int × Int)} {k : Nat} (hk : k < l.length) : downs (l.take (k + 1)) = downs (l.take k) ++ downs [l[k]] := by
  rw [take_snoc hk]; exact List.filter_append _ _
theorem downs_le (l : List (Int × Int)) : (downs l).length ≤ l.length := List.length_filter_le _ _
theorem down_lt {l : List (Int × Int)} {x y : Int} (h : Rch (downs l) x y) : y < x := by
  have step : ∀ {x y : Int}, Ed (downs l) x y → y < x := fun e => by
    have := (List.mem_filter.1 e.1).2
    simpa using this
  induction h with
  | one e => exact step e
  | more e _ ih => have := step e; omega
theorem down_cyc (l : List (Int × Int)) (x : Int) : cyc (downs l) x = false := cyc_f fun h => by have := down_lt h; omega
theorem down_vic (l : List (Int × Int)) : vicN (downs l) 4 = none := by simp [vicN, down_cyc]
theorem down_one (e : Int × Int) (h : e.2 < e.1) : downs [e] = [e] := by simp [downs, h]
theorem down_none (e : Int × Int) (h : ¬ e.2 < e.1) : downs [e] = [] := by simp [downs]; omega

set_option maxRecDepth 100000 in
set_option maxHeartbeats 4000000 in
theorem waitsTrees_w (a : Option Addr) (len cap : Nat) (g : Nat → Nat → Value) (w : World) (hl : len ≤ maxLen) (hr : RdS w 2 a len g) (hq : ∀ k, k < len → Q2 (g k)) :
    Calls Try.prog 12 #[.slice a len cap] w (RetK noB (.bool true) w) := by
  unfold maxLen at hl
  obtain ⟨l, rfl, he⟩ := edr_of hr hq
  clear hr hq
  by_cases h200 : l.length ≤ 200
  · go_enter Try.func12, Try.ntmps12
    go_wp2_with fail
    refine (waitsAlive_c _).mono ?_
    rintro e w0 ⟨rfl, hk0⟩
    go_wp2_with fail
    go_loopw [3, 19] (fun s i wr => ∃ k : Nat, k ≤ l.length ∧ i = .int .i64 k ∧ s ≠ .slice none 0 0 ∧ Keeps noB w0 wr ∧ wr.ownsRow w0.heap.size 61 2 s (downs (l.take k)).length (ecells (downs (l.take k))))
      (fun _ i _ => l.length - (intOf i).toNat)
    case atStart => exact ⟨0, by omega, rfl, by simp, (Keeps.refl noB w0).alloc _, own_lit0 w0⟩
    case round =>
      obtain ⟨k, hk, rfl, hne, hkp, hown⟩ := hrel
      have hsz := hkp.size
      by_cases hlt : k < l.length
      · obtain ⟨b, off, rfl, hbB, hbs, hc0, hc1⟩ := (he.go (hk0.trans_no hkp)) k hlt
        obtain ⟨u, v, hEd⟩ : ∃ u v, l[k] = (u, v) := ⟨_, _, rfl⟩
        have hsn := downs_snoc hlt
        have hdl := downs_le (l.take k)
        rw [List.length_take] at hdl
        rw [hEd] at hc0 hc1 hsn
        simp only at hc0 hc1
        clear hEd
        by_cases huv : v < u
        · rw [down_one _ huv] at hsn
          have HS := Lib.hid hsn
          have hd : decide (u > v) = true := decide_eq_true huv
          have hE2 : EdR ((wr.alloc (.cells #[.int .i64 u, .int .i64 v] 61)).alloc (.cells #[.int .i64 u, .int .i64 v] 61)) (wr.heap.size + 2) (some ⟨wr.heap.size + 1, 0, none⟩) [(u, v)] := by
            refine EdB.edr ⟨_, by rw [← alloc_size wr (.cells #[.int .i64 u, .int .i64 v] 61)]; exact heap_alloc_new _ _, by simp, fun k hk => ?_⟩ (by omega)
            match k, hk with
            | 0, _ => exact ⟨rfl, rfl⟩
          clear hsn huv
          go_wp2_with (at_builtin; refine wpList_append_ed rfl _ _ rfl w0.heap.size _ _ _ rfl ((hown.alloc _).alloc _) _ [(u, v)] 1 _ rfl hE2 ?c1 ?c2 ?_)
          case c1 => simp only [List.length_singleton]; omega
          case c2 => rw [alloc_size, alloc_size]; omega
          · intro v' w1 h1 h2 h3
            have hk1 : Keeps noB w0 w1 := ((hkp.alloc _).alloc _).own ((hown.alloc _).alloc _) (Nat.le_refl _) h2
            have hne' : v' ≠ .slice none 0 0 := by first | exact h3 hne | exact h3
            clear h2 h3
            go_wp2_with fail
            go_roundw
            case rel => exact ⟨k + 1, by omega, by go_num, hne', hk1, by rw [HS.out, ecells_append, List.length_append]; exact h1⟩
            case measure => simp [intOf]; omega
        · rw [down_none _ huv, List.append_nil] at hsn
          have HS := Lib.hid hsn
          have hd : decide (u > v) = false := decide_eq_false huv
          clear hsn huv
          go_wp2_with fail
          go_roundw
          case rel => exact ⟨k + 1, by omega, by go_num, hne, hkp.alloc _, by rw [HS.out]; exact hown.alloc _⟩
          case measure => simp [intOf]; omega
      · have : k = l.length := by omega
        subst this
        rw [List.take_length] at hown
        obtain ⟨gd, c, rfl, hB, hlc, hcm, hE⟩ := EdB.of_row hown hne
        have hdl := downs_le l
        have hvi := down_vic l
        have hcy := down_cyc l
        have hrl : ∀ x y : Int, Rch (downs l) x y → y < x := fun x y h => down_lt h
        have hER := hE.edr hE.lt
        have hkw := hk0.trans_no hkp
        generalize downs l = dl at *
        have hV := victim_c dl (by omega) (some ⟨gd, 0, none⟩) c _ hER
        rw [hvi] at hV
        simp only [vicV] at hV
        clear hown hne he hE hkp
        go_wp2_with fail
        refine hV.mono ?_
        rintro e w2 ⟨rfl, hk2⟩
        have hER2 := hER.go hk2
        have hkw2 := hkw.trans_no hk2
        clear hV hER hk2 hkw
        go_wp2_with fail
        go_loopw [8] (fun i wx => ∃ q : Nat, q ≤ 4 ∧ i = .int .i64 q ∧ Keeps noB w2 wx)
          (fun i _ => 4 - (intOf i).toNat)
        case atStart => exact ⟨0, by omega, rfl, Keeps.refl _ _⟩
        case round =>
          obtain ⟨q, hq4, rfl, hkq⟩ := hrel
          by_cases hqlt : q < 4
          · have hR := reach_c dl (by omega) (some ⟨gd, 0, none⟩) c q _ (hER2.go hkq)
            have h4 := reachL_le dl (q : Int)
            obtain ⟨wo, rfl⟩ : ∃ wo : World, wo = wr := ⟨_, rfl⟩
            go_wp2_with fail
            refine hR.mono ?_
            rintro e w3 ⟨v, ⟨rfl, hk3⟩, ho⟩
            obtain ⟨gb, cb, rfl⟩ := ho.slice
            clear hR
            go_wp2_with fail
            go_loopw [46] (fun i wx => ∃ p : Nat, p ≤ (reachL dl q).length ∧ i = .int .i64 p ∧ Keeps noB w3 wx)
              (fun i _ => (reachL dl q).length - (intOf i).toNat)
            case atStart => exact ⟨0, by omega, rfl, Keeps.refl _ _⟩
            case round =>
              obtain ⟨p, hp, rfl, hkr⟩ := hrel
              by_cases hplt : p < (reachL dl q).length
              · obtain ⟨y, hy, hy4, hry⟩ := reach_at hplt
                have hyq := hrl _ _ hry
                have hd : decide ((y : Int) ≥ (q : Int)) = false := decide_eq_false (by omega)
                obtain ⟨_, rfl, _, _, hc⟩ := (ho.keep hkr (fun b _ => noB_not b)).cell hplt
                rw [hy] at hc
                go_wp2_with fail
                go_roundw
                case rel => exact ⟨p + 1, by omega, by go_num, hkr⟩
                case measure => simp [intOf]; omega
              · have : p = (reachL dl q).length := by omega
                subst this
                go_wp2_with fail
                go_roundw
                case rel => exact ⟨q + 1, by omega, by go_num, (hkq.trans_no hk3).trans_no hkr⟩
                case measure => simp [intOf]; omega
          · have : q = 4 := by omega
            subst this
            have hW := without_c dl (by omega) (some ⟨gd, 0, none⟩) c 0 _ (hER2.go hkq)
            have hle := without_le dl 0
            have hd : decide (((without dl 0).length : Int) ≤ (dl.length : Int)) = true := decide_eq_true (by omega)
            go_wp2_with fail
            refine hW.mono ?_
            rintro e w3 ⟨b', c', ⟨rfl, hk3⟩, _⟩
            clear hW
            go_wp2_with fail
            go_ret
            exact ⟨rfl, (hkw2.trans_no hkq).trans_no hk3⟩
  · go_enter Try.func12, Try.ntmps12
    go_wp2_with fail
    refine (waitsAlive_c _).mono ?_
    rintro e w0 ⟨rfl, hk0⟩
    go_wp2_with fail
    go_ret
    exact ⟨rfl, hk0⟩
end Go.Proofs.Ytlpimkmkcfbddaa
