/- WaitsMore: with more edges no fewer can be come to: the law answers true at every input. No condition. -/
import Derived.Test.YtlpimkmkcfbddaaWaitApp
namespace Go.Proofs.Ytlpimkmkcfbddaa
open Go.RowKit

theorem waitsMore_no (a1 a2 : Option Addr) (n1 n2 c1 c2 : Nat) (x : Int) (w : World) (h1 : n1 ≤ 9223372036854775807) (h2 : n2 ≤ 9223372036854775807) (hin : ¬ (n1 ≤ 100 ∧ n2 ≤ 100)) :
    Calls Try.prog 10 #[.slice a1 n1 c1, .slice a2 n2 c2, .int .i64 x] w (RetK noB (.bool true) w) := by
  by_cases h : n1 ≤ 100
  · have h3 : 100 < n2 := by omega
    have hd : decide ((n1 : Int) > 100) = false := decide_eq_false (by omega)
    have hd2 : decide ((n2 : Int) > 100) = true := decide_eq_true (by omega)
    clear hin
    go_enter Try.func10, Try.ntmps10
    go_wp2_with fail
    refine (waitsAlive_c _).mono ?_
    rintro e w0 ⟨rfl, hk0⟩
    go_wp2_with fail
    go_ret
    exact ⟨rfl, hk0⟩
  · have hd : decide ((n1 : Int) > 100) = true := decide_eq_true (by omega)
    clear hin
    go_enter Try.func10, Try.ntmps10
    go_wp2_with fail
    refine (waitsAlive_c _).mono ?_
    rintro e w0 ⟨rfl, hk0⟩
    go_wp2_with fail
    go_ret
    exact ⟨rfl, hk0⟩

set_option maxRecDepth 100000 in
set_option maxHeartbeats 4000000 in
theorem waitsMore_w (a1 : Option Addr) (n1 c1 : Nat) (g1 : Nat → Nat → Value) (a2 : Option Addr) (n2 c2 : Nat) (g2 : Nat → Nat → Value) (x : Int) (w : World) (hl1 : n1 ≤ maxLen) (hr1 : RdS w 2 a1 n1 g1) (hq1 : ∀ k, k < n1 → Q2 (g1 k))
    (hl2 : n2 ≤ maxLen) (hr2 : RdS w 2 a2 n2 g2) (hq2 : ∀ k, k < n2 → Q2 (g2 k)) (_hx : -9223372036854775808 ≤ x ∧ x ≤ 9223372036854775807) :
    Calls Try.prog 10 #[.slice a1 n1 c1, .slice a2 n2 c2, .int .i64 x] w (RetK noB (.bool true) w) := by
  unfold maxLen at hl1 hl2
  by_cases hin : n1 ≤ 100 ∧ n2 ≤ 100
  · obtain ⟨l, rfl, he⟩ := edr_of hr1 hq1
    obtain ⟨m, rfl, he2⟩ := edr_of hr2 hq2
    obtain ⟨hin1, hin2⟩ := hin
    clear hr1 hq1 hr2 hq2
    have hd : decide ((l.length : Int) > 100) = false := decide_eq_false (by omega)
    have hd2 : decide ((m.length : Int) > 100) = false := decide_eq_false (by omega)
    go_enter Try.func10, Try.ntmps10
    go_wp2_with fail
    refine (waitsAlive_c _).mono ?_
    rintro e w0 ⟨rfl, hk0⟩
    have heA := he.go (hk0.alloc (.cells #[] 61))
    have heA2 := he2.go (hk0.alloc (.cells #[] 61))
    have hown0 := own_lit0 w0
    have hbA : w0.heap.size ≤ (w0.alloc (.cells #[] 61)).heap.size := by rw [alloc_size]; omega
    go_wp2_with (at_builtin; refine wpList_append_ed rfl _ _ rfl w0.heap.size _ _ _ rfl hown0 a1 l c1 _ rfl heA ?c1 hbA ?_)
    case c1 => omega
    · intro v1 w1 hown1 hg1 hne1
      have hk01 : Keeps noB w0 w1 := ((Keeps.refl noB w0).alloc _).own hown0 (Nat.le_refl _) hg1
      have hv1 : v1 ≠ .slice none 0 0 := hne1
      have he1 := he.go (hk0.trans_no hk01)
      have he21 := he2.go (hk0.trans_no hk01)
      clear heA heA2 hbA hne1 hg1 hown0
      go_wp2_with (at_builtin; refine wpList_append_ed rfl _ _ rfl w0.heap.size _ _ _ rfl hown1 a2 m c2 _ rfl he21 ?d1 hk01.size ?_)
      case d1 => omega
      · intro v2 w2 hown2 hg2 hne2
        have hk02 : Keeps noB w0 w2 := hk01.own hown1 (Nat.le_refl _) hg2
        have hv2 : v2 ≠ .slice none 0 0 := hne2
        have hk2 := hk0.trans_no hk02
        rw [← ecells_append, ← List.length_append] at hown2
        obtain ⟨g, c, rfl, hB, hlc, hcm, hE⟩ := EdB.of_row hown2 hv2
        
        have hAl : ∀ e, e ∈ l → e ∈ l ++ m := fun e h => List.mem_append.2 (.inl h)
        have hlen : (l ++ m).length ≤ 200 := by rw [List.length_append]; omega
        generalize l ++ m = al at *
        clear he1 he21 hown1 hown2 hg2 hne2 he2 hv1 hv2 hk01 hk02
        have hEA := (hE.edr hE.lt).go ((Keeps.refl noB w2).alloc (.cells (scells fun _ => false) 42))
        have hM : MarkAt (w2.alloc (.cells (scells fun _ => false) 42)) w2.heap.size (fun _ => false) := heap_alloc_new _ _
        have hR := reach_c al (by omega) (some ⟨g, 0, none⟩) c x _ hEA
        have hszA : (w2.alloc (.cells (scells fun _ => false) 42)).heap.size = w2.heap.size + 1 := alloc_size _ _
        unfold scells at hR hszA
        go_wp2_with fail
        refine hR.mono ?_
        rintro e w3 ⟨v, ⟨rfl, hk3⟩, ho⟩
        obtain ⟨ga, ca, rfl⟩ := ho.slice
        have hM3 : MarkAt w3 w2.heap.size (fun _ => false) := hk3.blk hM (noB_not _)
        have hk3' : Keeps noB w w3 := (hk2.alloc _).trans_no hk3
        have hB3 : w2.heap.size < w3.heap.size := lt_of_blk hM3
        clear hR hM hk3
        have h4 := reachL_le al x
        go_wp2_with fail
        go_loopw [35] (fun i wr => ∃ (k : Nat) (s : Nat → Bool), k ≤ (reachL al x).length ∧ i = .int .i64 k ∧ Keeps noB w wr ∧ Keeps (oneB w2.heap.size) w3 wr ∧ MarkAt wr w2.heap.size s ∧ ∀ j y : Nat, j < k → (reachL al x).getD j 0 = y → s y = true)
          (fun i _ => (reachL al x).length - (intOf i).toNat)
        case atStart => exact ⟨0, _, by omega, rfl, hk3', Keeps.refl _ _, hM3, fun j y h => by omega⟩
        case round =>
          obtain ⟨k, s, hk, rfl, hkp, hkq, hMs, hs⟩ := hrel
          by_cases hlt : k < (reachL al x).length
          · obtain ⟨y, hy, hy4, _⟩ := reach_at hlt
            obtain ⟨_, rfl, _, _, hc⟩ := (ho.keep hkq (fun b hb h => by unfold oneB at h; omega)).cell hlt
            rw [hy] at hc
            have hfr := blk_free hMs y
            have hcm2 := blk_cell hMs (scells_at s hy4)
            go_wp2_with fail
            go_roundw
            case rel =>
              refine ⟨k + 1, upd s y, by omega, by go_num, ?_, hkq.set1 _ _, hMs.set hy4, fun j z hj hz => ?_⟩
              · exact hkp.setCell _ _ (.inr hk2.size)
              · unfold upd
                by_cases e : z = y
                · rw [if_pos e]
                · rw [if_neg e]
                  refine hs j z ?_ hz
                  rcases Nat.lt_succ_iff_lt_or_eq.1 hj with h | h
                  · exact h
                  · subst h; omega
            case measure => simp [intOf]; omega
          · have : k = (reachL al x).length := by omega
            subst this
            have hfar : ∀ y : Nat, Rch al x y → 0 ≤ x ∧ x < 4 → s y = true := fun y h hx => by
              obtain ⟨j, hj, he⟩ := mem_getD ((reachL_mem al x y).2 ⟨hx, h⟩)
              exact hs j y hj he
            have heL2 := he.go hkp
            have hR := reach_c l (by omega) a1 c1 x _ heL2
            have h4l := reachL_le l x
            have hB4 := hkq.size
            have HM := Lib.hid hMs
            clear hs ho hEA hE hMs hM3
            go_wp2_with fail
            refine hR.mono ?_
            rintro e w4 ⟨v, ⟨rfl, hk4⟩, ho⟩
            obtain ⟨gb, cb, rfl⟩ := ho.slice
            have hM4 : MarkAt w4 w2.heap.size s := hk4.blk HM.out (noB_not _)
            have hkp4 := hkp.trans_no hk4
            clear hR
            go_wp2_with fail
            go_loopw [46] (fun i wx => ∃ k : Nat, k ≤ (reachL l x).length ∧ i = .int .i64 k ∧ Keeps noB w4 wx)
              (fun i _ => (reachL l x).length - (intOf i).toNat)
            case atStart => exact ⟨0, by omega, rfl, Keeps.refl _ _⟩
            case round =>
              obtain ⟨k, hk, rfl, hkr⟩ := hrel
              by_cases hlt : k < (reachL l x).length
              · obtain ⟨y, hy, hy4, hry⟩ := reach_at hlt
                have hx4 := ((reachL_mem l x _).1 (getD_mem hlt)).1
                have hsy := hfar y (hry.mono hAl) hx4
                obtain ⟨_, rfl, _, _, hc⟩ := (ho.keep hkr (fun b _ => noB_not b)).cell hlt
                rw [hy] at hc
                have hMx : MarkAt _ w2.heap.size s := hkr.blk hM4 (noB_not _)
                have hcm2 := blk_cell hMx (scells_at s hy4)
                rw [hsy] at hcm2
                have hR := reach_c l (by omega) a1 c1 y _ (heL2.go (hk4.trans_no hkr))
                have h4y := reachL_le l (y : Int)
                obtain ⟨wo, rfl⟩ : ∃ wo : World, wo = wr := ⟨_, rfl⟩
                go_wp2_with fail
                refine hR.mono ?_
                rintro e w5 ⟨v, ⟨rfl, hk5⟩, ho5⟩
                obtain ⟨gd, cd, rfl⟩ := ho5.slice
                clear hR
                have hkr5 := hkr.trans_no hk5
                have hM5 : MarkAt w5 w2.heap.size s := hk5.blk hMx (noB_not _)
                go_wp2_with fail
                go_loopw [58] (fun i wx => ∃ q : Nat, q ≤ (reachL l y).length ∧ i = .int .i64 q ∧ Keeps noB w5 wx)
                  (fun i _ => (reachL l y).length - (intOf i).toNat)
                case atStart => exact ⟨0, by omega, rfl, Keeps.refl _ _⟩
                case round =>
                  obtain ⟨q, hq, rfl, hks⟩ := hrel
                  by_cases hqlt : q < (reachL l y).length
                  · obtain ⟨z, hz, hz4, hrz⟩ := reach_at hqlt
                    have hsz := hfar z ((hry.trans hrz).mono hAl) hx4
                    obtain ⟨_, rfl, _, _, hcz⟩ := (ho5.keep hks (fun b _ => noB_not b)).cell hqlt
                    rw [hz] at hcz
                    have hMz : MarkAt _ w2.heap.size s := hks.blk hM5 (noB_not _)
                    have hcmz := blk_cell hMz (scells_at s hz4)
                    rw [hsz] at hcmz
                    go_wp2_with fail
                    go_roundw
                    case rel => exact ⟨q + 1, by omega, by go_num, hks⟩
                    case measure => simp [intOf]; omega
                  · have : q = (reachL l y).length := by omega
                    subst this
                    go_wp2_with fail
                    go_roundw
                    case rel => exact ⟨k + 1, by omega, by go_num, hkr5.trans_no hks⟩
                    case measure => simp [intOf]; omega
              · have : k = (reachL l x).length := by omega
                subst this
                go_wp2_with fail
                go_ret
                exact ⟨rfl, hkp4.trans_no hkr⟩
  · exact waitsMore_no _ _ _ _ _ _ _ _ hl1 hl2 hin
end Go.Proofs.Ytlpimkmkcfbddaa
