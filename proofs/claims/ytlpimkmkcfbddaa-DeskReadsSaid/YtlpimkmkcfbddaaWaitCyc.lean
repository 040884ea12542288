/- Walks of waits: Index, Contains, Cycle, Victim. No condition. -/
import Derived.Test.YtlpimkmkcfbddaaWait
import Derived.Test.YtlpimkmkcfbddaaTabGive
import Derived.WalkMore
import Derived.ScopeJumps
namespace Go.Proofs.Ytlpimkmkcfbddaa
open Go.RowKit

set_option maxRecDepth 100000 in
set_option maxHeartbeats 4000000 in
theorem index_c (B : Nat) (a : Option Addr) (c : Nat) (L : List Int) (x : Int) (w : World) (ho : OwnI w B (.slice a L.length c) L) (h4 : L.length ≤ 4) :
    Calls Try.prog 104 #[.slice a L.length c, .int .i64 x] w fun e w' => ∃ r : Int, e = .returned (.int .i64 r) ∧ w = w' ∧ decide (0 ≤ r) = decide (x ∈ L) := by
  go_enter Try.func104, Try.ntmps104
  go_wp2_with fail
  go_loopw [8] (fun i wr => ∃ k : Nat, k ≤ L.length ∧ i = .int .i64 k ∧ wr = w ∧ x ∉ L.take k)
    (fun i _ => L.length - (intOf i).toNat)
  case atStart => exact ⟨0, by omega, rfl, rfl, by simp⟩
  case round =>
    obtain ⟨k, hk, rfl, rfl, hno⟩ := hrel
    by_cases hlt : k < L.length
    · obtain ⟨g, rfl, _, hg, hc⟩ := ho.cell hlt
      have he : L.getD k 0 = L[k] := by rw [List.getD_eq_getElem?_getD, List.getElem?_eq_getElem hlt]; rfl
      rw [he] at hc
      by_cases hx : L[k] = x
      · have hb : (x == L[k]) = true := by simp [hx]
        have hmem : x ∈ L := by rw [← hx]; exact List.getElem_mem hlt
        have HX := Lib.hid hx
        generalize L[k] = z at *
        go_wp2_with fail
        go_ret
        exact ⟨_, rfl, rfl, by rw [decide_eq_true hmem]; exact decide_eq_true (by omega)⟩
      · have hb : (x == L[k]) = false := by simp; exact fun h => hx h.symm
        have hno2 : x ∉ L.take (k + 1) := fun h => by
          rcases take_one hlt h with h | h
          · exact hno h
          · exact hx h.symm
        generalize L[k] = z at *
        go_wp2_with fail
        go_roundw
        case rel => exact ⟨k + 1, by omega, by go_num, trivial, hno2⟩
        case measure => simp [intOf]; omega
    · have : k = L.length := by omega
      subst this
      rw [List.take_length] at hno
      go_wp2_with fail
      go_ret
      exact ⟨-1, by simp [hno]⟩

theorem contains_c (B : Nat) (a : Option Addr) (c : Nat) (L : List Int) (x : Int) (w : World) (ho : OwnI w B (.slice a L.length c) L) (h4 : L.length ≤ 4) :
    Calls Try.prog 85 #[.slice a L.length c, .int .i64 x] w (Ret (.bool (decide (x ∈ L))) w) := by
  go_enter Try.func85, Try.ntmps85
  go_wp2_with (go_at_call 104; refine (index_c B a c L x w ho h4).mono ?_; rintro e w' ⟨r, rfl, rfl, hr⟩)
  go_ret
  exact ret_b rfl

theorem cyc_dec (l : List (Int × Int)) (x : Int) : decide (x ∈ reachL l x) = cyc l x := by
  cases e : cyc l x
  · exact decide_eq_false fun h => by rw [(cyc_mem l x).2 h] at e; cases e
  · exact decide_eq_true ((cyc_mem l x).1 e)

theorem cycle_c (l : List (Int × Int)) (hl : l.length ≤ 9223372036854775807) (a : Option Addr) (cap : Nat) (x : Int) (w : World) (he : EdR w w.heap.size a l) :
    Calls Try.prog 42 #[.slice a l.length cap, .int .i64 x] w (RetK noB (.bool (cyc l x)) w) := by
  go_enter Try.func42, Try.ntmps42
  go_wp2_with fail
  refine (reach_c l hl a cap x w he).mono ?_
  rintro e w1 ⟨v, ⟨rfl, hk1⟩, ho⟩
  obtain ⟨g, c, rfl⟩ := ho.slice
  have h4 := reachL_le l x
  go_wp2_with (go_at_call 85; refine (contains_c _ _ _ _ x w1 ho h4).mono ?_; rintro e w' ⟨rfl, rfl⟩)
  go_ret
  exact ⟨by rw [cyc_dec]; rfl, hk1⟩

def vicV (o : Option Nat) : Value := match o with
  | none => .tuple #[.int .i64 0, .bool false]
  | some v => .tuple #[.int .i64 v, .bool true]

set_option maxRecDepth 1000000 in
set_option maxHeartbeats 4000000 in
theorem victim_c (l : List (Int × Int)) (hl : l.length ≤ 9223372036854775807) (a : Option Addr) (cap : Nat) (w : World) (he : EdR w w.heap.size a l) :
    Calls Try.prog 39 #[.slice a l.length cap] w (RetK noB (vicV (vicN l 4)) w) := by
  have s3 : vicN l 4 = if cyc l ((3 : Nat) : Int) then some 3 else vicN l 3 := rfl
  go_enter Try.func39, Try.ntmps39
  go_wp2_with fail
  refine wp_scope_jumps 0 (fun a' w' => Keeps noB w w' ∧ ∃ (c : Nat) (u1 u5 u6 u7 u8 u9 u10 u11 u12 u13 u14 u15 : Value), a' = { tmps := #[.slice a l.length cap, u1, .int .i64 0, .bool false, .int .i64 c, u5, u6, u7, u8, u9, u10, u11, u12, u13, u14, u15], defers := [] } ∧ c ≤ 3 ∧ vicN l c = vicN l 4) (fun a' _ => (intOf (a'.tmps.getD 4 undef)).toNat) rfl ?_ ?_
  · go_wp2_with fail
    go_step3
    have hc := cycle_c l hl a cap 3 w he
    cases hcy : cyc l ((3 : Nat) : Int)
    · rw [hcy, if_neg (by simp)] at s3
      rw [show cyc l 3 = false from hcy] at hc
      go_wp2_with (go_at_call 42; refine hc.mono ?_; rintro e w1 ⟨rfl, hk1⟩)
      go_step3
      exact ⟨rfl, hk1, 3, _, _, _, _, _, _, _, _, _, _, _, _, rfl, by omega, s3.symm⟩
    · rw [hcy, if_pos rfl] at s3
      rw [show cyc l 3 = true from hcy] at hc
      go_wp2_with (go_at_call 42; refine hc.mono ?_; rintro e w1 ⟨rfl, hk1⟩)
      simp only [Exit.jump]
      go_ret2
      exact ⟨by rw [s3]; rfl, hk1⟩
  · clear s3
    rintro a' w' ⟨hk0, c, u1, u5, u6, u7, u8, u9, u10, u11, u12, u13, u14, u15, rfl, hc3, hv⟩
    have he' := he.keep hk0 (fun b _ => noB_not b)
    have heS : EdR w' w'.heap.size a l := fun k hkl => by
      obtain ⟨b, off, ha, _, hs, h1, h2⟩ := he' k hkl
      exact ⟨b, off, ha, hs, hs, h1, h2⟩
    rcases Nat.eq_zero_or_pos c with h0 | h0
    · subst h0
      have hv0 := Lib.hid (show vicN l 4 = none from hv.symm)
      clear hv
      go_wp2_with fail
      simp only [Exit.jump]
      go_ret2
      exact ⟨by rw [hv0.out]; rfl, hk0⟩
    · obtain ⟨j, rfl⟩ : ∃ j, c = j + 1 := ⟨c - 1, by omega⟩
      have hj : ((j + 1 : Nat) : Int) - 1 = (j : Int) := by omega
      have sj : vicN l (j + 1) = if cyc l (j : Int) then some j else vicN l j := rfl
      rw [hv] at sj
      have hc := cycle_c l hl a cap (j : Int) w' heS
      cases hcy : cyc l (j : Int)
      · rw [hcy, if_neg (by simp)] at sj
        rw [hcy] at hc
        have SJ := Lib.hid sj
        clear sj hv
        go_wp2_with (go_at_call 42; refine hc.mono ?_; rintro e w1 ⟨rfl, hk1⟩)
        go_step3
        refine ⟨rfl, ⟨hk0.trans_no hk1, j, _, _, _, _, _, _, _, _, _, _, _, _, rfl, by omega, SJ.out.symm⟩, ?_⟩
        simp [intOf]
      · rw [hcy, if_pos rfl] at sj
        rw [hcy] at hc
        have SJ := Lib.hid sj
        clear sj hv
        go_wp2_with (go_at_call 42; refine hc.mono ?_; rintro e w1 ⟨rfl, hk1⟩)
        simp only [Exit.jump]
        go_ret2
        exact ⟨by rw [SJ.out]; rfl, hk0.trans_no hk1⟩
end Go.Proofs.Ytlpimkmkcfbddaa
