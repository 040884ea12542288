/- The document's table: what its small functions answer. No condition. -/
import Derived.Test.YtlpimkmkcfbddaaTrP
import Derived.Test.YtlpimkmkcfbddaaTab
namespace Go.Proofs.Ytlpimkmkcfbddaa
open Go.RowKit

theorem in_r (c p : Int) (w : World) : Calls Try.prog 81 #[.int .i64 c, .int .i64 p] w (Ret (.bool (inT c p)) w) := by
  go_enter Try.func81, Try.ntmps81
  go_wp2
  all_goals go_ret
  all_goals exact ret_b (by unfold inT; grind)

def okB (m : Int) : Bool := decide (0 ≤ m ∧ m ≤ 15)
def mkB (m : Int) : BitVec 4 := if okB m = true then mk4 m else 0#4
theorem bits_r (m : Int) (w : World) : Calls Try.prog 80 #[.int .i64 m] w (RetK noB (.tuple #[.agg (bcells (mkB m)), .bool (okB m)]) w) := by
  by_cases h0 : m < 0
  · have d0 : decide (m < 0) = true := decide_eq_true h0
    have ho : okB m = false := by unfold okB; exact decide_eq_false (by omega)
    have hm : bcells (mkB m) = #[.bool false, .bool false, .bool false, .bool false] := by unfold mkB; rw [if_neg (by rw [ho]; decide)]; rfl
    rw [hm, ho]
    clear hm ho
    go_enter Try.func80, Try.ntmps80
    go_wp2_with fail
    refine bodyPost_ret (results_row_tmp (fn := Try.f80) Try.results80 _ _ _ 42 _ (0, 0) _ rfl (heap_alloc_new _ _) Try.underlying42 rfl (by kernel_rfl)) rfl ?_
    exact ⟨rfl, (Keeps.refl _ _).alloc _⟩
  · have d0 : decide (m < 0) = false := decide_eq_false h0
    by_cases h1 : m > 15
    · have d1 : decide (m > 15) = true := decide_eq_true h1
      have ho : okB m = false := by unfold okB; exact decide_eq_false (by omega)
      have hm : bcells (mkB m) = #[.bool false, .bool false, .bool false, .bool false] := by unfold mkB; rw [if_neg (by rw [ho]; decide)]; rfl
      rw [hm, ho]
      clear hm ho
      go_enter Try.func80, Try.ntmps80
      go_wp2_with fail
      refine bodyPost_ret (results_row_tmp (fn := Try.f80) Try.results80 _ _ _ 42 _ (0, 0) _ rfl (heap_alloc_new _ _) Try.underlying42 rfl (by kernel_rfl)) rfl ?_
      exact ⟨rfl, (Keeps.refl _ _).alloc _⟩
    · have d1 : decide (m > 15) = false := decide_eq_false h1
      have ho : okB m = true := by unfold okB; exact decide_eq_true (by omega)
      have hx : mkB m = mk4 m := by unfold mkB; rw [if_pos ho]
      have hm : mv (mk4 m) = m := mv_mk4 (by omega) (by omega)
      have hb := bits_mv (mk4 m)
      rw [hm] at hb
      obtain ⟨b0, b1, b2, b3⟩ := hb
      rw [ho, hx]
      unfold bcells
      rw [← b0, ← b1, ← b2, ← b3]
      clear b0 b1 b2 b3 hm hx ho
      go_enter Try.func80, Try.ntmps80
      go_wp2_with fail
      refine bodyPost_ret (results_row_tmp (fn := Try.f80) Try.results80 _ _ _ 42 _ (0, 0) _ rfl (heap_alloc_new _ _) Try.underlying42 rfl (by kernel_rfl)) rfl ?_
      exact ⟨rfl, (Keeps.refl _ _).alloc _⟩

theorem mask_r (x : BitVec 4) (w : World) : Calls Try.prog 82 #[.agg (bcells x)] w (RetK noB (.int .i64 (mv x)) w) := by
  have hB := heap_alloc_new w (.cells (bcells x) 42)
  have hk0 : Keeps noB w (w.alloc (.cells (bcells x) 42)) := (Keeps.refl _ _).alloc _
  have HB := Lib.hid (And.intro hB hk0)
  clear hB hk0
  go_enter Try.func82, Try.ntmps82
  go_wp2_with fail
  go_loop [3, 4, 5] (fun n v i => ∃ k : Nat, k ≤ 4 ∧ i = .int .i64 k ∧ n = .int .i64 (lowv x k) ∧ v = .int .i64 (pw k)) (fun _ _ i => 4 - (intOf i).toNat)
  case atStart => exact ⟨0, by omega, rfl, by rw [lowv_0], rfl⟩
  case round =>
    obtain ⟨k, hk, rfl, rfl, rfl⟩ := hrel
    by_cases hlt : k < 4
    · have hc := blk_cell HB.out.1 (bcells_at x hlt)
      obtain ⟨p1, p2, p3⟩ := pw_s hlt
      have hlo := lowv_le x k
      have HP := Lib.hid p1
      clear p1
      cases hb : bt x k
      · rw [hb] at hc
        have HL := Lib.hid (lowv_f hlt hb)
        clear hb
        go_wp2_with fail
        go_round
        case rel => exact ⟨k + 1, by omega, by go_num, by rw [HL.out], by rw [← HP.out]⟩
        case measure => simp [intOf]; omega
      · rw [hb] at hc
        have HL := Lib.hid (lowv_t hlt hb)
        clear hb
        go_wp2_with fail
        go_round
        case rel => exact ⟨k + 1, by omega, by go_num, by rw [HL.out], by rw [← HP.out]⟩
        case measure => simp [intOf]; omega
    · have : k = 4 := by omega
      subst this
      go_wp2_with fail
      go_ret
      exact ⟨by rw [lowv_4]; rfl, HB.out.2⟩
theorem copies_r (c p : Int) (T : TB) (w : World) : Calls Try.prog 33 #[.agg (rcells T), .int .i64 c, .int .i64 p] w (RetK noB (.int .i64 (mv (T.copies c p))) w) := by
  cases h : inT c p
  · have hr : T.copies c p = 0#4 := by unfold TB.copies; rw [h]; rfl
    have HR := Lib.hid hr
    clear hr
    go_enter Try.func33, Try.ntmps33
    go_wp2_with (go_at_call 81; refine (in_r _ _ _).mono ?_; rintro e w' ⟨rfl, rfl⟩; try rw [h])
    go_ret
    exact ⟨by rw [HR.out]; rfl, (Keeps.refl _ _).alloc _⟩
  · obtain ⟨a, q, rfl, rfl, ha, hq⟩ := inT_open h
    have hr : T.copies a q = T.co a q := by unfold TB.copies; rw [h]; rfl
    have HR := Lib.hid hr
    clear hr
    have hA : RtAt (w.alloc (.cells (rcells T) 46)) w.heap.size T := heap_alloc_new _ _
    have c0 := hA.co ha hq (i := 0) (by omega)
    have c1 := hA.co ha hq (i := 1) (by omega)
    have c2 := hA.co ha hq (i := 2) (by omega)
    have c3 := hA.co ha hq (i := 3) (by omega)
    simp only [Nat.add_zero] at c0
    go_enter Try.func33, Try.ntmps33
    have hk0 : Keeps noB w (w.alloc (.cells (rcells T) 46)) := (Keeps.refl _ _).alloc _
    have hM := mask_r (T.co a q) (w.alloc (.cells (rcells T) 46))
    unfold bcells at hM
    have HM := Lib.hid (And.intro hM hk0)
    clear hM hk0 hA
    go_wp2_with (first | (go_at_call 81; refine (in_r _ _ _).mono ?_; rintro e w' ⟨rfl, rfl⟩; try rw [h]) | (go_at_call 82; refine HM.out.1.mono ?_; rintro e w' ⟨rfl, hk1⟩))
    go_ret
    exact ⟨by rw [HR.out]; rfl, HM.out.2.trans_no hk1⟩
theorem owns_r (c p : Int) (T : TB) (w : World) : Calls Try.prog 34 #[.agg (rcells T), .int .i64 c, .int .i64 p] w (RetK noB (.int .i64 (mv (T.owns c p))) w) := by
  cases h : inT c p
  · have hr : T.owns c p = 0#4 := by unfold TB.owns; rw [h]; rfl
    have HR := Lib.hid hr
    clear hr
    go_enter Try.func34, Try.ntmps34
    go_wp2_with (go_at_call 81; refine (in_r _ _ _).mono ?_; rintro e w' ⟨rfl, rfl⟩; try rw [h])
    go_ret
    exact ⟨by rw [HR.out]; rfl, (Keeps.refl _ _).alloc _⟩
  · obtain ⟨a, q, rfl, rfl, ha, hq⟩ := inT_open h
    have hr : T.owns a q = T.ow a q := by unfold TB.owns; rw [h]; rfl
    have HR := Lib.hid hr
    clear hr
    have hA : RtAt (w.alloc (.cells (rcells T) 46)) w.heap.size T := heap_alloc_new _ _
    have c0 := hA.ow ha hq (i := 0) (by omega)
    have c1 := hA.ow ha hq (i := 1) (by omega)
    have c2 := hA.ow ha hq (i := 2) (by omega)
    have c3 := hA.ow ha hq (i := 3) (by omega)
    simp only [Nat.add_zero] at c0
    go_enter Try.func34, Try.ntmps34
    have hk0 : Keeps noB w (w.alloc (.cells (rcells T) 46)) := (Keeps.refl _ _).alloc _
    have hM := mask_r (T.ow a q) (w.alloc (.cells (rcells T) 46))
    unfold bcells at hM
    have HM := Lib.hid (And.intro hM hk0)
    clear hM hk0 hA
    go_wp2_with (first | (go_at_call 81; refine (in_r _ _ _).mono ?_; rintro e w' ⟨rfl, rfl⟩; try rw [h]) | (go_at_call 82; refine HM.out.1.mono ?_; rintro e w' ⟨rfl, hk1⟩))
    go_ret
    exact ⟨by rw [HR.out]; rfl, HM.out.2.trans_no hk1⟩
end Go.Proofs.Ytlpimkmkcfbddaa
