/- The desk: can a question be? Printed by mk_dkrt.py. No condition. -/
import Derived.Test.YtlpimkmkcfbddaaDkAl
import Derived.Laws.Externs
namespace Go.Proofs.Ytlpimkmkcfbddaa
open Go.RowKit

theorem bits64 (w : World) : (callFunc 115 #[.float .f64 0]).run Try.prog w = .ok (.value (.int .u64 0)) w := by
  rw [run_callFunc_extern (e := Extern.MathFloatBits.float64bits) Try.func115 (by kernel_rfl) (by kernel_rfl) (by kernel_rfl) (by kernel_rfl)]
  rfl
set_option maxRecDepth 100000 in
theorem form_z (w : World) : Calls Try.prog 114 #[.int .u64 0] w (RetK noB (.int .u64 0) w) := by
  go_enter Try.func114, Try.ntmps114
  go_wp2_with fail
  go_ret
  exact ⟨rfl, Keeps.refl _ _⟩
set_option maxRecDepth 100000 in
theorem bits_z (w : World) : Calls Try.prog 112 #[.complex .f64 0 0] w (RetK noB (.tuple #[.int .u64 0, .int .u64 0]) w) := by
  have hb := bits64
  go_enter Try.func112, Try.ntmps112
  go_wp2_with (first | (go_at_call 114; refine (form_z _).mono ?_; rintro e w1 ⟨rfl, hk1⟩; have H1 := Lib.hid hk1; clear hk1))
  go_ret2
  exact ⟨rfl, Keeps.trans_no (by assumption) H1.out⟩
set_option maxRecDepth 100000 in
theorem same_z (w : World) : Calls Try.prog 108 #[.complex .f64 0 0, .complex .f64 0 0] w (RetK noB (.bool true) w) := by
  go_enter Try.func108, Try.ntmps108
  go_wp2_with (go_at_call 112; refine (bits_z _).mono ?_; rintro e w1 ⟨rfl, hk1⟩; have H1 := Lib.hid hk1; clear hk1)
  go_ret
  exact ⟨rfl, Keeps.trans_no (by assumption) H1.out⟩
set_option maxRecDepth 100000 in
theorem puts_z (w : World) : Calls Try.prog 100 #[.slice none 0 0] w (RetK noB (.bool true) w) := by
  go_enter Try.func100, Try.ntmps100
  go_wp2_with fail
  go_loopw [7] (fun i wr => i = .int .i64 0 ∧ Keeps noB w wr) (fun _ _ => 0)
  case atStart => exact ⟨rfl, Keeps.refl _ _⟩
  case round =>
    obtain ⟨rfl, hk⟩ := hrel
    go_wp2_with fail
    go_ret
    exact ⟨rfl, hk⟩
set_option maxRecDepth 100000 in
theorem has_z (w : World) : Calls Try.prog 98 #[.int .i64 0] w (RetK noB (.agg #[.bool true, .bool false, .bool false, .bool false, .bool false, .bool false]) w) := by
  go_enter Try.func98, Try.ntmps98
  go_wp2_with fail
  refine bodyPost_ret (results_cell_row (fn := Try.f98) Try.results98 _ _ w.heap.size 149 _ (0, 0) _ rfl (heap_alloc_new _ _) Try.underlying149 rfl (by kernel_rfl)) rfl ?_
  exact ⟨rfl, (Keeps.refl _ _).alloc _⟩
set_option maxRecDepth 100000 in
set_option maxHeartbeats 8000000 in
theorem values_z (w : World) : Calls Try.prog 99 #[.agg #[.complex .f64 0 0, .complex .f64 0 0, .complex .f64 0 0, .complex .f64 0 0], .agg #[.complex .f64 0 0, .complex .f64 0 0, .complex .f64 0 0, .complex .f64 0 0]] w (RetK noB (.bool true) w) := by
  have hsc := run_store_cz
  obtain ⟨wA, hwA⟩ : ∃ wA, wA = w.alloc (.cells #[.complex .f64 0 0, .complex .f64 0 0, .complex .f64 0 0, .complex .f64 0 0] 105) := ⟨_, rfl⟩
  have hkA : Keeps noB w wA := by rw [hwA]; exact (Keeps.refl _ _).alloc _
  have hX : wA.heap[w.heap.size]? = some (.cells #[.complex .f64 0 0, .complex .f64 0 0, .complex .f64 0 0, .complex .f64 0 0] 105 (0, 0)) := by rw [hwA]; exact heap_alloc_new _ _
  obtain ⟨ba, hba⟩ : ∃ b, b = w.heap.size := ⟨_, rfl⟩
  rw [← hba] at hX
  obtain ⟨wB, hwB⟩ : ∃ wB, wB = wA.alloc (.cells #[.complex .f64 0 0, .complex .f64 0 0, .complex .f64 0 0, .complex .f64 0 0] 105) := ⟨_, rfl⟩
  have hkB : Keeps noB wA wB := by rw [hwB]; exact (Keeps.refl _ _).alloc _
  have hY : wB.heap[wA.heap.size]? = some (.cells #[.complex .f64 0 0, .complex .f64 0 0, .complex .f64 0 0, .complex .f64 0 0] 105 (0, 0)) := by rw [hwB]; exact heap_alloc_new _ _
  obtain ⟨bb, hbb⟩ : ∃ b, b = wA.heap.size := ⟨_, rfl⟩
  rw [← hbb] at hY
  have hX2 := hkB.blk hX (noB_not _)
  have HX := Lib.hid (And.intro hX2 (And.intro hY (hkA.trans_no hkB)))
  have hbb2 : bb = w.heap.size + 1 := by rw [hbb, hwA]; exact alloc_size _ _
  clear hX hX2 hY hkA hkB
  go_enter Try.func99, Try.ntmps99
  go_upto_region 1 with fail
  rw [← hwA, ← hwB]
  first | rw [← hbb2] | rw [← hbb]
  rw [← hba]
  clear hba hbb hbb2 hwA hwB hsc
  go_wp2_with fail
  go_loopw [5] (fun i wr => ∃ k : Nat, k ≤ 4 ∧ i = .int .i64 k ∧ Keeps noB wB wr) (fun i _ => 4 - (intOf i).toNat)
  case atStart => exact ⟨0, by omega, rfl, Keeps.refl _ _⟩
  case round =>
    obtain ⟨k, hk0, rfl, hkp⟩ := hrel
    by_cases hlt : k < 4
    · have hS : ∀ w', Keeps noB wB w' → w'.cell? ⟨ba, k, none⟩ = some (.complex .f64 0 0) ∧ w'.cell? ⟨bb, k, none⟩ = some (.complex .f64 0 0) := fun w' hk => by
        have h1 := hk.blk HX.out.1 (noB_not _)
        have h2 := hk.blk HX.out.2.1 (noB_not _)
        rcases (show k = 0 ∨ k = 1 ∨ k = 2 ∨ k = 3 by omega) with rfl | rfl | rfl | rfl <;> exact ⟨blk_cell h1 rfl, blk_cell h2 rfl⟩
      have HS := Lib.hid hS
      have hk := hkp.drew
      clear hS
      go_upto_region 4 with fail
      refine wp_region_held_drew (S := fun w' => w'.cell? ⟨ba, k, none⟩ = some (.complex .f64 0 0) ∧ w'.cell? ⟨bb, k, none⟩ = some (.complex .f64 0 0)) (by kernel_rfl) (HS.out _ hk) (fun hHeld => ?_)
      refine heldTake (i := 0) (v := ?_) rfl (by kernel_rfl) (by kernel_rfl) (by kernel_rfl) (fun _ _ _ h => h) (Or.inl ⟨by rfl, ?_⟩) (by assumption) ?_
      rotate_left
      · (intro w hSw; (try dsimp only at hSw); go_simp) <;> with_reducible rfl
      simp only [Act.put, List.setIfInBounds_toArray, List.set_cons_zero, List.set_cons_succ]
      refine heldTake (i := 1) (v := ?_) rfl (by kernel_rfl) (by kernel_rfl) (by kernel_rfl) (fun _ _ _ h => h) (Or.inl ⟨by rfl, ?_⟩) (by assumption) ?_
      rotate_left
      · (intro w hSw; (try dsimp only at hSw); go_simp) <;> with_reducible rfl
      simp only [Act.put, List.setIfInBounds_toArray, List.set_cons_zero, List.set_cons_succ]
      refine heldTake (i := 2) (v := ?_) rfl (by kernel_rfl) (by kernel_rfl) (by kernel_rfl) (fun _ _ _ h => h) (Or.inl ⟨by rfl, ?_⟩) (by assumption) ?_
      rotate_left
      · (intro w hSw; (try dsimp only at hSw); go_simp) <;> with_reducible rfl
      simp only [Act.put, List.setIfInBounds_toArray, List.set_cons_zero, List.set_cons_succ]
      refine heldTake (i := 3) (v := ?_) rfl (by kernel_rfl) (by kernel_rfl) (by kernel_rfl) (fun _ _ _ h => h) (Or.inl ⟨by rfl, ?_⟩) (by assumption) ?_
      rotate_left
      · (intro w hSw; (try dsimp only at hSw); go_simp) <;> with_reducible rfl
      simp only [Act.put, List.setIfInBounds_toArray, List.set_cons_zero, List.set_cons_succ]
      refine heldTake (i := 4) (v := ?_) rfl (by kernel_rfl) (by kernel_rfl) (by kernel_rfl) (fun _ _ _ h => h) (Or.inl ⟨by rfl, ?_⟩) (by assumption) ?_
      rotate_left
      · (intro w hSw; (try dsimp only at hSw); go_simp) <;> with_reducible rfl
      simp only [Act.put, List.setIfInBounds_toArray, List.set_cons_zero, List.set_cons_succ]
      refine heldTake (i := 5) (v := ?_) rfl (by kernel_rfl) (by kernel_rfl) (by kernel_rfl) (fun _ _ _ h => h) (Or.inl ⟨by rfl, ?_⟩) (by assumption) ?_
      rotate_left
      · (intro w hSw; (try dsimp only at hSw); go_simp) <;> with_reducible rfl
      simp only [Act.put, List.setIfInBounds_toArray, List.set_cons_zero, List.set_cons_succ]
      refine heldOne (i := 6) (by kernel_rfl) rfl (fun K hK => ?_)
      go_simp
      go_at_call 108
      refine (same_z _).mono ?_
      rintro e w2 ⟨rfl, hk2⟩
      replace hk := hk.trans_no hk2
      clear hk2
      go_wp2_with fail
      refine hK.out _ _ (HS.out _ hk) (fun hHeld => ?_)
      clear hK K
      try simp only [Act.put, List.setIfInBounds_toArray, List.set_cons_zero, List.set_cons_succ]
      refine heldTake (i := 7) (v := ?_) rfl (by kernel_rfl) (by kernel_rfl) (by kernel_rfl) (fun _ _ _ h => h) (Or.inl ⟨by rfl, ?_⟩) (by assumption) ?_
      rotate_left
      · (intro w hSw; (try dsimp only at hSw); go_simp) <;> with_reducible rfl
      simp only [Act.put, List.setIfInBounds_toArray, List.set_cons_zero, List.set_cons_succ]
      refine wpAnyH_done (by kernel_rfl) ?_ _
      go_wp2_with fail
      exact ⟨⟨k + 1, by omega, by go_num, hk⟩, by simp [intOf]; omega⟩
    · have hk : k = 4 := by omega
      subst hk
      go_wp2_with fail
      go_ret
      exact ⟨rfl, HX.out.2.2.trans_no hkp⟩
def rightM (p o : Int) : Bool := decide (0 ≤ p ∧ p ≤ 5 ∧ 0 ≤ o ∧ o ≤ 3)
set_option maxRecDepth 100000 in
set_option maxHeartbeats 8000000 in
theorem right_z (p o : Int) (w : World) : Calls Try.prog 71 #[msgv 0 p o 0 0 false] w (RetK noB (.bool (rightM p o)) w) := by
  have hsc := run_store_cz
  obtain ⟨wA, hwA⟩ : ∃ wA, wA = w.alloc (.cells #[.int .i64 0, .int .i64 p, .int .i64 o, .int .i64 0, .int .i64 0, .int .i64 0, .bool false, .slice none 0 0, .complex .f64 0 0, .complex .f64 0 0, .complex .f64 0 0, .complex .f64 0 0] 107) := ⟨_, rfl⟩
  have hkA : Keeps noB w wA := by rw [hwA]; exact (Keeps.refl _ _).alloc _
  have hX : wA.heap[w.heap.size]? = some (.cells #[.int .i64 0, .int .i64 p, .int .i64 o, .int .i64 0, .int .i64 0, .int .i64 0, .bool false, .slice none 0 0, .complex .f64 0 0, .complex .f64 0 0, .complex .f64 0 0, .complex .f64 0 0] 107 (0, 0)) := by rw [hwA]; exact heap_alloc_new _ _
  obtain ⟨ba, hba⟩ : ∃ b, b = w.heap.size := ⟨_, rfl⟩
  rw [← hba] at hX
  have HX := Lib.hid (And.intro hX hkA)
  clear hX hkA
  by_cases h1 : p < 0
  · have e : rightM p o = false := decide_eq_false (by omega)
    have d1 : decide (p < 0) = true := decide_eq_true h1
    rw [e]; clear e
    go_enter Try.func71, Try.ntmps71
    go_upto_region 1 with fail
    rw [← hwA, ← hba]
    clear hwA hba
    obtain ⟨m0, m1, m2, m3, m4, m5, m6, m7, m8, m9, m10, m11⟩ := msg_cells HX.out.1
    go_wp2_with fail
    go_ret
    exact ⟨rfl, HX.out.2⟩
  by_cases h2 : p > 5
  · have e : rightM p o = false := decide_eq_false (by omega)
    have d1 : decide (p < 0) = false := decide_eq_false h1
    have d2 : decide (p > 5) = true := decide_eq_true h2
    rw [e]; clear e
    go_enter Try.func71, Try.ntmps71
    go_upto_region 1 with fail
    rw [← hwA, ← hba]
    clear hwA hba
    obtain ⟨m0, m1, m2, m3, m4, m5, m6, m7, m8, m9, m10, m11⟩ := msg_cells HX.out.1
    go_wp2_with fail
    go_ret
    exact ⟨rfl, HX.out.2⟩
  by_cases h3 : o < 0
  · have e : rightM p o = false := decide_eq_false (by omega)
    have d1 : decide (p < 0) = false := decide_eq_false h1
    have d2 : decide (p > 5) = false := decide_eq_false h2
    have d3 : decide (o < 0) = true := decide_eq_true h3
    rw [e]; clear e
    go_enter Try.func71, Try.ntmps71
    go_upto_region 1 with fail
    rw [← hwA, ← hba]
    clear hwA hba
    obtain ⟨m0, m1, m2, m3, m4, m5, m6, m7, m8, m9, m10, m11⟩ := msg_cells HX.out.1
    go_wp2_with fail
    go_ret
    exact ⟨rfl, HX.out.2⟩
  by_cases h4 : o > 3
  · have e : rightM p o = false := decide_eq_false (by omega)
    have d1 : decide (p < 0) = false := decide_eq_false h1
    have d2 : decide (p > 5) = false := decide_eq_false h2
    have d3 : decide (o < 0) = false := decide_eq_false h3
    have d4 : decide (o > 3) = true := decide_eq_true h4
    rw [e]; clear e
    go_enter Try.func71, Try.ntmps71
    go_upto_region 1 with fail
    rw [← hwA, ← hba]
    clear hwA hba
    obtain ⟨m0, m1, m2, m3, m4, m5, m6, m7, m8, m9, m10, m11⟩ := msg_cells HX.out.1
    go_wp2_with fail
    go_ret
    exact ⟨rfl, HX.out.2⟩
  have e : rightM p o = true := decide_eq_true (by omega)
  have d1 : decide (p < 0) = false := decide_eq_false h1
  have d2 : decide (p > 5) = false := decide_eq_false h2
  have d3 : decide (o < 0) = false := decide_eq_false h3
  have d4 : decide (o > 3) = false := decide_eq_false h4
  rw [e]; clear e h1 h2 h3 h4
  go_enter Try.func71, Try.ntmps71
  go_upto_region 1 with fail
  rw [← hwA, ← hba]
  clear hwA hba
  obtain ⟨m0, m1, m2, m3, m4, m5, m6, m7, m8, m9, m10, m11⟩ := msg_cells HX.out.1
  go_upto_region 4 with (go_at_call 98; refine (has_z _).mono ?_; rintro e w2 ⟨rfl, hk2⟩)
  have hk3 : Keeps noB w2 (w2.alloc (.cells #[.bool true, .bool false, .bool false, .bool false, .bool false, .bool false] 149)) := (Keeps.refl _ _).alloc _
  have hH := heap_alloc_new w2 (.cells #[.bool true, .bool false, .bool false, .bool false, .bool false, .bool false] 149)
  generalize w2.alloc (.cells #[.bool true, .bool false, .bool false, .bool false, .bool false, .bool false] 149) = wC at *
  generalize w2.heap.size = bc at *
  clear m0 m1 m2 m3 m4 m5 m6 m7 m8 m9 m10 m11
  obtain ⟨m0, m1, m2, m3, m4, m5, m6, m7, m8, m9, m10, m11⟩ := msg_cells ((hk2.trans_no hk3).blk HX.out.1 (noB_not _))
  have n0 := blk_cell hH (i := 0) (v := .bool true) rfl
  have n1 := blk_cell hH (i := 1) (v := .bool false) rfl
  have n2 := blk_cell hH (i := 2) (v := .bool false) rfl
  have n3 := blk_cell hH (i := 3) (v := .bool false) rfl
  have n4 := blk_cell hH (i := 4) (v := .bool false) rfl
  have n5 := blk_cell hH (i := 5) (v := .bool false) rfl
  have HK := Lib.hid (HX.out.2.trans_no (hk2.trans_no hk3))
  have HM := Lib.hid ((hk2.trans_no hk3).blk HX.out.1 (noB_not _))
  clear hk2 hk3 hH
  go_wp2_with (first
    | (go_at_call 99; refine (values_z _).mono ?_; rintro e w3 ⟨rfl, hk4⟩; clear m0 m1 m2 m3 m4 m5 m6 m7 m8 m9 m10 m11 n0 n1 n2 n3 n4 n5; have m7 := blk_cell (hk4.blk HM.out (noB_not _)) (i := 7) (v := .slice none 0 0) rfl; have H4 := Lib.hid hk4; clear hk4)
    | (go_at_call 100; refine (puts_z _).mono ?_; rintro e w4 ⟨rfl, hk5⟩; have H5 := Lib.hid hk5; clear hk5))
  go_ret
  exact ⟨rfl, (HK.out.trans_no H4.out).trans_no H5.out⟩
end Go.Proofs.Ytlpimkmkcfbddaa
