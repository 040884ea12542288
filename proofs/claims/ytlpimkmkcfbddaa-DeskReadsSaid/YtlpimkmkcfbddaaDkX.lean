/- The desk: a client says something. Printed by mk_dkx.py. No condition. -/
import Derived.Test.YtlpimkmkcfbddaaDkW
namespace Go.Proofs.Ytlpimkmkcfbddaa
open Go.RowKit

/-- What a call that settles returns. -/
def SetTo (w : World) (D : Nat → Prop) (pd tb qp r : Nat) (u : Dp) (e : Ending) (w' : World) : Prop :=
  ∃ a c D1, e = .returned (.slice a u.al.length c) ∧ DkS w w' D D1 pd tb qp r { u with al := [] } ∧ AcR w' (.slice a u.al.length c) u.al
theorem SetTo.pre {w w1 w2 : World} {D D1 : Nat → Prop} {pd tb qp r : Nat} {s u : Dp} {e : Ending} (h : DkS w w1 D D1 pd tb qp r s) (k : SetTo w1 D1 pd tb qp r u e w2) : SetTo w D pd tb qp r u e w2 := by
  obtain ⟨a, c, D2, h1, h2, h3⟩ := k
  exact ⟨a, c, D2, h1, h.trans h2, h3⟩
theorem msg_cells {w : World} {b : Nat} {xk xp xo xy xw : Int} {xb : Bool} (h : w.heap[b]? = some (.cells #[.int .i64 xk, .int .i64 xp, .int .i64 xo, .int .i64 0, .int .i64 xy, .int .i64 xw, .bool xb, .slice none 0 0, .complex .f64 0 0, .complex .f64 0 0, .complex .f64 0 0, .complex .f64 0 0] 107 (0, 0))) :
    w.cell? ⟨b, 0, none⟩ = some (.int .i64 xk) ∧ w.cell? ⟨b, 1, none⟩ = some (.int .i64 xp) ∧ w.cell? ⟨b, 2, none⟩ = some (.int .i64 xo) ∧ w.cell? ⟨b, 3, none⟩ = some (.int .i64 0) ∧ w.cell? ⟨b, 4, none⟩ = some (.int .i64 xy) ∧ w.cell? ⟨b, 5, none⟩ = some (.int .i64 xw) ∧ w.cell? ⟨b, 6, none⟩ = some (.bool xb) ∧ w.cell? ⟨b, 7, none⟩ = some (.slice none 0 0) ∧ w.cell? ⟨b, 8, none⟩ = some (.complex .f64 0 0) ∧ w.cell? ⟨b, 9, none⟩ = some (.complex .f64 0 0) ∧ w.cell? ⟨b, 10, none⟩ = some (.complex .f64 0 0) ∧ w.cell? ⟨b, 11, none⟩ = some (.complex .f64 0 0) :=
  ⟨blk_cell h (i := 0) rfl, blk_cell h (i := 1) rfl, blk_cell h (i := 2) rfl, blk_cell h (i := 3) rfl, blk_cell h (i := 4) rfl, blk_cell h (i := 5) rfl, blk_cell h (i := 6) rfl, blk_cell h (i := 7) rfl, blk_cell h (i := 8) rfl, blk_cell h (i := 9) rfl, blk_cell h (i := 10) rfl, blk_cell h (i := 11) rfl⟩
set_option maxRecDepth 100000 in
set_option maxHeartbeats 16000000 in
theorem handle_read {w : World} {D : Nat → Prop} {pd tb qp r : Nat} {s u : Dp} (h : DkD w D pd tb qp r s) (hl : s.ws.length ≤ 1000) (c xp xo xy xw : Int) (hset : Settles { s with ws := addW ⟨c, xp, xo, false⟩ s.ws } u) :
    Calls Try.prog 72 #[.pointer (some ⟨pd, 0, none⟩), .int .i64 c, .agg #[.int .i64 0, .int .i64 xp, .int .i64 xo, .int .i64 0, .int .i64 xy, .int .i64 xw, .bool false, .slice none 0 0, .complex .f64 0 0, .complex .f64 0 0, .complex .f64 0 0, .complex .f64 0 0]] w (SetTo w D pd tb qp r u) := by
  obtain ⟨wA, hwA⟩ : ∃ wA, wA = w.alloc (.cells #[.int .i64 0, .int .i64 xp, .int .i64 xo, .int .i64 0, .int .i64 xy, .int .i64 xw, .bool false, .slice none 0 0, .complex .f64 0 0, .complex .f64 0 0, .complex .f64 0 0, .complex .f64 0 0] 107) := ⟨_, rfl⟩
  have hkA : Keeps noB w wA := by rw [hwA]; exact (Keeps.refl _ _).alloc _
  have hX : wA.heap[w.heap.size]? = some (.cells #[.int .i64 0, .int .i64 xp, .int .i64 xo, .int .i64 0, .int .i64 xy, .int .i64 xw, .bool false, .slice none 0 0, .complex .f64 0 0, .complex .f64 0 0, .complex .f64 0 0, .complex .f64 0 0] 107 (0, 0)) := by rw [hwA]; exact heap_alloc_new _ _
  obtain ⟨ba, hba⟩ : ∃ b, b = w.heap.size := ⟨_, rfl⟩
  rw [← hba] at hX
  obtain ⟨wB, hwB⟩ : ∃ wB, wB = wA.alloc (.cells #[.int .i64 c, .int .i64 xp, .int .i64 xo, .bool false] 73) := ⟨_, rfl⟩
  have hkB : Keeps noB wA wB := by rw [hwB]; exact (Keeps.refl _ _).alloc _
  have hY : wB.heap[wA.heap.size]? = some (.cells #[.int .i64 c, .int .i64 xp, .int .i64 xo, .bool false] 73 (0, 0)) := by rw [hwB]; exact heap_alloc_new _ _
  obtain ⟨bb, hbb⟩ : ∃ b, b = wA.heap.size := ⟨_, rfl⟩
  rw [← hbb] at hY
  have hs := (DkS.refl h).no (hkA.trans_no hkB)
  have hnb : ¬ D bb := fun e => by have := h.lt e; have := hkA.size; omega
  have hS : ∀ w' D' s', DkS wB w' D D' pd tb qp r s' → w'.cell? ⟨pd, 1, none⟩ = some (.pointer (some ⟨qp, 0, none⟩)) ∧ w'.cell? ⟨bb, 0, none⟩ = some (.int .i64 c) ∧ w'.cell? ⟨bb, 1, none⟩ = some (.int .i64 xp) ∧ w'.cell? ⟨bb, 2, none⟩ = some (.int .i64 xo) ∧ w'.cell? ⟨bb, 3, none⟩ = some (.bool false) := fun w' D' s' hs => ⟨hs.at_.cells.2, box_cells (hs.kp.blk hY hnb)⟩
  have HS := Lib.hid hS
  have HX := Lib.hid (And.intro hX (And.intro hkB hset))
  have HH := Lib.hid hs
  clear hS hX hkB hkA hY hset h hnb hs
  have hs := (DkS.refl HH.out.at_).no ((Keeps.refl noB wB).drew)
  go_enter Try.func72, Try.ntmps72
  go_upto_region 1 with fail
  rw [← hwA, ← hba]
  clear hwA hba
  obtain ⟨m0, m1, m2, m3, m4, m5, m6, m7, m8, m9, m10, m11⟩ := msg_cells HX.out.1
  go_upto_region 2 with fail
  rw [← hwB, ← hbb]
  clear hwB hbb m0 m1 m2 m3 m4 m5 m6 m7 m8 m9 m10 m11
  obtain ⟨m0, m1, m2, m3, m4, m5, m6, m7, m8, m9, m10, m11⟩ := msg_cells (HX.out.2.1.blk HX.out.1 (noB_not _))
  go_upto_region 5 with fail
  refine wp_region_held_drew (S := fun w' => w'.cell? ⟨pd, 1, none⟩ = some (.pointer (some ⟨qp, 0, none⟩)) ∧ w'.cell? ⟨bb, 0, none⟩ = some (.int .i64 c) ∧ w'.cell? ⟨bb, 1, none⟩ = some (.int .i64 xp) ∧ w'.cell? ⟨bb, 2, none⟩ = some (.int .i64 xo) ∧ w'.cell? ⟨bb, 3, none⟩ = some (.bool false)) (by kernel_rfl) (HS.out _ _ _ hs) (fun hHeld => ?_)
  refine heldTake (i := 0) (v := ?_) rfl (by kernel_rfl) (by kernel_rfl) (by kernel_rfl) (fun _ _ _ h => h) (Or.inl ⟨by rfl, ?_⟩) (by assumption) ?_
  rotate_left
  · (intro w hSw; (try dsimp only at hSw); go_simp) <;> with_reducible rfl
  simp only [Act.put, List.setIfInBounds_toArray, List.set_cons_zero, List.set_cons_succ]
  refine heldTake (i := 1) (v := ?_) rfl (by kernel_rfl) (by kernel_rfl) (by kernel_rfl) (fun _ _ _ h => h) (Or.inl ⟨by rfl, ?_⟩) (by assumption) ?_
  rotate_left
  · (intro w hSw; (try dsimp only at hSw); go_simp) <;> with_reducible rfl
  simp only [Act.put, List.setIfInBounds_toArray, List.set_cons_zero, List.set_cons_succ]
  refine heldTake (i := 2) (v := ?_) rfl (by kernel_rfl) (by kernel_rfl) (by kernel_rfl) (fun _ _ _ h => h) (Or.inl ⟨by rfl, ?_⟩) (by assumption) ?_
  rotate_left
  · (intro w hSw; (try dsimp only at hSw); go_simp) <;> with_reducible rfl
  simp only [Act.put, List.setIfInBounds_toArray, List.set_cons_zero, List.set_cons_succ]
  refine heldTake (i := 3) (v := ?_) rfl (by kernel_rfl) (by kernel_rfl) (by kernel_rfl) (fun _ _ _ h => h) (Or.inl ⟨by rfl, ?_⟩) (by assumption) ?_
  rotate_left
  · (intro w hSw; (try dsimp only at hSw); go_simp) <;> with_reducible rfl
  simp only [Act.put, List.setIfInBounds_toArray, List.set_cons_zero, List.set_cons_succ]
  refine heldTake (i := 4) (v := ?_) rfl (by kernel_rfl) (by kernel_rfl) (by kernel_rfl) (fun _ _ _ h => h) (Or.inl ⟨by rfl, ?_⟩) (by assumption) ?_
  rotate_left
  · (intro w hSw; (try dsimp only at hSw); go_simp) <;> with_reducible rfl
  simp only [Act.put, List.setIfInBounds_toArray, List.set_cons_zero, List.set_cons_succ]
  refine heldOne (i := 5) (by kernel_rfl) rfl (fun K hK => ?_)
  go_simp
  go_at_call 48
  refine (add_d hs.at_ hl ⟨c, xp, xo, false⟩).mono ?_
  rintro e w3 ⟨rfl, D3, hs3⟩
  replace hs := hs.trans hs3
  clear hs3
  go_wp2_with fail
  refine hK.out _ _ (HS.out _ _ _ hs) (fun hHeld => ?_)
  clear hK K
  try simp only [Act.put, List.setIfInBounds_toArray, List.set_cons_zero, List.set_cons_succ]
  refine wpAnyH_done (by kernel_rfl) ?_ _
  go_wp2_with (go_at_call 102; refine (settle_d hs.at_ HX.out.2.2).mono ?_; rintro e w4 ⟨a4, c4, D4, rfl, hs4, hr4⟩)
  go_ret
  exact SetTo.pre (HH.out.trans hs) ⟨a4, c4, D4, rfl, hs4, hr4⟩
set_option maxRecDepth 100000 in
set_option maxHeartbeats 16000000 in
theorem handle_write {w : World} {D : Nat → Prop} {pd tb qp r : Nat} {s u : Dp} (h : DkD w D pd tb qp r s) (hl : s.ws.length ≤ 1000) (c xp xo xy xw : Int) (hset : Settles { s with ws := addW ⟨c, xp, xo, true⟩ s.ws } u) :
    Calls Try.prog 72 #[.pointer (some ⟨pd, 0, none⟩), .int .i64 c, .agg #[.int .i64 1, .int .i64 xp, .int .i64 xo, .int .i64 0, .int .i64 xy, .int .i64 xw, .bool false, .slice none 0 0, .complex .f64 0 0, .complex .f64 0 0, .complex .f64 0 0, .complex .f64 0 0]] w (SetTo w D pd tb qp r u) := by
  obtain ⟨wA, hwA⟩ : ∃ wA, wA = w.alloc (.cells #[.int .i64 1, .int .i64 xp, .int .i64 xo, .int .i64 0, .int .i64 xy, .int .i64 xw, .bool false, .slice none 0 0, .complex .f64 0 0, .complex .f64 0 0, .complex .f64 0 0, .complex .f64 0 0] 107) := ⟨_, rfl⟩
  have hkA : Keeps noB w wA := by rw [hwA]; exact (Keeps.refl _ _).alloc _
  have hX : wA.heap[w.heap.size]? = some (.cells #[.int .i64 1, .int .i64 xp, .int .i64 xo, .int .i64 0, .int .i64 xy, .int .i64 xw, .bool false, .slice none 0 0, .complex .f64 0 0, .complex .f64 0 0, .complex .f64 0 0, .complex .f64 0 0] 107 (0, 0)) := by rw [hwA]; exact heap_alloc_new _ _
  obtain ⟨ba, hba⟩ : ∃ b, b = w.heap.size := ⟨_, rfl⟩
  rw [← hba] at hX
  obtain ⟨wB, hwB⟩ : ∃ wB, wB = wA.alloc (.cells #[.int .i64 c, .int .i64 xp, .int .i64 xo, .bool true] 73) := ⟨_, rfl⟩
  have hkB : Keeps noB wA wB := by rw [hwB]; exact (Keeps.refl _ _).alloc _
  have hY : wB.heap[wA.heap.size]? = some (.cells #[.int .i64 c, .int .i64 xp, .int .i64 xo, .bool true] 73 (0, 0)) := by rw [hwB]; exact heap_alloc_new _ _
  obtain ⟨bb, hbb⟩ : ∃ b, b = wA.heap.size := ⟨_, rfl⟩
  rw [← hbb] at hY
  have hs := (DkS.refl h).no (hkA.trans_no hkB)
  have hnb : ¬ D bb := fun e => by have := h.lt e; have := hkA.size; omega
  have hS : ∀ w' D' s', DkS wB w' D D' pd tb qp r s' → w'.cell? ⟨pd, 1, none⟩ = some (.pointer (some ⟨qp, 0, none⟩)) ∧ w'.cell? ⟨bb, 0, none⟩ = some (.int .i64 c) ∧ w'.cell? ⟨bb, 1, none⟩ = some (.int .i64 xp) ∧ w'.cell? ⟨bb, 2, none⟩ = some (.int .i64 xo) ∧ w'.cell? ⟨bb, 3, none⟩ = some (.bool true) := fun w' D' s' hs => ⟨hs.at_.cells.2, box_cells (hs.kp.blk hY hnb)⟩
  have HS := Lib.hid hS
  have HX := Lib.hid (And.intro hX (And.intro hkB hset))
  have HH := Lib.hid hs
  clear hS hX hkB hkA hY hset h hnb hs
  have hs := (DkS.refl HH.out.at_).no ((Keeps.refl noB wB).drew)
  go_enter Try.func72, Try.ntmps72
  go_upto_region 1 with fail
  rw [← hwA, ← hba]
  clear hwA hba
  obtain ⟨m0, m1, m2, m3, m4, m5, m6, m7, m8, m9, m10, m11⟩ := msg_cells HX.out.1
  go_upto_region 2 with fail
  rw [← hwB, ← hbb]
  clear hwB hbb m0 m1 m2 m3 m4 m5 m6 m7 m8 m9 m10 m11
  obtain ⟨m0, m1, m2, m3, m4, m5, m6, m7, m8, m9, m10, m11⟩ := msg_cells (HX.out.2.1.blk HX.out.1 (noB_not _))
  go_upto_region 5 with fail
  refine wp_region_held_drew (S := fun w' => w'.cell? ⟨pd, 1, none⟩ = some (.pointer (some ⟨qp, 0, none⟩)) ∧ w'.cell? ⟨bb, 0, none⟩ = some (.int .i64 c) ∧ w'.cell? ⟨bb, 1, none⟩ = some (.int .i64 xp) ∧ w'.cell? ⟨bb, 2, none⟩ = some (.int .i64 xo) ∧ w'.cell? ⟨bb, 3, none⟩ = some (.bool true)) (by kernel_rfl) (HS.out _ _ _ hs) (fun hHeld => ?_)
  refine heldTake (i := 0) (v := ?_) rfl (by kernel_rfl) (by kernel_rfl) (by kernel_rfl) (fun _ _ _ h => h) (Or.inl ⟨by rfl, ?_⟩) (by assumption) ?_
  rotate_left
  · (intro w hSw; (try dsimp only at hSw); go_simp) <;> with_reducible rfl
  simp only [Act.put, List.setIfInBounds_toArray, List.set_cons_zero, List.set_cons_succ]
  refine heldTake (i := 1) (v := ?_) rfl (by kernel_rfl) (by kernel_rfl) (by kernel_rfl) (fun _ _ _ h => h) (Or.inl ⟨by rfl, ?_⟩) (by assumption) ?_
  rotate_left
  · (intro w hSw; (try dsimp only at hSw); go_simp) <;> with_reducible rfl
  simp only [Act.put, List.setIfInBounds_toArray, List.set_cons_zero, List.set_cons_succ]
  refine heldTake (i := 2) (v := ?_) rfl (by kernel_rfl) (by kernel_rfl) (by kernel_rfl) (fun _ _ _ h => h) (Or.inl ⟨by rfl, ?_⟩) (by assumption) ?_
  rotate_left
  · (intro w hSw; (try dsimp only at hSw); go_simp) <;> with_reducible rfl
  simp only [Act.put, List.setIfInBounds_toArray, List.set_cons_zero, List.set_cons_succ]
  refine heldTake (i := 3) (v := ?_) rfl (by kernel_rfl) (by kernel_rfl) (by kernel_rfl) (fun _ _ _ h => h) (Or.inl ⟨by rfl, ?_⟩) (by assumption) ?_
  rotate_left
  · (intro w hSw; (try dsimp only at hSw); go_simp) <;> with_reducible rfl
  simp only [Act.put, List.setIfInBounds_toArray, List.set_cons_zero, List.set_cons_succ]
  refine heldTake (i := 4) (v := ?_) rfl (by kernel_rfl) (by kernel_rfl) (by kernel_rfl) (fun _ _ _ h => h) (Or.inl ⟨by rfl, ?_⟩) (by assumption) ?_
  rotate_left
  · (intro w hSw; (try dsimp only at hSw); go_simp) <;> with_reducible rfl
  simp only [Act.put, List.setIfInBounds_toArray, List.set_cons_zero, List.set_cons_succ]
  refine heldOne (i := 5) (by kernel_rfl) rfl (fun K hK => ?_)
  go_simp
  go_at_call 48
  refine (add_d hs.at_ hl ⟨c, xp, xo, true⟩).mono ?_
  rintro e w3 ⟨rfl, D3, hs3⟩
  replace hs := hs.trans hs3
  clear hs3
  go_wp2_with fail
  refine hK.out _ _ (HS.out _ _ _ hs) (fun hHeld => ?_)
  clear hK K
  try simp only [Act.put, List.setIfInBounds_toArray, List.set_cons_zero, List.set_cons_succ]
  refine wpAnyH_done (by kernel_rfl) ?_ _
  go_wp2_with (go_at_call 102; refine (settle_d hs.at_ HX.out.2.2).mono ?_; rintro e w4 ⟨a4, c4, D4, rfl, hs4, hr4⟩)
  go_ret
  exact SetTo.pre (HH.out.trans hs) ⟨a4, c4, D4, rfl, hs4, hr4⟩
set_option maxRecDepth 100000 in
set_option maxHeartbeats 16000000 in
theorem handle_busy {w : World} {D : Nat → Prop} {pd tb qp r : Nat} {s u : Dp} (h : DkD w D pd tb qp r s) (c xp xo xy xw : Int) (hset : Settles { s with l := busyL c ⟨c, xp, xo, true⟩ s.l } u) :
    Calls Try.prog 72 #[.pointer (some ⟨pd, 0, none⟩), .int .i64 c, .agg #[.int .i64 4, .int .i64 xp, .int .i64 xo, .int .i64 0, .int .i64 xy, .int .i64 xw, .bool true, .slice none 0 0, .complex .f64 0 0, .complex .f64 0 0, .complex .f64 0 0, .complex .f64 0 0]] w (SetTo w D pd tb qp r u) := by
  obtain ⟨wA, hwA⟩ : ∃ wA, wA = w.alloc (.cells #[.int .i64 4, .int .i64 xp, .int .i64 xo, .int .i64 0, .int .i64 xy, .int .i64 xw, .bool true, .slice none 0 0, .complex .f64 0 0, .complex .f64 0 0, .complex .f64 0 0, .complex .f64 0 0] 107) := ⟨_, rfl⟩
  have hkA : Keeps noB w wA := by rw [hwA]; exact (Keeps.refl _ _).alloc _
  have hX : wA.heap[w.heap.size]? = some (.cells #[.int .i64 4, .int .i64 xp, .int .i64 xo, .int .i64 0, .int .i64 xy, .int .i64 xw, .bool true, .slice none 0 0, .complex .f64 0 0, .complex .f64 0 0, .complex .f64 0 0, .complex .f64 0 0] 107 (0, 0)) := by rw [hwA]; exact heap_alloc_new _ _
  obtain ⟨ba, hba⟩ : ∃ b, b = w.heap.size := ⟨_, rfl⟩
  rw [← hba] at hX
  obtain ⟨wB, hwB⟩ : ∃ wB, wB = wA.alloc (.cells #[.int .i64 c, .int .i64 xp, .int .i64 xo, .bool true] 73) := ⟨_, rfl⟩
  have hkB : Keeps noB wA wB := by rw [hwB]; exact (Keeps.refl _ _).alloc _
  have hY : wB.heap[wA.heap.size]? = some (.cells #[.int .i64 c, .int .i64 xp, .int .i64 xo, .bool true] 73 (0, 0)) := by rw [hwB]; exact heap_alloc_new _ _
  obtain ⟨bb, hbb⟩ : ∃ b, b = wA.heap.size := ⟨_, rfl⟩
  rw [← hbb] at hY
  have hs := (DkS.refl h).no (hkA.trans_no hkB)
  have hnb : ¬ D bb := fun e => by have := h.lt e; have := hkA.size; omega
  have hS : ∀ w' D' s', DkS wB w' D D' pd tb qp r s' → w'.cell? ⟨pd, 1, none⟩ = some (.pointer (some ⟨qp, 0, none⟩)) ∧ w'.cell? ⟨bb, 0, none⟩ = some (.int .i64 c) ∧ w'.cell? ⟨bb, 1, none⟩ = some (.int .i64 xp) ∧ w'.cell? ⟨bb, 2, none⟩ = some (.int .i64 xo) ∧ w'.cell? ⟨bb, 3, none⟩ = some (.bool true) := fun w' D' s' hs => ⟨hs.at_.cells.2, box_cells (hs.kp.blk hY hnb)⟩
  have HS := Lib.hid hS
  have HX := Lib.hid (And.intro hX (And.intro hkB hset))
  have HH := Lib.hid hs
  clear hS hX hkB hkA hY hset h hnb hs
  have hs := (DkS.refl HH.out.at_).no ((Keeps.refl noB wB).drew)
  go_enter Try.func72, Try.ntmps72
  go_upto_region 1 with fail
  rw [← hwA, ← hba]
  clear hwA hba
  obtain ⟨m0, m1, m2, m3, m4, m5, m6, m7, m8, m9, m10, m11⟩ := msg_cells HX.out.1
  go_upto_region 2 with fail
  rw [← hwB, ← hbb]
  clear hwB hbb m0 m1 m2 m3 m4 m5 m6 m7 m8 m9 m10 m11
  obtain ⟨m0, m1, m2, m3, m4, m5, m6, m7, m8, m9, m10, m11⟩ := msg_cells (HX.out.2.1.blk HX.out.1 (noB_not _))
  go_upto_region 9 with fail
  refine wp_region_held_drew (S := fun w' => w'.cell? ⟨pd, 1, none⟩ = some (.pointer (some ⟨qp, 0, none⟩)) ∧ w'.cell? ⟨bb, 0, none⟩ = some (.int .i64 c) ∧ w'.cell? ⟨bb, 1, none⟩ = some (.int .i64 xp) ∧ w'.cell? ⟨bb, 2, none⟩ = some (.int .i64 xo) ∧ w'.cell? ⟨bb, 3, none⟩ = some (.bool true)) (by kernel_rfl) (HS.out _ _ _ hs) (fun hHeld => ?_)
  refine heldTake (i := 0) (v := ?_) rfl (by kernel_rfl) (by kernel_rfl) (by kernel_rfl) (fun _ _ _ h => h) (Or.inl ⟨by rfl, ?_⟩) (by assumption) ?_
  rotate_left
  · (intro w hSw; (try dsimp only at hSw); go_simp) <;> with_reducible rfl
  simp only [Act.put, List.setIfInBounds_toArray, List.set_cons_zero, List.set_cons_succ]
  refine heldTake (i := 1) (v := ?_) rfl (by kernel_rfl) (by kernel_rfl) (by kernel_rfl) (fun _ _ _ h => h) (Or.inl ⟨by rfl, ?_⟩) (by assumption) ?_
  rotate_left
  · (intro w hSw; (try dsimp only at hSw); go_simp) <;> with_reducible rfl
  simp only [Act.put, List.setIfInBounds_toArray, List.set_cons_zero, List.set_cons_succ]
  refine heldTake (i := 2) (v := ?_) rfl (by kernel_rfl) (by kernel_rfl) (by kernel_rfl) (fun _ _ _ h => h) (Or.inl ⟨by rfl, ?_⟩) (by assumption) ?_
  rotate_left
  · (intro w hSw; (try dsimp only at hSw); go_simp) <;> with_reducible rfl
  simp only [Act.put, List.setIfInBounds_toArray, List.set_cons_zero, List.set_cons_succ]
  refine heldTake (i := 3) (v := ?_) rfl (by kernel_rfl) (by kernel_rfl) (by kernel_rfl) (fun _ _ _ h => h) (Or.inl ⟨by rfl, ?_⟩) (by assumption) ?_
  rotate_left
  · (intro w hSw; (try dsimp only at hSw); go_simp) <;> with_reducible rfl
  simp only [Act.put, List.setIfInBounds_toArray, List.set_cons_zero, List.set_cons_succ]
  refine heldTake (i := 4) (v := ?_) rfl (by kernel_rfl) (by kernel_rfl) (by kernel_rfl) (fun _ _ _ h => h) (Or.inl ⟨by rfl, ?_⟩) (by assumption) ?_
  rotate_left
  · (intro w hSw; (try dsimp only at hSw); go_simp) <;> with_reducible rfl
  simp only [Act.put, List.setIfInBounds_toArray, List.set_cons_zero, List.set_cons_succ]
  refine heldTake (i := 5) (v := ?_) rfl (by kernel_rfl) (by kernel_rfl) (by kernel_rfl) (fun _ _ _ h => h) (Or.inl ⟨by rfl, ?_⟩) (by assumption) ?_
  rotate_left
  · (intro w hSw; (try dsimp only at hSw); go_simp) <;> with_reducible rfl
  simp only [Act.put, List.setIfInBounds_toArray, List.set_cons_zero, List.set_cons_succ]
  refine heldOne (i := 6) (by kernel_rfl) rfl (fun K hK => ?_)
  go_simp
  go_at_call 51
  refine (busy_d hs.at_ c ⟨c, xp, xo, true⟩).mono ?_
  rintro e w3 ⟨rfl, D3, hs3⟩
  replace hs := hs.trans hs3
  clear hs3
  go_wp2_with fail
  refine hK.out _ _ (HS.out _ _ _ hs) (fun hHeld => ?_)
  clear hK K
  try simp only [Act.put, List.setIfInBounds_toArray, List.set_cons_zero, List.set_cons_succ]
  refine wpAnyH_done (by kernel_rfl) ?_ _
  go_wp2_with (go_at_call 102; refine (settle_d hs.at_ HX.out.2.2).mono ?_; rintro e w4 ⟨a4, c4, D4, rfl, hs4, hr4⟩)
  go_ret
  exact SetTo.pre (HH.out.trans hs) ⟨a4, c4, D4, rfl, hs4, hr4⟩
set_option maxRecDepth 100000 in
set_option maxHeartbeats 16000000 in
theorem handle_release {w : World} {D : Nat → Prop} {pd tb qp r : Nat} {s u : Dp} (h : DkD w D pd tb qp r s) (c xp xo xy xw : Int) (hset : Settles (relP s c xp xy xw) u) :
    Calls Try.prog 72 #[.pointer (some ⟨pd, 0, none⟩), .int .i64 c, .agg #[.int .i64 3, .int .i64 xp, .int .i64 xo, .int .i64 0, .int .i64 xy, .int .i64 xw, .bool false, .slice none 0 0, .complex .f64 0 0, .complex .f64 0 0, .complex .f64 0 0, .complex .f64 0 0]] w (SetTo w D pd tb qp r u) := by
  obtain ⟨wA, hwA⟩ : ∃ wA, wA = w.alloc (.cells #[.int .i64 3, .int .i64 xp, .int .i64 xo, .int .i64 0, .int .i64 xy, .int .i64 xw, .bool false, .slice none 0 0, .complex .f64 0 0, .complex .f64 0 0, .complex .f64 0 0, .complex .f64 0 0] 107) := ⟨_, rfl⟩
  have hkA : Keeps noB w wA := by rw [hwA]; exact (Keeps.refl _ _).alloc _
  have hX : wA.heap[w.heap.size]? = some (.cells #[.int .i64 3, .int .i64 xp, .int .i64 xo, .int .i64 0, .int .i64 xy, .int .i64 xw, .bool false, .slice none 0 0, .complex .f64 0 0, .complex .f64 0 0, .complex .f64 0 0, .complex .f64 0 0] 107 (0, 0)) := by rw [hwA]; exact heap_alloc_new _ _
  obtain ⟨ba, hba⟩ : ∃ b, b = w.heap.size := ⟨_, rfl⟩
  rw [← hba] at hX
  obtain ⟨wB, hwB⟩ : ∃ wB, wB = wA.alloc (.cells #[.int .i64 c, .int .i64 xp, .int .i64 xo, .bool false] 73) := ⟨_, rfl⟩
  have hkB : Keeps noB wA wB := by rw [hwB]; exact (Keeps.refl _ _).alloc _
  have hY : wB.heap[wA.heap.size]? = some (.cells #[.int .i64 c, .int .i64 xp, .int .i64 xo, .bool false] 73 (0, 0)) := by rw [hwB]; exact heap_alloc_new _ _
  obtain ⟨bb, hbb⟩ : ∃ b, b = wA.heap.size := ⟨_, rfl⟩
  rw [← hbb] at hY
  have hs := (DkS.refl h).no (hkA.trans_no hkB)
  have hnb : ¬ D bb := fun e => by have := h.lt e; have := hkA.size; omega
  have hS : ∀ w' D' s', DkS wB w' D D' pd tb qp r s' → w'.cell? ⟨pd, 1, none⟩ = some (.pointer (some ⟨qp, 0, none⟩)) ∧ w'.cell? ⟨bb, 0, none⟩ = some (.int .i64 c) ∧ w'.cell? ⟨bb, 1, none⟩ = some (.int .i64 xp) ∧ w'.cell? ⟨bb, 2, none⟩ = some (.int .i64 xo) ∧ w'.cell? ⟨bb, 3, none⟩ = some (.bool false) := fun w' D' s' hs => ⟨hs.at_.cells.2, box_cells (hs.kp.blk hY hnb)⟩
  have HS := Lib.hid hS
  have HX := Lib.hid (And.intro hX (And.intro hkB hset))
  have HH := Lib.hid hs
  clear hS hX hkB hkA hY hset h hnb hs
  have hs := (DkS.refl HH.out.at_).no ((Keeps.refl noB wB).drew)
  go_enter Try.func72, Try.ntmps72
  go_upto_region 1 with fail
  rw [← hwA, ← hba]
  clear hwA hba
  obtain ⟨m0, m1, m2, m3, m4, m5, m6, m7, m8, m9, m10, m11⟩ := msg_cells HX.out.1
  go_upto_region 2 with fail
  rw [← hwB, ← hbb]
  clear hwB hbb m0 m1 m2 m3 m4 m5 m6 m7 m8 m9 m10 m11
  obtain ⟨m0, m1, m2, m3, m4, m5, m6, m7, m8, m9, m10, m11⟩ := msg_cells (HX.out.2.1.blk HX.out.1 (noB_not _))
  replace hs := DkS.refl HH.out.at_
  go_wp2_with (first | (go_at_call 101; refine (released_d hs.at_ c 3 xp xo xy xw false).mono ?_; rintro e w3 ⟨rfl, D3, hs3⟩; replace hs := hs.trans hs3; clear hs3) | (go_at_call 102; refine (settle_d hs.at_ HX.out.2.2).mono ?_; rintro e w4 ⟨a4, c4, D4, rfl, hs4, hr4⟩))
  go_ret
  exact SetTo.pre (HH.out.trans hs) ⟨a4, c4, D4, rfl, hs4, hr4⟩
end Go.Proofs.Ytlpimkmkcfbddaa
