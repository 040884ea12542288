/- The desk: who else has what is wanted; what waits. Printed by mk_dkc.py. No condition. -/
import Derived.Test.YtlpimkmkcfbddaaDkB
import Derived.Test.YtlpimkmkcfbddaaHeldM
namespace Go.Proofs.Ytlpimkmkcfbddaa
open Go.RowKit

set_option maxRecDepth 100000 in
set_option maxHeartbeats 8000000 in
theorem holders_d {w : World} {D : Nat → Prop} {pd tb qp r : Nat} {s : Dp} (h : DkD w D pd tb qp r s) (x : Wt) : Calls Try.prog 103 #[.pointer (some ⟨pd, 0, none⟩), .agg #[.int .i64 x.c, .int .i64 x.p, .int .i64 x.o, .bool x.w]] w
    fun e w' => ∃ v, RetK noB v w e w' ∧ OwnI w' w.heap.size v (s.T.holders x.c x.p x.o x.w) := by
  obtain ⟨xc, xp, xo, xw⟩ := x
  obtain ⟨S, v, av, hA, _⟩ := h
  obtain ⟨wA, hwA⟩ : ∃ wA, wA = w.alloc (.cells #[.int .i64 xc, .int .i64 xp, .int .i64 xo, .bool xw] 73) := ⟨_, rfl⟩
  have hkA : Keeps noB w wA := by rw [hwA]; exact (Keeps.refl _ _).alloc _
  have hX : wA.heap[w.heap.size]? = some (.cells #[.int .i64 xc, .int .i64 xp, .int .i64 xo, .bool xw] 73 (0, 0)) := by rw [hwA]; exact heap_alloc_new _ _
  obtain ⟨bx, hbx⟩ : ∃ b, b = w.heap.size := ⟨_, rfl⟩
  have hsz : bx ≤ w.heap.size ∧ w.heap.size ≤ bx := by omega
  rw [← hbx] at hX
  have hS : ∀ w', Keeps noB wA w' → w'.cell? ⟨pd, 0, none⟩ = some (.pointer (some ⟨tb, 0, none⟩)) ∧ w'.cell? ⟨bx, 0, none⟩ = some (.int .i64 xc) ∧ w'.cell? ⟨bx, 1, none⟩ = some (.int .i64 xp) ∧ w'.cell? ⟨bx, 2, none⟩ = some (.int .i64 xo) ∧ w'.cell? ⟨bx, 3, none⟩ = some (.bool xw) := fun w' hk => by
    have h1 := hk.blk (hkA.blk hA.pt (noB_not _)) (noB_not _)
    have h2 := hk.blk hX (noB_not _)
    exact ⟨blk_cell h1 (i := 0) rfl, blk_cell h2 (i := 0) rfl, blk_cell h2 (i := 1) rfl, blk_cell h2 (i := 2) rfl, blk_cell h2 (i := 3) rfl⟩
  have hT : ∀ w', Keeps noB wA w' → TabAt w' tb s.T := fun w' hk => hk.blk (hkA.blk hA.tab (noB_not _)) (noB_not _)
  have HS := Lib.hid hS
  have HT := Lib.hid hT
  have HK := Lib.hid (And.intro hkA hsz)
  clear hS hT hA hX hkA hsz
  go_enter Try.func103, Try.ntmps103
  go_upto_region 1 with fail
  rw [← hwA, ← hbx]
  clear hwA hbx
  have hk : Keeps noB wA wA.drew := (Keeps.refl _ _).drew
  refine wp_region_held_drew (S := fun w' => w'.cell? ⟨pd, 0, none⟩ = some (.pointer (some ⟨tb, 0, none⟩)) ∧ w'.cell? ⟨bx, 0, none⟩ = some (.int .i64 xc) ∧ w'.cell? ⟨bx, 1, none⟩ = some (.int .i64 xp) ∧ w'.cell? ⟨bx, 2, none⟩ = some (.int .i64 xo) ∧ w'.cell? ⟨bx, 3, none⟩ = some (.bool xw)) (by kernel_rfl) (HS.out _ hk) (fun hHeld => ?_)
  refine heldTake (i := 0) (v := ?_) rfl (by kernel_rfl) (by kernel_rfl) (by kernel_rfl) (fun _ _ _ h => h) (Or.inl ⟨by rfl, ?_⟩) (by assumption) ?_
  rotate_left
  · (intro w hSw; (try dsimp only at hSw); go_simp) <;> with_reducible rfl
  simp only [Act.put, List.setIfInBounds_toArray, List.set_cons_zero, List.set_cons_succ]
  refine heldTake (i := 1) (v := ?_) rfl (by kernel_rfl) (by kernel_rfl) (by kernel_rfl) (fun _ _ _ h => h) (Or.inl ⟨by rfl, ?_⟩) (by assumption) ?_
  rotate_left
  · (intro w hSw; (try dsimp only at hSw); go_simp) <;> with_reducible rfl
  simp only [Act.put, List.setIfInBounds_toArray, List.set_cons_zero, List.set_cons_succ]
  refine heldTake (i := 2) (v := ?_) rfl (by kernel_rfl) (by kernel_rfl) (by kernel_rfl) (fun _ _ _ h => h) (Or.inl ⟨by rfl, ?_⟩) (by assumption) ?_
  rotate_left
  · (intro w hSw; (try dsimp only at hSw); go_simp) <;> with_reducible rfl
  simp only [Act.put, List.setIfInBounds_toArray, List.set_cons_zero, List.set_cons_succ]
  refine heldTake (i := 3) (v := ?_) rfl (by kernel_rfl) (by kernel_rfl) (by kernel_rfl) (fun _ _ _ h => h) (Or.inl ⟨by rfl, ?_⟩) (by assumption) ?_
  rotate_left
  · (intro w hSw; (try dsimp only at hSw); go_simp) <;> with_reducible rfl
  simp only [Act.put, List.setIfInBounds_toArray, List.set_cons_zero, List.set_cons_succ]
  refine heldTake (i := 4) (v := ?_) rfl (by kernel_rfl) (by kernel_rfl) (by kernel_rfl) (fun _ _ _ h => h) (Or.inl ⟨by rfl, ?_⟩) (by assumption) ?_
  rotate_left
  · (intro w hSw; (try dsimp only at hSw); go_simp) <;> with_reducible rfl
  simp only [Act.put, List.setIfInBounds_toArray, List.set_cons_zero, List.set_cons_succ]
  refine heldTake (i := 5) (v := ?_) rfl (by kernel_rfl) (by kernel_rfl) (by kernel_rfl) (fun _ _ _ h => h) (Or.inl ⟨by rfl, ?_⟩) (by assumption) ?_
  rotate_left
  · (intro w hSw; (try dsimp only at hSw); go_simp) <;> with_reducible rfl
  simp only [Act.put, List.setIfInBounds_toArray, List.set_cons_zero, List.set_cons_succ]
  refine heldTake (i := 6) (v := ?_) rfl (by kernel_rfl) (by kernel_rfl) (by kernel_rfl) (fun _ _ _ h => h) (Or.inl ⟨by rfl, ?_⟩) (by assumption) ?_
  rotate_left
  · (intro w hSw; (try dsimp only at hSw); go_simp) <;> with_reducible rfl
  simp only [Act.put, List.setIfInBounds_toArray, List.set_cons_zero, List.set_cons_succ]
  refine heldTake (i := 7) (v := ?_) rfl (by kernel_rfl) (by kernel_rfl) (by kernel_rfl) (fun _ _ _ h => h) (Or.inl ⟨by rfl, ?_⟩) (by assumption) ?_
  rotate_left
  · (intro w hSw; (try dsimp only at hSw); go_simp) <;> with_reducible rfl
  simp only [Act.put, List.setIfInBounds_toArray, List.set_cons_zero, List.set_cons_succ]
  refine heldTake (i := 8) (v := ?_) rfl (by kernel_rfl) (by kernel_rfl) (by kernel_rfl) (fun _ _ _ h => h) (Or.inl ⟨by rfl, ?_⟩) (by assumption) ?_
  rotate_left
  · (intro w hSw; (try dsimp only at hSw); go_simp) <;> with_reducible rfl
  simp only [Act.put, List.setIfInBounds_toArray, List.set_cons_zero, List.set_cons_succ]
  refine heldTake (i := 9) (v := ?_) rfl (by kernel_rfl) (by kernel_rfl) (by kernel_rfl) (fun _ _ _ h => h) (Or.inl ⟨by rfl, ?_⟩) (by assumption) ?_
  rotate_left
  · (intro w hSw; (try dsimp only at hSw); go_simp) <;> with_reducible rfl
  simp only [Act.put, List.setIfInBounds_toArray, List.set_cons_zero, List.set_cons_succ]
  refine heldTake (i := 10) (v := ?_) rfl (by kernel_rfl) (by kernel_rfl) (by kernel_rfl) (fun _ _ _ h => h) (Or.inl ⟨by rfl, ?_⟩) (by assumption) ?_
  rotate_left
  · (intro w hSw; (try dsimp only at hSw); go_simp) <;> with_reducible rfl
  simp only [Act.put, List.setIfInBounds_toArray, List.set_cons_zero, List.set_cons_succ]
  refine heldTake (i := 11) (v := ?_) rfl (by kernel_rfl) (by kernel_rfl) (by kernel_rfl) (fun _ _ _ h => h) (Or.inl ⟨by rfl, ?_⟩) (by assumption) ?_
  rotate_left
  · (intro w hSw; (try dsimp only at hSw); go_simp) <;> with_reducible rfl
  simp only [Act.put, List.setIfInBounds_toArray, List.set_cons_zero, List.set_cons_succ]
  refine heldOne (i := 12) (by kernel_rfl) rfl (fun K hK => ?_)
  go_simp
  go_at_call 29
  refine (holders_c _ _ _ _ _ _ _ (HT.out _ hk)).mono ?_
  rintro e w2 ⟨v2, ⟨rfl, hk2⟩, ho2⟩
  have hsz2 := hk.size
  have hk := hk.trans_no hk2
  go_wp2_with fail
  refine hK.out _ _ (HS.out _ hk) (fun hHeld => ?_)
  clear hK K
  try simp only [Act.put, List.setIfInBounds_toArray, List.set_cons_zero, List.set_cons_succ]
  refine heldTake (i := 13) (v := ?_) rfl (by kernel_rfl) (by kernel_rfl) (by kernel_rfl) (fun _ _ _ h => h) (Or.inl ⟨by rfl, ?_⟩) (by assumption) ?_
  rotate_left
  · (intro w hSw; (try dsimp only at hSw); go_simp) <;> with_reducible rfl
  simp only [Act.put, List.setIfInBounds_toArray, List.set_cons_zero, List.set_cons_succ]
  refine wpAnyH_done (by kernel_rfl) ?_ _
  go_wp2_with fail
  go_ret
  refine ⟨_, ⟨rfl, HK.out.1.trans_no hk⟩, own_lower ho2 ?_⟩
  have := HK.out.1.size
  omega
end Go.Proofs.Ytlpimkmkcfbddaa
