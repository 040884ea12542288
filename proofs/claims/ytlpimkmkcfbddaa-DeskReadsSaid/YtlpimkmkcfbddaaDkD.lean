/- The desk: what waits; is a page one's own? Printed by mk_dkd.py. No condition. -/
import Derived.Test.YtlpimkmkcfbddaaDkC
namespace Go.Proofs.Ytlpimkmkcfbddaa
open Go.RowKit

set_option maxHeartbeats 4000000 in
theorem wants_d {w : World} {D : Nat → Prop} {pd tb qp r : Nat} {s : Dp} (h : DkD w D pd tb qp r s) (hl : s.ws.length ≤ 1000) : Calls Try.prog 73 #[.pointer (some ⟨pd, 0, none⟩)] w
    fun e w' => ∃ v', RetK noB v' w e w' ∧ WtR w' (fun x => w.heap.size ≤ x) v' s.ws := by
  obtain ⟨S, v, av, hA, _⟩ := h
  have hC := all_c hA.q (by omega)
  have y1 := blk_cell hA.pt (i := 1) rfl
  clear hA
  go_enter Try.func73, Try.ntmps73
  go_wp2_with (go_at_call 47; refine hC.mono ?_; rintro e w1 ⟨v1, ⟨rfl, hk1⟩, hw1⟩)
  go_ret
  exact ⟨_, ⟨rfl, hk1⟩, hw1⟩
def lonP (x y : Wt) : Bool := y.c != x.c && y.p == x.p
def lonB (s : Dp) (x : Wt) : Bool := !s.ws.any (lonP x) && s.T.alone x.c x.p
theorem WtR.rd {w : World} {S : Nat → Prop} {a : Option Addr} {n c : Nat} {ws : List Wt} (h : WtR w S (.slice a n c) ws) {i : Nat} (hi : i < ws.length) : ∃ g off, a = some ⟨g, off, none⟩ ∧ w.cell? ⟨g, off + i * 4, none⟩ = some (.int .i64 ws[i].c) ∧ w.cell? ⟨g, off + i * 4 + 1, none⟩ = some (.int .i64 ws[i].p) ∧ w.cell? ⟨g, off + i * 4 + 2, none⟩ = some (.int .i64 ws[i].o) ∧ w.cell? ⟨g, off + i * 4 + 3, none⟩ = some (.bool ws[i].w) := by
  obtain ⟨a', n', e, _, _, h⟩ := h
  simp at e
  obtain ⟨rfl, _, rfl⟩ := e
  obtain ⟨g, off, cs, h1, _, hb, h2, h3, h4, h5⟩ := h i hi
  exact ⟨g, off, h1, blk_cell hb h2, blk_cell hb h3, blk_cell hb h4, blk_cell hb h5⟩
set_option maxRecDepth 100000 in
set_option maxHeartbeats 8000000 in
theorem lonely_d {w : World} {D : Nat → Prop} {pd tb qp r : Nat} {s : Dp} (h : DkD w D pd tb qp r s) (hl : s.ws.length ≤ 1000) (x : Wt) : Calls Try.prog 116 #[.pointer (some ⟨pd, 0, none⟩), .agg #[.int .i64 x.c, .int .i64 x.p, .int .i64 x.o, .bool x.w]] w
    (RetK noB (.bool (lonB s x)) w) := by
  obtain ⟨xc, xp, xo, xw⟩ := x
  obtain ⟨S, v, av, hA, _⟩ := h
  obtain ⟨wA, hwA⟩ : ∃ wA, wA = w.alloc (.cells #[.int .i64 xc, .int .i64 xp, .int .i64 xo, .bool xw] 73) := ⟨_, rfl⟩
  have hkA : Keeps noB w wA := by rw [hwA]; exact (Keeps.refl _ _).alloc _
  have hX : wA.heap[w.heap.size]? = some (.cells #[.int .i64 xc, .int .i64 xp, .int .i64 xo, .bool xw] 73 (0, 0)) := by rw [hwA]; exact heap_alloc_new _ _
  obtain ⟨bx, hbx⟩ : ∃ b, b = w.heap.size := ⟨_, rfl⟩
  rw [← hbx] at hX
  have hS : ∀ w', Keeps noB wA w' → w'.cell? ⟨pd, 0, none⟩ = some (.pointer (some ⟨tb, 0, none⟩)) ∧ w'.cell? ⟨bx, 0, none⟩ = some (.int .i64 xc) ∧ w'.cell? ⟨bx, 1, none⟩ = some (.int .i64 xp) := fun w' hk => by
    have h1 := hk.blk (hkA.blk hA.pt (noB_not _)) (noB_not _)
    have h2 := hk.blk hX (noB_not _)
    exact ⟨blk_cell h1 (i := 0) rfl, blk_cell h2 (i := 0) rfl, blk_cell h2 (i := 1) rfl⟩
  have hT : ∀ w', Keeps noB wA w' → TabAt w' tb s.T := fun w' hk => hk.blk (hkA.blk hA.tab (noB_not _)) (noB_not _)
  have HS := Lib.hid hS
  have HT := Lib.hid hT
  have hC := all_c (hA.q.no hkA) (by omega)
  have y1 := blk_cell (hkA.blk hA.pt (noB_not _)) (i := 1) rfl
  have HK := Lib.hid hkA
  have HX := Lib.hid hX
  obtain ⟨res, hres⟩ : ∃ b, b = lonB s ⟨xc, xp, xo, xw⟩ := ⟨_, rfl⟩
  rw [← hres]
  have HR := Lib.hid hres
  obtain ⟨ws, hws⟩ : ∃ ws, ws = s.ws := ⟨_, rfl⟩
  rw [← hws] at hC hl
  have HW := Lib.hid hws
  clear hS hT hA hX hkA hres hws
  go_enter Try.func116, Try.ntmps116
  go_upto_region 1 with fail
  rw [← hwA, ← hbx]
  clear hwA hbx
  go_wp2_with (go_at_call 47; refine hC.mono ?_; rintro e w1 ⟨v1, ⟨rfl, hk1⟩, hw1⟩; obtain ⟨a1, n1, e1⟩ := (show ∃ a n, v1 = .slice a ws.length n from ⟨_, _, hw1.choose_spec.choose_spec.1⟩); subst e1; have HW1 := Lib.hid hw1; clear hw1)
  clear hC y1
  go_loopw [13] (fun i wr => ∃ k : Nat, k ≤ ws.length ∧ i = .int .i64 k ∧ Keeps noB w1 wr ∧ ∀ i (hi : i < ws.length), i < k → lonP ⟨xc, xp, xo, xw⟩ ws[i] = false) (fun i _ => ws.length - (intOf i).toNat)
  case atStart => exact ⟨0, by omega, rfl, Keeps.refl _ _, fun i hi h => by omega⟩
  case round =>
    obtain ⟨k, hk0, rfl, hkp, hall⟩ := hrel
    have HAL := Lib.hid hall
    clear hall
    by_cases hlt : k < ws.length
    · obtain ⟨g, off, rfl, c0, c1, c2, c3⟩ := (HW1.out.no hkp).rd hlt
      obtain ⟨y, hy⟩ : ∃ y, y = ws[k] := ⟨_, rfl⟩
      rw [← hy] at c0 c1 c2 c3
      have HY := Lib.hid hy
      clear hy
      obtain ⟨yc, yp, yo, yw⟩ := y
      simp only at c0 c1 c2 c3
      have kB : Keeps noB wr (wr.alloc (.cells #[.int .i64 yc, .int .i64 yp, .int .i64 yo, .bool yw] 73)) := (Keeps.refl _ _).alloc _
      have hXk := kB.blk (hkp.blk (hk1.blk HX.out (noB_not _)) (noB_not _)) (noB_not _)
      have x0 := blk_cell hXk (i := 0) rfl
      have x1 := blk_cell hXk (i := 1) rfl
      clear hXk
      have hnext : lonP ⟨xc, xp, xo, xw⟩ ⟨yc, yp, yo, yw⟩ = false → ∀ j (hj : j < ws.length), j < k + 1 → lonP ⟨xc, xp, xo, xw⟩ ws[j] = false := fun hne j hj hlt2 => by
        by_cases e2 : j = k
        · subst e2; rw [← HY.out]; exact hne
        · exact HAL.out j hj (by omega)
      have HNX := Lib.hid hnext
      have KB := Lib.hid kB
      clear hnext kB
      cases e0 : (yc != xc)
      · go_wp2_with fail
        exact ⟨⟨k + 1, by omega, by go_num, hkp.trans_no KB.out, HNX.out (by show (yc != xc && yp == xp) = false; rw [e0]; rfl)⟩, by simp [intOf]; omega⟩
      · cases e1 : (yp == xp)
        · go_wp2_with fail
          exact ⟨⟨k + 1, by omega, by go_num, hkp.trans_no KB.out, HNX.out (by show (yc != xc && yp == xp) = false; rw [e0, e1]; rfl)⟩, by simp [intOf]; omega⟩
        · have hp : lonP ⟨xc, xp, xo, xw⟩ ws[k] = true := by rw [← HY.out]; show (yc != xc && yp == xp) = true; rw [e0, e1]; rfl
          have HP := Lib.hid hp
          clear hp
          go_wp2_with fail
          go_ret
          refine ⟨?_, ((HK.out.trans_no hk1).trans_no hkp).trans_no KB.out⟩
          have : ws.any (lonP ⟨xc, xp, xo, xw⟩) = true := List.any_eq_true.2 ⟨_, List.getElem_mem hlt, HP.out⟩
          rw [HR.out]
          unfold lonB
          rw [← HW.out, this]
          rfl
    · have : k = ws.length := by omega
      subst this
      have hk := (hk1.trans_no hkp).drew
      go_upto_region 7 with fail
      refine wp_region_held_drew (S := fun w' => w'.cell? ⟨pd, 0, none⟩ = some (.pointer (some ⟨tb, 0, none⟩)) ∧ w'.cell? ⟨bx, 0, none⟩ = some (.int .i64 xc) ∧ w'.cell? ⟨bx, 1, none⟩ = some (.int .i64 xp)) (by kernel_rfl) (HS.out _ hk) (fun hHeld => ?_)
      refine heldTake (i := 0) (v := ?_) rfl (by kernel_rfl) (by kernel_rfl) (by kernel_rfl) (fun _ _ _ h => h) (Or.inl ⟨by rfl, ?_⟩) (by assumption) ?_
      rotate_left
      · (intro w hSw; (try dsimp only at hSw); go_simp) <;> with_reducible rfl
      simp only [Act.put, List.setIfInBounds_toArray, List.set_cons_zero, List.set_cons_succ]
      refine heldTake (i := 1) (v := ?_) rfl (by kernel_rfl) (by kernel_rfl) (by kernel_rfl) (fun _ _ _ h => h) (Or.inl ⟨by rfl, ?_⟩) (by assumption) ?_
      rotate_left
      · (intro w hSw; (try dsimp only at hSw); go_simp) <;> with_reducible rfl
      simp only [Act.put, List.setIfInBounds_toArray, List.set_cons_zero, List.set_cons_succ]
      refine heldTake (i := 2) (v := ?_) rfl (by kernel_rfl) (by kernel_rfl) (by kernel_rfl) (fun _ _ _ h => h) (Or.inl ⟨by rfl, ?_⟩) (by assumption) ?_
      rotate_left
      · (intro w hSw; (try dsimp only at hSw); go_simp) <;> with_reducible rfl
      simp only [Act.put, List.setIfInBounds_toArray, List.set_cons_zero, List.set_cons_succ]
      refine heldTake (i := 3) (v := ?_) rfl (by kernel_rfl) (by kernel_rfl) (by kernel_rfl) (fun _ _ _ h => h) (Or.inl ⟨by rfl, ?_⟩) (by assumption) ?_
      rotate_left
      · (intro w hSw; (try dsimp only at hSw); go_simp) <;> with_reducible rfl
      simp only [Act.put, List.setIfInBounds_toArray, List.set_cons_zero, List.set_cons_succ]
      refine heldTake (i := 4) (v := ?_) rfl (by kernel_rfl) (by kernel_rfl) (by kernel_rfl) (fun _ _ _ h => h) (Or.inl ⟨by rfl, ?_⟩) (by assumption) ?_
      rotate_left
      · (intro w hSw; (try dsimp only at hSw); go_simp) <;> with_reducible rfl
      simp only [Act.put, List.setIfInBounds_toArray, List.set_cons_zero, List.set_cons_succ]
      refine heldTake (i := 5) (v := ?_) rfl (by kernel_rfl) (by kernel_rfl) (by kernel_rfl) (fun _ _ _ h => h) (Or.inl ⟨by rfl, ?_⟩) (by assumption) ?_
      rotate_left
      · (intro w hSw; (try dsimp only at hSw); go_simp) <;> with_reducible rfl
      simp only [Act.put, List.setIfInBounds_toArray, List.set_cons_zero, List.set_cons_succ]
      refine heldTake (i := 6) (v := ?_) rfl (by kernel_rfl) (by kernel_rfl) (by kernel_rfl) (fun _ _ _ h => h) (Or.inl ⟨by rfl, ?_⟩) (by assumption) ?_
      rotate_left
      · (intro w hSw; (try dsimp only at hSw); go_simp) <;> with_reducible rfl
      simp only [Act.put, List.setIfInBounds_toArray, List.set_cons_zero, List.set_cons_succ]
      refine heldTake (i := 7) (v := ?_) rfl (by kernel_rfl) (by kernel_rfl) (by kernel_rfl) (fun _ _ _ h => h) (Or.inl ⟨by rfl, ?_⟩) (by assumption) ?_
      rotate_left
      · (intro w hSw; (try dsimp only at hSw); go_simp) <;> with_reducible rfl
      simp only [Act.put, List.setIfInBounds_toArray, List.set_cons_zero, List.set_cons_succ]
      refine heldOne (i := 8) (by kernel_rfl) rfl (fun K hK => ?_)
      go_simp
      go_at_call 28
      refine (alone_c _ _ _ _ _ (HT.out _ hk)).mono ?_
      rintro e w2 ⟨rfl, hk2⟩
      have hk := hk.trans_no hk2
      go_wp2_with fail
      refine hK.out _ _ (HS.out _ hk) (fun hHeld => ?_)
      clear hK K
      try simp only [Act.put, List.setIfInBounds_toArray, List.set_cons_zero, List.set_cons_succ]
      refine heldTake (i := 9) (v := ?_) rfl (by kernel_rfl) (by kernel_rfl) (by kernel_rfl) (fun _ _ _ h => h) (Or.inl ⟨by rfl, ?_⟩) (by assumption) ?_
      rotate_left
      · (intro w hSw; (try dsimp only at hSw); go_simp) <;> with_reducible rfl
      simp only [Act.put, List.setIfInBounds_toArray, List.set_cons_zero, List.set_cons_succ]
      refine wpAnyH_done (by kernel_rfl) ?_ _
      go_wp2_with fail
      go_ret
      refine ⟨?_, HK.out.trans_no hk⟩
      have : ws.any (lonP ⟨xc, xp, xo, xw⟩) = false := by
        rw [List.any_eq_false]
        intro x hx
        obtain ⟨i, hi, rfl⟩ := List.getElem_of_mem hx
        rw [HAL.out i hi hi]
        decide
      rw [HR.out]
      unfold lonB
      rw [← HW.out, this]
      rfl
end Go.Proofs.Ytlpimkmkcfbddaa
