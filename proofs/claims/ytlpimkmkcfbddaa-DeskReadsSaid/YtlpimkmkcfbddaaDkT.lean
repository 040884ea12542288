/- The desk: the wants are gone through. Printed by mk_dkt.py. No condition. -/
import Derived.Test.YtlpimkmkcfbddaaDkR
import Derived.Test.YtlpimkmkcfbddaaTabGive
namespace Go.Proofs.Ytlpimkmkcfbddaa
open Go.RowKit

theorem holders_le (T : TB) (c p j : Int) (wb : Bool) : (T.holders c p j wb).length ≤ 4 := by
  unfold TB.holders
  split
  · exact holdN_le _ _ _ _ _ 4
  · simp
theorem passP_step {s : Dp} {ws : List Wt} {k : Nat} (hk : k < ws.length) : passP s (ws.drop k) = if (aheadL ws[k] s.ws).length > 0 || outB ws[k].c ws[k].p s.l then passP s (ws.drop (k + 1)) else if (s.T.holders ws[k].c ws[k].p ws[k].o ws[k].w).length = 0 then (grantP s ws[k], true) else passP (callP s ws[k] (s.T.holders ws[k].c ws[k].p ws[k].o ws[k].w)) (ws.drop (k + 1)) := by
  rw [List.drop_eq_getElem_cons hk]
  rfl
theorem callP_step {s : Dp} {x : Wt} {L : List Int} {j : Nat} (hj : j < L.length) : callP s x (L.drop j) = callP (if callOk L[j] x s.l then { s with l := kput (keyOf L[j] x) false s.l, al := s.al ++ [⟨L[j], 6, x.p, x.o, 0, 0, x.w⟩] } else s) x (L.drop (j + 1)) := by
  rw [List.drop_eq_getElem_cons hj]
  rfl
theorem all_d {w : World} {D : Nat → Prop} {pd tb qp r : Nat} {s : Dp} (h : DkD w D pd tb qp r s) (hl : s.ws.length ≤ 1000) : Calls Try.prog 47 #[.pointer (some ⟨qp, 0, none⟩)] w
    fun e w' => ∃ a n, RetK noB (.slice a s.ws.length n) w e w' ∧ WtR w' (fun x => w.heap.size ≤ x) (.slice a s.ws.length n) s.ws := by
  obtain ⟨S, v, av, hA, _⟩ := h
  refine (all_c hA.q (by omega)).mono ?_
  rintro e w1 ⟨v1, h1, hw1⟩
  obtain ⟨a1, n1, e1⟩ := (show ∃ a n, v1 = .slice a s.ws.length n from ⟨_, _, hw1.choose_spec.choose_spec.1⟩)
  subst e1
  exact ⟨a1, n1, h1, hw1⟩
theorem box_cells {w : World} {b : Nat} {xc xp xo : Int} {xw : Bool} (h : w.heap[b]? = some (.cells #[.int .i64 xc, .int .i64 xp, .int .i64 xo, .bool xw] 73 (0, 0))) : w.cell? ⟨b, 0, none⟩ = some (.int .i64 xc) ∧ w.cell? ⟨b, 1, none⟩ = some (.int .i64 xp) ∧ w.cell? ⟨b, 2, none⟩ = some (.int .i64 xo) ∧ w.cell? ⟨b, 3, none⟩ = some (.bool xw) :=
  ⟨blk_cell h (i := 0) rfl, blk_cell h (i := 1) rfl, blk_cell h (i := 2) rfl, blk_cell h (i := 3) rfl⟩
/-- Where a pass stands. -/
structure PsAt (w1 wr : World) (D Dk : Nat → Prop) (pd tb qp r : Nat) (s sk : Dp) (n : Nat) : Prop where
  st : DkS w1 wr D Dk pd tb qp r sk
  ws : sk.ws = s.ws
  tb : sk.T = s.T
  al : sk.al.length ≤ s.al.length + n
set_option maxRecDepth 100000 in
set_option maxHeartbeats 16000000 in
theorem pass_d {w : World} {D : Nat → Prop} {pd tb qp r : Nat} {s : Dp} (h : DkD w D pd tb qp r s) (hl : s.ws.length ≤ 100) (ho : ∀ x, x ∈ s.ws → 0 ≤ x.o ∧ x.o < 4) (hal : s.al.length ≤ 8000) :
    Calls Try.prog 110 #[.pointer (some ⟨pd, 0, none⟩)] w (DkTo w D pd tb qp r (.bool (passP s s.ws).2) (passP s s.ws).1) := by
  have hC := all_d h (by omega)
  have y1 := h.cells.2
  have HD := Lib.hid h
  obtain ⟨P, hP⟩ : ∃ P, P = passP s s.ws := ⟨_, rfl⟩
  rw [← hP]
  have HP := Lib.hid hP
  have HO := Lib.hid (And.intro ho hal)
  obtain ⟨m, hm⟩ : ∃ m, m = s.ws.length := ⟨_, rfl⟩
  rw [← hm] at hC hl
  have HM := Lib.hid hm
  clear hP h hm ho hal
  go_enter Try.func110, Try.ntmps110
  go_wp2_with (go_at_call 47; refine hC.mono ?_; rintro e w1 ⟨a1, n1, ⟨rfl, hk1⟩, hw1⟩; have HW1 := Lib.hid hw1; clear hw1)
  clear hC y1
  have hs1 := DkS.refl (HD.out.no hk1)
  have H1 := Lib.hid (And.intro hk1 hs1)
  clear hk1 hs1
  go_loopw [14] (fun i wr => ∃ k : Nat, k ≤ m ∧ i = .int .i64 k ∧ ∃ sk Dk, PsAt w1 wr D Dk pd tb qp r s sk (4 * k) ∧ P = passP sk (s.ws.drop k)) (fun i _ => m - (intOf i).toNat)
  case atStart => exact ⟨0, by omega, rfl, s, D, ⟨H1.out.2, rfl, rfl, by omega⟩, HP.out⟩
  case round =>
    obtain ⟨k, hk0, rfl, sk, Dk, hrel1, hrel2⟩ := hrel
    have HR := Lib.hid (And.intro hrel1 hrel2)
    clear hrel1 hrel2
    by_cases hlt : k < m
    · have hlt2 : k < s.ws.length := by rw [← HM.out]; exact hlt
      have hwr := HW1.out.keep HR.out.1.st.kp (fun x hD hx _ _ => absurd (HD.out.lt hD) (by omega))
      obtain ⟨g, off, rfl, c0, c1, c2, c3⟩ := hwr.rd hlt2
      clear hwr
      obtain ⟨y, hy⟩ : ∃ y, y = s.ws[k] := ⟨_, rfl⟩
      rw [← hy] at c0 c1 c2 c3
      have hyo : 0 ≤ y.o ∧ y.o < 4 := by rw [hy]; exact HO.out.1 _ (List.getElem_mem hlt2)
      have hstep := passP_step (s := sk) hlt2
      rw [← hy, ← HR.out.2] at hstep
      clear hy
      obtain ⟨yc, yp, yo, yw⟩ := y
      simp only at c0 c1 c2 c3 hyo hstep
      obtain ⟨wB, hwB⟩ : ∃ wB, wB = wr.alloc (.cells #[.int .i64 yc, .int .i64 yp, .int .i64 yo, .bool yw] 73) := ⟨_, rfl⟩
      have hkB : Keeps noB wr wB := by rw [hwB]; exact (Keeps.refl _ _).alloc _
      have hX : wB.heap[wr.heap.size]? = some (.cells #[.int .i64 yc, .int .i64 yp, .int .i64 yo, .bool yw] 73 (0, 0)) := by rw [hwB]; exact heap_alloc_new _ _
      obtain ⟨bx, hbx⟩ : ∃ b, b = wr.heap.size := ⟨_, rfl⟩
      have hnb : ¬ Dk bx := fun e => by have := HR.out.1.st.at_.lt e; omega
      rw [← hbx] at hX
      have hsB := HR.out.1.st.no hkB
      have hnB := hsB.at_.pd_lt
      have hws : sk.ws.length ≤ 1000 := by rw [HR.out.1.ws, ← HM.out]; omega
      have hS : ∀ w', Keeps noB wB w' → w'.cell? ⟨pd, 1, none⟩ = some (.pointer (some ⟨qp, 0, none⟩)) ∧ w'.cell? ⟨bx, 0, none⟩ = some (.int .i64 yc) ∧ w'.cell? ⟨bx, 1, none⟩ = some (.int .i64 yp) ∧ w'.cell? ⟨bx, 2, none⟩ = some (.int .i64 yo) ∧ w'.cell? ⟨bx, 3, none⟩ = some (.bool yw) := fun w' hk => ⟨(hsB.no hk).at_.cells.2, box_cells (hk.blk hX (noB_not _))⟩
      have hS2 : ∀ wH w' Dj sj, Keeps noB wB wH → DkS wH w' Dk Dj pd tb qp r sj → w'.cell? ⟨pd, 1, none⟩ = some (.pointer (some ⟨qp, 0, none⟩)) ∧ w'.cell? ⟨bx, 0, none⟩ = some (.int .i64 yc) ∧ w'.cell? ⟨bx, 1, none⟩ = some (.int .i64 yp) ∧ w'.cell? ⟨bx, 2, none⟩ = some (.int .i64 yo) ∧ w'.cell? ⟨bx, 3, none⟩ = some (.bool yw) := fun wH w' Dj sj hk h => ⟨h.at_.cells.2, box_cells (h.kp.blk (hk.blk hX (noB_not _)) hnb)⟩
      obtain ⟨n, hn⟩ : ∃ n, n = (aheadL ⟨yc, yp, yo, yw⟩ sk.ws).length := ⟨_, rfl⟩
      obtain ⟨L, hL⟩ : ∃ L, L = sk.T.holders yc yp yo yw := ⟨_, rfl⟩
      have hL4 : L.length ≤ 4 := by rw [hL]; exact holders_le _ _ _ _ _
      rw [← hn, ← hL] at hstep
      obtain ⟨q, hq⟩ : ∃ q, q = L.length := ⟨_, rfl⟩
      rw [← hq] at hL4 hstep
      have h53 : ∀ w', Keeps noB wB w' → Calls Try.prog 53 #[.pointer (some ⟨qp, 0, none⟩), .agg #[.int .i64 yc, .int .i64 yp, .int .i64 yo, .bool yw]] w' (fun e w2 => ∃ a c, e = .returned (.slice a n c) ∧ Keeps noB wB w2) := fun w' hk => (ahead_d (hsB.no hk).at_ hws ⟨yc, yp, yo, yw⟩).mono (fun e w2 ⟨v, ⟨he, hk2⟩, ho⟩ => by
        obtain ⟨a, c, rfl⟩ := ho.slice
        exact ⟨a, c, by rw [he, hn], hk.trans_no hk2⟩)
      have h65 : ∀ w', Keeps noB wB w' → Calls Try.prog 65 #[.pointer (some ⟨qp, 0, none⟩), .int .i64 yc, .int .i64 yp] w' (RetK noB (.bool (outB yc yp sk.l)) wB) := fun w' hk => (out_d (hsB.no hk).at_ yc yp).mono (fun _ _ h => ⟨h.1, hk.trans_no h.2⟩)
      have h103 : ∀ w', Keeps noB wB w' → Calls Try.prog 103 #[.pointer (some ⟨pd, 0, none⟩), .agg #[.int .i64 yc, .int .i64 yp, .int .i64 yo, .bool yw]] w' (fun e w2 => ∃ a c, e = .returned (.slice a q c) ∧ Keeps noB wB w2 ∧ OwnI w2 wB.heap.size (.slice a q c) L) := fun w' hk => (holders_d (hsB.no hk).at_ ⟨yc, yp, yo, yw⟩).mono (fun e w2 ⟨v, ⟨he, hk2⟩, ho⟩ => by
        rw [← hL] at ho
        obtain ⟨a, c, rfl⟩ := ho.slice
        rw [← hq] at he ho
        exact ⟨a, c, he, hk.trans_no hk2, own_lower ho hk.size⟩)
      have h113 : ∀ w', Keeps noB wB w' → Calls Try.prog 113 #[.pointer (some ⟨pd, 0, none⟩), .agg #[.int .i64 yc, .int .i64 yp, .int .i64 yo, .bool yw]] w' (fun e w2 => e = .returned (.tuple #[]) ∧ ∃ D1, DkS w1 w2 D D1 pd tb qp r (grantP sk ⟨yc, yp, yo, yw⟩)) := fun w' hk => (grant_d (hsB.no hk).at_ (by rw [HR.out.1.ws, ← HM.out]; omega) (fun x hx => HO.out.1 x (by rw [← HR.out.1.ws]; exact hx)) (by have := HR.out.1.al; have := HO.out.2; omega) ⟨yc, yp, yo, yw⟩ hyo.1 hyo.2).mono (fun e w2 h => by
        obtain ⟨h1, D1, h2⟩ := h.step
        exact ⟨h1, D1, (hsB.no hk).trans h2⟩)
      have HS := Lib.hid hS
      have HS2 := Lib.hid hS2
      have H53 := Lib.hid h53
      have H65 := Lib.hid h65
      have H103 := Lib.hid h103
      have H113 := Lib.hid h113
      have HST := Lib.hid (And.intro hstep (And.intro hq (And.intro hL4 (And.intro hX hnb))))
      have HSB := Lib.hid (And.intro hkB hsB)
      clear hS hS2 h53 h65 h103 h113 hstep hq hL4 hn hL hX hnb hkB hsB hnB hws hyo
      go_upto_region 4 with fail
      rw [← hwB, ← hbx]
      clear hwB hbx
      have hk := (Keeps.refl noB wB).drew
      by_cases hn0 : 0 < n
      · as_aux_lemma =>
        have d0 : decide ((n : Int) > 0) = true := decide_eq_true (by omega)
        refine wp_region_held_drew (S := fun w' => w'.cell? ⟨pd, 1, none⟩ = some (.pointer (some ⟨qp, 0, none⟩)) ∧ w'.cell? ⟨bx, 0, none⟩ = some (.int .i64 yc) ∧ w'.cell? ⟨bx, 1, none⟩ = some (.int .i64 yp) ∧ w'.cell? ⟨bx, 2, none⟩ = some (.int .i64 yo) ∧ w'.cell? ⟨bx, 3, none⟩ = some (.bool yw)) (by kernel_rfl) (HS.out _ hk) (fun hHeld => ?_)
        refine heldTake (i := 0) (v := ?_) rfl (by kernel_rfl) (by kernel_rfl) (by kernel_rfl) (fun _ _ _ h => h) (Or.inl ⟨by rfl, ?_⟩) (by assumption) ?_
        rotate_left
        · (intro w hSw; (try dsimp only at hSw); go_simp) <;> with_reducible rfl
        simp only [Act.put, List.setIfInBounds_toArray, List.set_cons_zero, List.set_cons_succ]
        refine heldTake (i := 1) (v := ?_) rfl (by kernel_rfl) (by kernel_rfl) (by kernel_rfl) (fun _ _ _ h => h) (Or.inl ⟨by rfl, ?_⟩) (by assumption) ?_
        rotate_left
        · (intro w hSw; (try dsimp only at hSw); go_simp) <;> with_reducible rfl
        simp only [Act.put, List.setIfInBounds_toArray, List.set_cons_zero, List.set_cons_succ]
        refine heldTake (i := 2) (v := ?_) rfl (by kernel_rfl) (by kernel_rfl) (by kernel_rfl) (fun _ _ _ h => h) (Or.inl ⟨by rfl, ?_⟩) (by assumption) ?_
        rotate_left
        · (intro w hSw; (try dsimp only at hSw); go_simp) <;> with_reducible rfl
        simp only [Act.put, List.setIfInBounds_toArray, List.set_cons_zero, List.set_cons_succ]
        refine heldTake (i := 3) (v := ?_) rfl (by kernel_rfl) (by kernel_rfl) (by kernel_rfl) (fun _ _ _ h => h) (Or.inl ⟨by rfl, ?_⟩) (by assumption) ?_
        rotate_left
        · (intro w hSw; (try dsimp only at hSw); go_simp) <;> with_reducible rfl
        simp only [Act.put, List.setIfInBounds_toArray, List.set_cons_zero, List.set_cons_succ]
        refine heldTake (i := 4) (v := ?_) rfl (by kernel_rfl) (by kernel_rfl) (by kernel_rfl) (fun _ _ _ h => h) (Or.inl ⟨by rfl, ?_⟩) (by assumption) ?_
        rotate_left
        · (intro w hSw; (try dsimp only at hSw); go_simp) <;> with_reducible rfl
        simp only [Act.put, List.setIfInBounds_toArray, List.set_cons_zero, List.set_cons_succ]
        refine heldOne (i := 5) (by kernel_rfl) rfl (fun K hK => ?_)
        go_simp
        go_at_call 53
        refine (H53.out _ hk).mono ?_
        rintro e w2 ⟨a2, c2, rfl, hk⟩
        go_wp2_with fail
        refine hK.out _ _ (HS.out _ hk) (fun hHeld => ?_)
        clear hK K
        try simp only [Act.put, List.setIfInBounds_toArray, List.set_cons_zero, List.set_cons_succ]
        refine heldTake (i := 6) (v := ?_) rfl (by kernel_rfl) (by kernel_rfl) (by kernel_rfl) (fun _ _ _ h => h) (Or.inl ⟨by rfl, ?_⟩) (by assumption) ?_
        rotate_left
        · (intro w hSw; (try dsimp only at hSw); go_simp) <;> with_reducible rfl
        simp only [Act.put, List.setIfInBounds_toArray, List.set_cons_zero, List.set_cons_succ]
        refine heldTake (i := 7) (v := ?_) rfl (by kernel_rfl) (by kernel_rfl) (by kernel_rfl) (fun _ _ _ h => h) (Or.inl ⟨by rfl, ?_⟩) (by assumption) ?_
        rotate_left
        · (intro w hSw; (try dsimp only at hSw); go_simp) <;> with_reducible rfl
        simp only [Act.put, List.setIfInBounds_toArray, List.set_cons_zero, List.set_cons_succ]
        refine heldTake (i := 8) (v := ?_) rfl (by kernel_rfl) (by kernel_rfl) (by kernel_rfl) (fun _ _ _ h => h) (Or.inl ⟨by rfl, ?_⟩) (by assumption) ?_
        rotate_left
        · (intro w hSw; (try dsimp only at hSw); go_simp) <;> with_reducible rfl
        simp only [Act.put, List.setIfInBounds_toArray, List.set_cons_zero, List.set_cons_succ]
        refine heldTake (i := 9) rfl (by kernel_rfl) (by kernel_rfl) (by kernel_rfl) (fun _ _ _ h => h) (Or.inr ⟨by rfl, rfl⟩) (by assumption) ?_
        simp only [Act.put, List.setIfInBounds_toArray, List.set_cons_zero, List.set_cons_succ]
        refine heldTake (i := 10) rfl (by kernel_rfl) (by kernel_rfl) (by kernel_rfl) (fun _ _ _ h => h) (Or.inr ⟨by rfl, rfl⟩) (by assumption) ?_
        simp only [Act.put, List.setIfInBounds_toArray, List.set_cons_zero, List.set_cons_succ]
        refine heldTake (i := 11) rfl (by kernel_rfl) (by kernel_rfl) (by kernel_rfl) (fun _ _ _ h => h) (Or.inr ⟨by rfl, rfl⟩) (by assumption) ?_
        simp only [Act.put, List.setIfInBounds_toArray, List.set_cons_zero, List.set_cons_succ]
        refine heldTake (i := 12) rfl (by kernel_rfl) (by kernel_rfl) (by kernel_rfl) (fun _ _ _ h => h) (Or.inr ⟨by rfl, rfl⟩) (by assumption) ?_
        simp only [Act.put, List.setIfInBounds_toArray, List.set_cons_zero, List.set_cons_succ]
        refine heldTake (i := 13) rfl (by kernel_rfl) (by kernel_rfl) (by kernel_rfl) (fun _ _ _ h => h) (Or.inr ⟨by rfl, rfl⟩) (by assumption) ?_
        simp only [Act.put, List.setIfInBounds_toArray, List.set_cons_zero, List.set_cons_succ]
        refine heldTake (i := 14) rfl (by kernel_rfl) (by kernel_rfl) (by kernel_rfl) (fun _ _ _ h => h) (Or.inr ⟨by rfl, rfl⟩) (by assumption) ?_
        simp only [Act.put, List.setIfInBounds_toArray, List.set_cons_zero, List.set_cons_succ]
        refine heldTake (i := 15) rfl (by kernel_rfl) (by kernel_rfl) (by kernel_rfl) (fun _ _ _ h => h) (Or.inr ⟨by rfl, rfl⟩) (by assumption) ?_
        simp only [Act.put, List.setIfInBounds_toArray, List.set_cons_zero, List.set_cons_succ]
        refine heldTake (i := 16) rfl (by kernel_rfl) (by kernel_rfl) (by kernel_rfl) (fun _ _ _ h => h) (Or.inr ⟨by rfl, rfl⟩) (by assumption) ?_
        simp only [Act.put, List.setIfInBounds_toArray, List.set_cons_zero, List.set_cons_succ]
        refine heldTake (i := 17) rfl (by kernel_rfl) (by kernel_rfl) (by kernel_rfl) (fun _ _ _ h => h) (Or.inr ⟨by rfl, rfl⟩) (by assumption) ?_
        simp only [Act.put, List.setIfInBounds_toArray, List.set_cons_zero, List.set_cons_succ]
        refine heldTake (i := 18) (v := ?_) rfl (by kernel_rfl) (by kernel_rfl) (by kernel_rfl) (fun _ _ _ h => h) (Or.inl ⟨by rfl, ?_⟩) (by assumption) ?_
        rotate_left
        · (intro w hSw; (try dsimp only at hSw); go_simp) <;> with_reducible rfl
        simp only [Act.put, List.setIfInBounds_toArray, List.set_cons_zero, List.set_cons_succ]
        refine wpAnyH_done (by kernel_rfl) ?_ _
        go_wp2_with fail
        exact ⟨⟨k + 1, by omega, by go_num, sk, Dk, ⟨HSB.out.2.no hk, HR.out.1.ws, HR.out.1.tb, by have := HR.out.1.al; omega⟩, by rw [HST.out.1, if_pos (by simp [hn0])]⟩, by simp [intOf]; omega⟩
      · have d0 : decide ((n : Int) > 0) = false := decide_eq_false (by omega)
        cases hout : outB yc yp sk.l
        · as_aux_lemma =>
          rw [hout] at H65
          have HOUT := Lib.hid hout
          clear hout
          refine wp_region_held_drew (S := fun w' => w'.cell? ⟨pd, 1, none⟩ = some (.pointer (some ⟨qp, 0, none⟩)) ∧ w'.cell? ⟨bx, 0, none⟩ = some (.int .i64 yc) ∧ w'.cell? ⟨bx, 1, none⟩ = some (.int .i64 yp) ∧ w'.cell? ⟨bx, 2, none⟩ = some (.int .i64 yo) ∧ w'.cell? ⟨bx, 3, none⟩ = some (.bool yw)) (by kernel_rfl) (HS.out _ hk) (fun hHeld => ?_)
          refine heldTake (i := 0) (v := ?_) rfl (by kernel_rfl) (by kernel_rfl) (by kernel_rfl) (fun _ _ _ h => h) (Or.inl ⟨by rfl, ?_⟩) (by assumption) ?_
          rotate_left
          · (intro w hSw; (try dsimp only at hSw); go_simp) <;> with_reducible rfl
          simp only [Act.put, List.setIfInBounds_toArray, List.set_cons_zero, List.set_cons_succ]
          refine heldTake (i := 1) (v := ?_) rfl (by kernel_rfl) (by kernel_rfl) (by kernel_rfl) (fun _ _ _ h => h) (Or.inl ⟨by rfl, ?_⟩) (by assumption) ?_
          rotate_left
          · (intro w hSw; (try dsimp only at hSw); go_simp) <;> with_reducible rfl
          simp only [Act.put, List.setIfInBounds_toArray, List.set_cons_zero, List.set_cons_succ]
          refine heldTake (i := 2) (v := ?_) rfl (by kernel_rfl) (by kernel_rfl) (by kernel_rfl) (fun _ _ _ h => h) (Or.inl ⟨by rfl, ?_⟩) (by assumption) ?_
          rotate_left
          · (intro w hSw; (try dsimp only at hSw); go_simp) <;> with_reducible rfl
          simp only [Act.put, List.setIfInBounds_toArray, List.set_cons_zero, List.set_cons_succ]
          refine heldTake (i := 3) (v := ?_) rfl (by kernel_rfl) (by kernel_rfl) (by kernel_rfl) (fun _ _ _ h => h) (Or.inl ⟨by rfl, ?_⟩) (by assumption) ?_
          rotate_left
          · (intro w hSw; (try dsimp only at hSw); go_simp) <;> with_reducible rfl
          simp only [Act.put, List.setIfInBounds_toArray, List.set_cons_zero, List.set_cons_succ]
          refine heldTake (i := 4) (v := ?_) rfl (by kernel_rfl) (by kernel_rfl) (by kernel_rfl) (fun _ _ _ h => h) (Or.inl ⟨by rfl, ?_⟩) (by assumption) ?_
          rotate_left
          · (intro w hSw; (try dsimp only at hSw); go_simp) <;> with_reducible rfl
          simp only [Act.put, List.setIfInBounds_toArray, List.set_cons_zero, List.set_cons_succ]
          refine heldOne (i := 5) (by kernel_rfl) rfl (fun K hK => ?_)
          go_simp
          go_at_call 53
          refine (H53.out _ hk).mono ?_
          rintro e w2 ⟨a2, c2, rfl, hk⟩
          go_wp2_with fail
          refine hK.out _ _ (HS.out _ hk) (fun hHeld => ?_)
          clear hK K
          try simp only [Act.put, List.setIfInBounds_toArray, List.set_cons_zero, List.set_cons_succ]
          refine heldTake (i := 6) (v := ?_) rfl (by kernel_rfl) (by kernel_rfl) (by kernel_rfl) (fun _ _ _ h => h) (Or.inl ⟨by rfl, ?_⟩) (by assumption) ?_
          rotate_left
          · (intro w hSw; (try dsimp only at hSw); go_simp) <;> with_reducible rfl
          simp only [Act.put, List.setIfInBounds_toArray, List.set_cons_zero, List.set_cons_succ]
          refine heldTake (i := 7) (v := ?_) rfl (by kernel_rfl) (by kernel_rfl) (by kernel_rfl) (fun _ _ _ h => h) (Or.inl ⟨by rfl, ?_⟩) (by assumption) ?_
          rotate_left
          · (intro w hSw; (try dsimp only at hSw); go_simp) <;> with_reducible rfl
          simp only [Act.put, List.setIfInBounds_toArray, List.set_cons_zero, List.set_cons_succ]
          refine heldTake (i := 8) (v := ?_) rfl (by kernel_rfl) (by kernel_rfl) (by kernel_rfl) (fun _ _ _ h => h) (Or.inl ⟨by rfl, ?_⟩) (by assumption) ?_
          rotate_left
          · (intro w hSw; (try dsimp only at hSw); go_simp) <;> with_reducible rfl
          simp only [Act.put, List.setIfInBounds_toArray, List.set_cons_zero, List.set_cons_succ]
          refine heldTake (i := 9) (v := ?_) rfl (by kernel_rfl) (by kernel_rfl) (by kernel_rfl) (fun _ _ _ h => h) (Or.inl ⟨by rfl, ?_⟩) (by assumption) ?_
          rotate_left
          · (intro w hSw; (try dsimp only at hSw); go_simp) <;> with_reducible rfl
          simp only [Act.put, List.setIfInBounds_toArray, List.set_cons_zero, List.set_cons_succ]
          refine heldTake (i := 10) (v := ?_) rfl (by kernel_rfl) (by kernel_rfl) (by kernel_rfl) (fun _ _ _ h => h) (Or.inl ⟨by rfl, ?_⟩) (by assumption) ?_
          rotate_left
          · (intro w hSw; (try dsimp only at hSw); go_simp) <;> with_reducible rfl
          simp only [Act.put, List.setIfInBounds_toArray, List.set_cons_zero, List.set_cons_succ]
          refine heldTake (i := 11) (v := ?_) rfl (by kernel_rfl) (by kernel_rfl) (by kernel_rfl) (fun _ _ _ h => h) (Or.inl ⟨by rfl, ?_⟩) (by assumption) ?_
          rotate_left
          · (intro w hSw; (try dsimp only at hSw); go_simp) <;> with_reducible rfl
          simp only [Act.put, List.setIfInBounds_toArray, List.set_cons_zero, List.set_cons_succ]
          refine heldTake (i := 12) (v := ?_) rfl (by kernel_rfl) (by kernel_rfl) (by kernel_rfl) (fun _ _ _ h => h) (Or.inl ⟨by rfl, ?_⟩) (by assumption) ?_
          rotate_left
          · (intro w hSw; (try dsimp only at hSw); go_simp) <;> with_reducible rfl
          simp only [Act.put, List.setIfInBounds_toArray, List.set_cons_zero, List.set_cons_succ]
          refine heldTake (i := 13) (v := ?_) rfl (by kernel_rfl) (by kernel_rfl) (by kernel_rfl) (fun _ _ _ h => h) (Or.inl ⟨by rfl, ?_⟩) (by assumption) ?_
          rotate_left
          · (intro w hSw; (try dsimp only at hSw); go_simp) <;> with_reducible rfl
          simp only [Act.put, List.setIfInBounds_toArray, List.set_cons_zero, List.set_cons_succ]
          refine heldTake (i := 14) (v := ?_) rfl (by kernel_rfl) (by kernel_rfl) (by kernel_rfl) (fun _ _ _ h => h) (Or.inl ⟨by rfl, ?_⟩) (by assumption) ?_
          rotate_left
          · (intro w hSw; (try dsimp only at hSw); go_simp) <;> with_reducible rfl
          simp only [Act.put, List.setIfInBounds_toArray, List.set_cons_zero, List.set_cons_succ]
          refine heldTake (i := 15) (v := ?_) rfl (by kernel_rfl) (by kernel_rfl) (by kernel_rfl) (fun _ _ _ h => h) (Or.inl ⟨by rfl, ?_⟩) (by assumption) ?_
          rotate_left
          · (intro w hSw; (try dsimp only at hSw); go_simp) <;> with_reducible rfl
          simp only [Act.put, List.setIfInBounds_toArray, List.set_cons_zero, List.set_cons_succ]
          refine heldTake (i := 16) (v := ?_) rfl (by kernel_rfl) (by kernel_rfl) (by kernel_rfl) (fun _ _ _ h => h) (Or.inl ⟨by rfl, ?_⟩) (by assumption) ?_
          rotate_left
          · (intro w hSw; (try dsimp only at hSw); go_simp) <;> with_reducible rfl
          simp only [Act.put, List.setIfInBounds_toArray, List.set_cons_zero, List.set_cons_succ]
          refine heldOne (i := 17) (by kernel_rfl) rfl (fun K hK => ?_)
          go_simp
          go_at_call 65
          refine (H65.out _ hk).mono ?_
          rintro e w3 ⟨rfl, hk⟩
          replace hk := hk
          go_wp2_with fail
          refine hK.out _ _ (HS.out _ hk) (fun hHeld => ?_)
          clear hK K
          try simp only [Act.put, List.setIfInBounds_toArray, List.set_cons_zero, List.set_cons_succ]
          refine heldTake (i := 18) (v := ?_) rfl (by kernel_rfl) (by kernel_rfl) (by kernel_rfl) (fun _ _ _ h => h) (Or.inl ⟨by rfl, ?_⟩) (by assumption) ?_
          rotate_left
          · (intro w hSw; (try dsimp only at hSw); go_simp) <;> with_reducible rfl
          simp only [Act.put, List.setIfInBounds_toArray, List.set_cons_zero, List.set_cons_succ]
          refine wpAnyH_done (by kernel_rfl) ?_ _
          obtain ⟨q1, x0, x1, x2, x3⟩ := HS.out _ hk
          by_cases hq0 : q = 0
          · as_aux_lemma =>
            have d1 : ((q : Int) == 0) = true := beq_iff_eq.2 (by omega)
            go_wp2_with (first | (go_at_call 103; (with_reducible refine (H103.out _ hk).mono ?_); rintro e w4 ⟨a4, c4, rfl, hk4, ho4⟩; clear q1 x0 x1 x2 x3; obtain ⟨q1, x0, x1, x2, x3⟩ := HS.out _ hk4) | (go_at_call 113; (with_reducible refine (H113.out _ hk4).mono ?_); rintro e w5 ⟨rfl, D5, hs5⟩))
            go_ret
            have e : P = (grantP sk ⟨yc, yp, yo, yw⟩, true) := by rw [HST.out.1, if_neg (by simp [hn0, HOUT.out]), if_pos hq0]
            rw [e]
            exact (((DkS.refl HD.out).no H1.out.1).trans hs5).to
          · as_aux_lemma =>
            have d1 : ((q : Int) == 0) = false := beq_eq_false_iff_ne.2 (by omega)
            go_wp2_with (go_at_call 103; (with_reducible refine (H103.out _ hk).mono ?_); rintro e w4 ⟨a4, c4, rfl, hk4, ho4⟩)
            have hs4 := HSB.out.2.no hk4
            have HO4 := Lib.hid (And.intro ho4 (And.intro hk4 hs4))
            have hq4 : q ≤ 4 := HST.out.2.2.1
            clear ho4 hk4 q1 x0 x1 x2 x3 hs4 hk
            go_loopw [48] (fun i wx => ∃ j : Nat, j ≤ q ∧ i = .int .i64 j ∧ ∃ sj Dj, PsAt w4 wx Dk Dj pd tb qp r sk sj j ∧ callP sk ⟨yc, yp, yo, yw⟩ L = callP sj ⟨yc, yp, yo, yw⟩ (L.drop j)) (fun i _ => q - (intOf i).toNat)
            case atStart => exact ⟨0, by omega, rfl, sk, Dk, ⟨DkS.refl HO4.out.2.2.at_, rfl, rfl, by omega⟩, rfl⟩
            case round =>
              obtain ⟨j, hj0, rfl, sj, Dj, hp1, hp2⟩ := hrel
              have HJ := Lib.hid (And.intro hp1 hp2)
              clear hp1 hp2
              by_cases hjt : j < q
              · have hjL : j < L.length := by rw [← HST.out.2.1]; exact hjt
                obtain ⟨g4, rfl, _, _, z0⟩ := (OwnI.keep HO4.out.1 HJ.out.1.st.kp (fun k hk e => by have := HR.out.1.st.at_.lt e; have := HSB.out.1.size; omega)).cell hjL
                obtain ⟨hh, hhe⟩ : ∃ hh, hh = L.getD j 0 := ⟨_, rfl⟩
                rw [← hhe] at z0
                have hcs := callP_step (s := sj) (x := ⟨yc, yp, yo, yw⟩) hjL
                rw [show L[j] = hh by rw [hhe, List.getD_eq_getElem?_getD, List.getElem?_eq_getElem hjL]; rfl, ← HJ.out.2] at hcs
                clear hhe
                have hw1 := HR.out.1.ws
                have h49 : ∀ w', Keeps noB wr w' → Calls Try.prog 49 #[.pointer (some ⟨qp, 0, none⟩), .int .i64 hh, .agg #[.int .i64 yc, .int .i64 yp, .int .i64 yo, .bool yw]] w' (fun e w2 => e = .returned (.bool (callOk hh ⟨yc, yp, yo, yw⟩ sj.l)) ∧ ∃ D1, DkS w4 w2 Dk D1 pd tb qp r { sj with l := callL hh ⟨yc, yp, yo, yw⟩ sj.l }) := fun w' hk => (call_d (HJ.out.1.st.no hk).at_ hh ⟨yc, yp, yo, yw⟩).mono (fun e w2 ⟨h1, D1, h2⟩ => ⟨h1, D1, (HJ.out.1.st.no hk).trans h2⟩)
                have hs := HJ.out.1.st.no ((Keeps.refl noB wr).drew)
                have hk := (Keeps.refl noB wr).drew
                cases hco : callOk hh ⟨yc, yp, yo, yw⟩ sj.l
                · as_aux_lemma =>
                  rw [hco] at hcs h49
                  rw [show callL hh ⟨yc, yp, yo, yw⟩ sj.l = sj.l by unfold callL; rw [hco]; rfl] at h49
                  have H49 := Lib.hid h49
                  have HCS := Lib.hid hcs
                  clear h49 hcs hco hw1
                  go_upto_region 12 with fail
                  refine wp_region_held_drew (S := fun w' => w'.cell? ⟨pd, 1, none⟩ = some (.pointer (some ⟨qp, 0, none⟩)) ∧ w'.cell? ⟨bx, 0, none⟩ = some (.int .i64 yc) ∧ w'.cell? ⟨bx, 1, none⟩ = some (.int .i64 yp) ∧ w'.cell? ⟨bx, 2, none⟩ = some (.int .i64 yo) ∧ w'.cell? ⟨bx, 3, none⟩ = some (.bool yw)) (by kernel_rfl) (HS2.out _ _ _ _ HO4.out.2.1 hs) (fun hHeld => ?_)
                  refine heldTake (i := 0) (v := ?_) rfl (by kernel_rfl) (by kernel_rfl) (by kernel_rfl) (fun _ _ _ h => h) (Or.inl ⟨by rfl, ?_⟩) (by assumption) ?_
                  rotate_left
                  · (intro w hSw; (try dsimp only at hSw); go_simp) <;> with_reducible rfl
                  simp only [Act.put, List.setIfInBounds_toArray, List.set_cons_zero, List.set_cons_succ]
                  refine heldTake (i := 1) (v := ?_) rfl (by kernel_rfl) (by kernel_rfl) (by kernel_rfl) (fun _ _ _ h => h) (Or.inl ⟨by rfl, ?_⟩) (by assumption) ?_
                  rotate_left
                  · (intro w hSw; (try dsimp only at hSw); go_simp) <;> with_reducible rfl
                  simp only [Act.put, List.setIfInBounds_toArray, List.set_cons_zero, List.set_cons_succ]
                  refine heldTake (i := 2) (v := ?_) rfl (by kernel_rfl) (by kernel_rfl) (by kernel_rfl) (fun _ _ _ h => h) (Or.inl ⟨by rfl, ?_⟩) (by assumption) ?_
                  rotate_left
                  · (intro w hSw; (try dsimp only at hSw); go_simp) <;> with_reducible rfl
                  simp only [Act.put, List.setIfInBounds_toArray, List.set_cons_zero, List.set_cons_succ]
                  refine heldTake (i := 3) (v := ?_) rfl (by kernel_rfl) (by kernel_rfl) (by kernel_rfl) (fun _ _ _ h => h) (Or.inl ⟨by rfl, ?_⟩) (by assumption) ?_
                  rotate_left
                  · (intro w hSw; (try dsimp only at hSw); go_simp) <;> with_reducible rfl
                  simp only [Act.put, List.setIfInBounds_toArray, List.set_cons_zero, List.set_cons_succ]
                  refine heldTake (i := 4) (v := ?_) rfl (by kernel_rfl) (by kernel_rfl) (by kernel_rfl) (fun _ _ _ h => h) (Or.inl ⟨by rfl, ?_⟩) (by assumption) ?_
                  rotate_left
                  · (intro w hSw; (try dsimp only at hSw); go_simp) <;> with_reducible rfl
                  simp only [Act.put, List.setIfInBounds_toArray, List.set_cons_zero, List.set_cons_succ]
                  refine heldTake (i := 5) (v := ?_) rfl (by kernel_rfl) (by kernel_rfl) (by kernel_rfl) (fun _ _ _ h => h) (Or.inl ⟨by rfl, ?_⟩) (by assumption) ?_
                  rotate_left
                  · (intro w hSw; (try dsimp only at hSw); go_simp) <;> with_reducible rfl
                  simp only [Act.put, List.setIfInBounds_toArray, List.set_cons_zero, List.set_cons_succ]
                  refine heldOne (i := 6) (by kernel_rfl) rfl (fun K hK => ?_)
                  go_simp
                  go_at_call 49
                  refine (H49.out _ hk).mono ?_
                  rintro e w5 ⟨rfl, D5, hs⟩
                  go_wp2_with fail
                  refine hK.out _ _ (HS2.out _ _ _ _ HO4.out.2.1 hs) (fun hHeld => ?_)
                  clear hK K
                  try simp only [Act.put, List.setIfInBounds_toArray, List.set_cons_zero, List.set_cons_succ]
                  refine wpAnyH_done (by kernel_rfl) ?_ _
                  go_wp2_with fail
                  exact ⟨⟨j + 1, by omega, by go_num, sj, D5, ⟨hs, HJ.out.1.ws, HJ.out.1.tb, by have := HJ.out.1.al; omega⟩, HCS.out⟩, by simp [intOf]; omega⟩
                · as_aux_lemma =>
                  rw [hco] at hcs h49
                  rw [show callL hh ⟨yc, yp, yo, yw⟩ sj.l = kput (keyOf hh ⟨yc, yp, yo, yw⟩) false sj.l by unfold callL; rw [hco]; rfl] at h49
                  have H49 := Lib.hid h49
                  have HCS := Lib.hid hcs
                  clear h49 hcs hco hw1
                  go_upto_region 12 with fail
                  refine wp_region_held_drew (S := fun w' => w'.cell? ⟨pd, 1, none⟩ = some (.pointer (some ⟨qp, 0, none⟩)) ∧ w'.cell? ⟨bx, 0, none⟩ = some (.int .i64 yc) ∧ w'.cell? ⟨bx, 1, none⟩ = some (.int .i64 yp) ∧ w'.cell? ⟨bx, 2, none⟩ = some (.int .i64 yo) ∧ w'.cell? ⟨bx, 3, none⟩ = some (.bool yw)) (by kernel_rfl) (HS2.out _ _ _ _ HO4.out.2.1 hs) (fun hHeld => ?_)
                  refine heldTake (i := 0) (v := ?_) rfl (by kernel_rfl) (by kernel_rfl) (by kernel_rfl) (fun _ _ _ h => h) (Or.inl ⟨by rfl, ?_⟩) (by assumption) ?_
                  rotate_left
                  · (intro w hSw; (try dsimp only at hSw); go_simp) <;> with_reducible rfl
                  simp only [Act.put, List.setIfInBounds_toArray, List.set_cons_zero, List.set_cons_succ]
                  refine heldTake (i := 1) (v := ?_) rfl (by kernel_rfl) (by kernel_rfl) (by kernel_rfl) (fun _ _ _ h => h) (Or.inl ⟨by rfl, ?_⟩) (by assumption) ?_
                  rotate_left
                  · (intro w hSw; (try dsimp only at hSw); go_simp) <;> with_reducible rfl
                  simp only [Act.put, List.setIfInBounds_toArray, List.set_cons_zero, List.set_cons_succ]
                  refine heldTake (i := 2) (v := ?_) rfl (by kernel_rfl) (by kernel_rfl) (by kernel_rfl) (fun _ _ _ h => h) (Or.inl ⟨by rfl, ?_⟩) (by assumption) ?_
                  rotate_left
                  · (intro w hSw; (try dsimp only at hSw); go_simp) <;> with_reducible rfl
                  simp only [Act.put, List.setIfInBounds_toArray, List.set_cons_zero, List.set_cons_succ]
                  refine heldTake (i := 3) (v := ?_) rfl (by kernel_rfl) (by kernel_rfl) (by kernel_rfl) (fun _ _ _ h => h) (Or.inl ⟨by rfl, ?_⟩) (by assumption) ?_
                  rotate_left
                  · (intro w hSw; (try dsimp only at hSw); go_simp) <;> with_reducible rfl
                  simp only [Act.put, List.setIfInBounds_toArray, List.set_cons_zero, List.set_cons_succ]
                  refine heldTake (i := 4) (v := ?_) rfl (by kernel_rfl) (by kernel_rfl) (by kernel_rfl) (fun _ _ _ h => h) (Or.inl ⟨by rfl, ?_⟩) (by assumption) ?_
                  rotate_left
                  · (intro w hSw; (try dsimp only at hSw); go_simp) <;> with_reducible rfl
                  simp only [Act.put, List.setIfInBounds_toArray, List.set_cons_zero, List.set_cons_succ]
                  refine heldTake (i := 5) (v := ?_) rfl (by kernel_rfl) (by kernel_rfl) (by kernel_rfl) (fun _ _ _ h => h) (Or.inl ⟨by rfl, ?_⟩) (by assumption) ?_
                  rotate_left
                  · (intro w hSw; (try dsimp only at hSw); go_simp) <;> with_reducible rfl
                  simp only [Act.put, List.setIfInBounds_toArray, List.set_cons_zero, List.set_cons_succ]
                  refine heldOne (i := 6) (by kernel_rfl) rfl (fun K hK => ?_)
                  go_simp
                  go_at_call 49
                  refine (H49.out _ hk).mono ?_
                  rintro e w5 ⟨rfl, D5, hs⟩
                  go_wp2_with fail
                  refine hK.out _ _ (HS2.out _ _ _ _ HO4.out.2.1 hs) (fun hHeld => ?_)
                  clear hK K
                  try simp only [Act.put, List.setIfInBounds_toArray, List.set_cons_zero, List.set_cons_succ]
                  refine wpAnyH_done (by kernel_rfl) ?_ _
                  obtain ⟨q1, x0, x1, x2, x3⟩ := HS2.out _ _ _ _ HO4.out.2.1 hs
                  have hal : sj.al.length ≤ 9000 := by have := HJ.out.1.al; have := HR.out.1.al; have := HO.out.2; have := HST.out.2.2.1; omega
                  go_wp2_with (go_at_call 111; (with_reducible refine (send_d hs.at_ (by show sj.al.length ≤ 10000; omega) _ _ _ _ _ _ _).mono ?_); rintro e w6 hto; obtain ⟨rfl, D6, hs6⟩ := hto.step)
                  exact ⟨⟨j + 1, by omega, by go_num, _, D6, ⟨hs.trans hs6, HJ.out.1.ws, HJ.out.1.tb, by have := HJ.out.1.al; simp; omega⟩, HCS.out⟩, by simp [intOf]; omega⟩
              · as_aux_lemma =>
                have hjq : j = q := by omega
                subst hjq
                go_wp2_with fail
                refine ⟨⟨k + 1, by omega, by go_num, sj, Dj, ⟨HO4.out.2.2.trans HJ.out.1.st, HJ.out.1.ws.trans HR.out.1.ws, HJ.out.1.tb.trans HR.out.1.tb, by have := HR.out.1.al; have := HJ.out.1.al; have := HST.out.2.2.1; omega⟩, ?_⟩, by simp [intOf]; omega⟩
                rw [HST.out.1, if_neg (by simp [hn0, HOUT.out]), if_neg hq0, HJ.out.2, List.drop_eq_nil_of_le (by rw [HST.out.2.1]; exact Nat.le_refl _)]
                rfl
        · as_aux_lemma =>
          rw [hout] at H65
          have HOUT := Lib.hid hout
          clear hout
          refine wp_region_held_drew (S := fun w' => w'.cell? ⟨pd, 1, none⟩ = some (.pointer (some ⟨qp, 0, none⟩)) ∧ w'.cell? ⟨bx, 0, none⟩ = some (.int .i64 yc) ∧ w'.cell? ⟨bx, 1, none⟩ = some (.int .i64 yp) ∧ w'.cell? ⟨bx, 2, none⟩ = some (.int .i64 yo) ∧ w'.cell? ⟨bx, 3, none⟩ = some (.bool yw)) (by kernel_rfl) (HS.out _ hk) (fun hHeld => ?_)
          refine heldTake (i := 0) (v := ?_) rfl (by kernel_rfl) (by kernel_rfl) (by kernel_rfl) (fun _ _ _ h => h) (Or.inl ⟨by rfl, ?_⟩) (by assumption) ?_
          rotate_left
          · (intro w hSw; (try dsimp only at hSw); go_simp) <;> with_reducible rfl
          simp only [Act.put, List.setIfInBounds_toArray, List.set_cons_zero, List.set_cons_succ]
          refine heldTake (i := 1) (v := ?_) rfl (by kernel_rfl) (by kernel_rfl) (by kernel_rfl) (fun _ _ _ h => h) (Or.inl ⟨by rfl, ?_⟩) (by assumption) ?_
          rotate_left
          · (intro w hSw; (try dsimp only at hSw); go_simp) <;> with_reducible rfl
          simp only [Act.put, List.setIfInBounds_toArray, List.set_cons_zero, List.set_cons_succ]
          refine heldTake (i := 2) (v := ?_) rfl (by kernel_rfl) (by kernel_rfl) (by kernel_rfl) (fun _ _ _ h => h) (Or.inl ⟨by rfl, ?_⟩) (by assumption) ?_
          rotate_left
          · (intro w hSw; (try dsimp only at hSw); go_simp) <;> with_reducible rfl
          simp only [Act.put, List.setIfInBounds_toArray, List.set_cons_zero, List.set_cons_succ]
          refine heldTake (i := 3) (v := ?_) rfl (by kernel_rfl) (by kernel_rfl) (by kernel_rfl) (fun _ _ _ h => h) (Or.inl ⟨by rfl, ?_⟩) (by assumption) ?_
          rotate_left
          · (intro w hSw; (try dsimp only at hSw); go_simp) <;> with_reducible rfl
          simp only [Act.put, List.setIfInBounds_toArray, List.set_cons_zero, List.set_cons_succ]
          refine heldTake (i := 4) (v := ?_) rfl (by kernel_rfl) (by kernel_rfl) (by kernel_rfl) (fun _ _ _ h => h) (Or.inl ⟨by rfl, ?_⟩) (by assumption) ?_
          rotate_left
          · (intro w hSw; (try dsimp only at hSw); go_simp) <;> with_reducible rfl
          simp only [Act.put, List.setIfInBounds_toArray, List.set_cons_zero, List.set_cons_succ]
          refine heldOne (i := 5) (by kernel_rfl) rfl (fun K hK => ?_)
          go_simp
          go_at_call 53
          refine (H53.out _ hk).mono ?_
          rintro e w2 ⟨a2, c2, rfl, hk⟩
          go_wp2_with fail
          refine hK.out _ _ (HS.out _ hk) (fun hHeld => ?_)
          clear hK K
          try simp only [Act.put, List.setIfInBounds_toArray, List.set_cons_zero, List.set_cons_succ]
          refine heldTake (i := 6) (v := ?_) rfl (by kernel_rfl) (by kernel_rfl) (by kernel_rfl) (fun _ _ _ h => h) (Or.inl ⟨by rfl, ?_⟩) (by assumption) ?_
          rotate_left
          · (intro w hSw; (try dsimp only at hSw); go_simp) <;> with_reducible rfl
          simp only [Act.put, List.setIfInBounds_toArray, List.set_cons_zero, List.set_cons_succ]
          refine heldTake (i := 7) (v := ?_) rfl (by kernel_rfl) (by kernel_rfl) (by kernel_rfl) (fun _ _ _ h => h) (Or.inl ⟨by rfl, ?_⟩) (by assumption) ?_
          rotate_left
          · (intro w hSw; (try dsimp only at hSw); go_simp) <;> with_reducible rfl
          simp only [Act.put, List.setIfInBounds_toArray, List.set_cons_zero, List.set_cons_succ]
          refine heldTake (i := 8) (v := ?_) rfl (by kernel_rfl) (by kernel_rfl) (by kernel_rfl) (fun _ _ _ h => h) (Or.inl ⟨by rfl, ?_⟩) (by assumption) ?_
          rotate_left
          · (intro w hSw; (try dsimp only at hSw); go_simp) <;> with_reducible rfl
          simp only [Act.put, List.setIfInBounds_toArray, List.set_cons_zero, List.set_cons_succ]
          refine heldTake (i := 9) (v := ?_) rfl (by kernel_rfl) (by kernel_rfl) (by kernel_rfl) (fun _ _ _ h => h) (Or.inl ⟨by rfl, ?_⟩) (by assumption) ?_
          rotate_left
          · (intro w hSw; (try dsimp only at hSw); go_simp) <;> with_reducible rfl
          simp only [Act.put, List.setIfInBounds_toArray, List.set_cons_zero, List.set_cons_succ]
          refine heldTake (i := 10) (v := ?_) rfl (by kernel_rfl) (by kernel_rfl) (by kernel_rfl) (fun _ _ _ h => h) (Or.inl ⟨by rfl, ?_⟩) (by assumption) ?_
          rotate_left
          · (intro w hSw; (try dsimp only at hSw); go_simp) <;> with_reducible rfl
          simp only [Act.put, List.setIfInBounds_toArray, List.set_cons_zero, List.set_cons_succ]
          refine heldTake (i := 11) (v := ?_) rfl (by kernel_rfl) (by kernel_rfl) (by kernel_rfl) (fun _ _ _ h => h) (Or.inl ⟨by rfl, ?_⟩) (by assumption) ?_
          rotate_left
          · (intro w hSw; (try dsimp only at hSw); go_simp) <;> with_reducible rfl
          simp only [Act.put, List.setIfInBounds_toArray, List.set_cons_zero, List.set_cons_succ]
          refine heldTake (i := 12) (v := ?_) rfl (by kernel_rfl) (by kernel_rfl) (by kernel_rfl) (fun _ _ _ h => h) (Or.inl ⟨by rfl, ?_⟩) (by assumption) ?_
          rotate_left
          · (intro w hSw; (try dsimp only at hSw); go_simp) <;> with_reducible rfl
          simp only [Act.put, List.setIfInBounds_toArray, List.set_cons_zero, List.set_cons_succ]
          refine heldTake (i := 13) (v := ?_) rfl (by kernel_rfl) (by kernel_rfl) (by kernel_rfl) (fun _ _ _ h => h) (Or.inl ⟨by rfl, ?_⟩) (by assumption) ?_
          rotate_left
          · (intro w hSw; (try dsimp only at hSw); go_simp) <;> with_reducible rfl
          simp only [Act.put, List.setIfInBounds_toArray, List.set_cons_zero, List.set_cons_succ]
          refine heldTake (i := 14) (v := ?_) rfl (by kernel_rfl) (by kernel_rfl) (by kernel_rfl) (fun _ _ _ h => h) (Or.inl ⟨by rfl, ?_⟩) (by assumption) ?_
          rotate_left
          · (intro w hSw; (try dsimp only at hSw); go_simp) <;> with_reducible rfl
          simp only [Act.put, List.setIfInBounds_toArray, List.set_cons_zero, List.set_cons_succ]
          refine heldTake (i := 15) (v := ?_) rfl (by kernel_rfl) (by kernel_rfl) (by kernel_rfl) (fun _ _ _ h => h) (Or.inl ⟨by rfl, ?_⟩) (by assumption) ?_
          rotate_left
          · (intro w hSw; (try dsimp only at hSw); go_simp) <;> with_reducible rfl
          simp only [Act.put, List.setIfInBounds_toArray, List.set_cons_zero, List.set_cons_succ]
          refine heldTake (i := 16) (v := ?_) rfl (by kernel_rfl) (by kernel_rfl) (by kernel_rfl) (fun _ _ _ h => h) (Or.inl ⟨by rfl, ?_⟩) (by assumption) ?_
          rotate_left
          · (intro w hSw; (try dsimp only at hSw); go_simp) <;> with_reducible rfl
          simp only [Act.put, List.setIfInBounds_toArray, List.set_cons_zero, List.set_cons_succ]
          refine heldOne (i := 17) (by kernel_rfl) rfl (fun K hK => ?_)
          go_simp
          go_at_call 65
          refine (H65.out _ hk).mono ?_
          rintro e w3 ⟨rfl, hk⟩
          replace hk := hk
          go_wp2_with fail
          refine hK.out _ _ (HS.out _ hk) (fun hHeld => ?_)
          clear hK K
          try simp only [Act.put, List.setIfInBounds_toArray, List.set_cons_zero, List.set_cons_succ]
          refine heldTake (i := 18) (v := ?_) rfl (by kernel_rfl) (by kernel_rfl) (by kernel_rfl) (fun _ _ _ h => h) (Or.inl ⟨by rfl, ?_⟩) (by assumption) ?_
          rotate_left
          · (intro w hSw; (try dsimp only at hSw); go_simp) <;> with_reducible rfl
          simp only [Act.put, List.setIfInBounds_toArray, List.set_cons_zero, List.set_cons_succ]
          refine wpAnyH_done (by kernel_rfl) ?_ _
          go_wp2_with fail
          exact ⟨⟨k + 1, by omega, by go_num, sk, Dk, ⟨HSB.out.2.no hk, HR.out.1.ws, HR.out.1.tb, by have := HR.out.1.al; omega⟩, by rw [HST.out.1, if_pos (by simp [HOUT.out])]⟩, by simp [intOf]; omega⟩
    · have hkm : k = m := by omega
      subst hkm
      go_wp2_with fail
      go_ret
      have e : P = (sk, false) := by
        rw [HR.out.2, List.drop_eq_nil_of_le (by rw [HM.out]; exact Nat.le_refl _)]
        rfl
      rw [e]
      exact (((DkS.refl HD.out).no H1.out.1).trans HR.out.1.st).to
end Go.Proofs.Ytlpimkmkcfbddaa
