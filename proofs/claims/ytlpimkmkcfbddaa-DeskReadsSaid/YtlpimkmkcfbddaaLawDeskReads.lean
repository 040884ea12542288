/- DeskReads: clients that only ask to read are granted at once, the whole page, and nobody is called: the law answers true at every input. Printed by mk_dreads.py. No condition. -/
import Derived.Test.YtlpimkmkcfbddaaDkRt
import Derived.Test.YtlpimkmkcfbddaaDkRd
namespace Go.Proofs.Ytlpimkmkcfbddaa
open Go.RowKit

/-- A desk that is new, and of which only reading was asked. -/
structure RdI (w wr : World) (D : Nat → Prop) (pd tb qp r : Nat) (s : Dp) : Prop where
  kp : Keeps noB w wr
  at_ : DkD wr D pd tb qp r s
  ge : ∀ y, D y → w.heap.size ≤ y
  rd : RdD s
theorem RdI.no {w wr w1 : World} {D : Nat → Prop} {pd tb qp r : Nat} {s : Dp} (h : RdI w wr D pd tb qp r s) (hk : Keeps noB wr w1) : RdI w w1 D pd tb qp r s :=
  ⟨h.kp.trans_no hk, h.at_.no hk, h.ge, h.rd⟩
theorem read_r {w wr w' : World} {D : Nat → Prop} {pd tb qp r : Nat} {s : Dp} (h : RdI w wr D pd tb qp r s) (hk : Keeps noB wr w') {c p o : Int} (hc : 0 ≤ c ∧ c < 4) (hp : 0 ≤ p ∧ p < 6) (ho : 0 ≤ o ∧ o < 4) :
    Calls Try.prog 72 #[.pointer (some ⟨pd, 0, none⟩), .int .i64 c, msgv 0 p o 0 0 false] w' (fun e w2 => ∃ g n D1 s1, e = .returned (.slice (some ⟨g, 0, none⟩) 1 n) ∧ Keeps D w' w2 ∧ RdI w w2 D1 pd tb qp r s1 ∧
      w2.cell? ⟨g, 0, none⟩ = some (.int .i64 c) ∧ w2.cell? ⟨g, 1, none⟩ = some (.int .i64 5) ∧ w2.cell? ⟨g, 5, none⟩ = some (.int .i64 15) ∧ w2.cell? ⟨g, 6, none⟩ = some (.int .i64 0)) := by
  have h' := h.no hk
  obtain ⟨u, hset, hal, hrd⟩ := rd_step h'.rd hc hp ho
  refine (handle_read h'.at_ (by rw [h'.rd.ws]; decide) c p o 0 0 hset).mono ?_
  rintro e w2 ⟨a, n, D1, rfl, hs, hr⟩
  have hlen : u.al.length = 1 := by rw [hal]; rfl
  rw [hlen] at hr ⊢
  rw [hal] at hr
  obtain ⟨g, rfl, y0, y1, y5, y6⟩ := hr.one
  refine ⟨g, n, D1, calm u, rfl, hs.kp, ⟨h'.kp.trans hs.kp (fun y hy hD => absurd (h'.ge y hD) (by omega)), hs.at_, fun y hy => ?_, hrd⟩, y0, y1, y5, y6⟩
  rcases hs.dn y hy with h1 | h1
  · exact h'.ge y h1
  · exact Nat.le_trans h'.kp.size h1
theorem wants_r {w wr : World} {D : Nat → Prop} {pd tb qp r : Nat} {s : Dp} (h : RdI w wr D pd tb qp r s) : Calls Try.prog 73 #[.pointer (some ⟨pd, 0, none⟩)] wr (fun e w' => ∃ a n, e = .returned (.slice a 0 n) ∧ Keeps noB wr w') := by
  refine (wants_d h.at_ (by rw [h.rd.ws]; decide)).mono ?_
  rintro e w' ⟨v', ⟨rfl, hk⟩, a, n, rfl, _⟩
  rw [h.rd.ws]
  exact ⟨a, n, rfl, hk⟩
set_option maxRecDepth 100000 in
set_option maxHeartbeats 16000000 in
theorem deskReads_w (a : Option Addr) (len cap : Nat) (g : Nat → Nat → Value) (w : World) (hl : len ≤ maxLen) (hr : RdS w 4 a len g) (hq : ∀ k, k < len → Q4 (g k)) :
    Calls Try.prog 18 #[.slice a len cap] w (RetK noB (.bool true) w) := by
  obtain ⟨xs, hxl, hX, _⟩ := wtc_of_rd cap hr hq
  clear hr hq
  unfold maxLen at hl
  have HX := Lib.hid (And.intro hX hxl)
  clear hX hxl
  have hsc := run_store_cz
  by_cases h60 : 60 < len
  · as_aux_lemma =>
    have d0 : decide ((len : Int) > 60) = true := decide_eq_true (by omega)
    go_enter Try.func18, Try.ntmps18
    go_wp2_with (go_at_call 69; refine (deskAlive_c _).mono ?_; rintro e w1 ⟨rfl, hk1⟩)
    go_ret
    exact ⟨rfl, hk1⟩
  · have d0 : decide ((len : Int) > 60) = false := decide_eq_false (by omega)
    go_enter Try.func18, Try.ntmps18
    go_wp2_with (first
      | (go_at_call 69; refine (deskAlive_c _).mono ?_; rintro e w1 ⟨rfl, hk1⟩; have H1 := Lib.hid hk1; clear hk1)
      | (go_at_call 70; refine (new_d _).mono ?_; rintro e w2 ⟨pd, tb, qp, r, D0, rfl, hk2, hd2, hg2⟩; have H2 := Lib.hid (And.intro hk2 (And.intro hd2 hg2)); clear hk2 hd2 hg2))
    have hI0 : RdI w w2 D0 pd tb qp r dk0 := ⟨H1.out.trans_no H2.out.1, H2.out.2.1, fun y hy => Nat.le_trans H1.out.size (H2.out.2.2 y hy), RdD.zero⟩
    have HI0 := Lib.hid hI0
    clear hI0 H1 H2
    go_loopw [16] (fun i wr => ∃ k : Nat, k ≤ len ∧ i = .int .i64 k ∧ ∃ s D, RdI w wr D pd tb qp r s) (fun i _ => len - (intOf i).toNat)
    case atStart => exact ⟨0, by omega, rfl, dk0, D0, HI0.out⟩
    case round =>
      clear HI0
      obtain ⟨k, hk0, rfl, s, D, hI⟩ := hrel
      have HI := Lib.hid hI
      clear hI
      by_cases hlt : k < len
      · have hlt2 : k < xs.length := by rw [HX.out.2]; exact hlt
        obtain ⟨g, off, rfl, c0, c1, c2, c3⟩ := (HX.out.1.no HI.out.kp).at_ hlt2
        generalize xs[k] = y at *
        obtain ⟨yc, yp, yo, yw⟩ := y
        simp only at c0 c1 c2 c3
        obtain ⟨wB, hwB⟩ : ∃ wB, wB = wr.alloc (.cells #[.int .i64 yc, .int .i64 yp, .int .i64 yo, .bool yw] 73) := ⟨_, rfl⟩
        have hkB : Keeps noB wr wB := by rw [hwB]; exact (Keeps.refl _ _).alloc _
        have hX : wB.heap[wr.heap.size]? = some (.cells #[.int .i64 yc, .int .i64 yp, .int .i64 yo, .bool yw] 73 (0, 0)) := by rw [hwB]; exact heap_alloc_new _ _
        obtain ⟨bx, hbx⟩ : ∃ b, b = wr.heap.size := ⟨_, rfl⟩
        have hnb : ¬ D bx := fun e => by have := HI.out.at_.lt e; omega
        rw [← hbx] at hX
        obtain ⟨wC, hwC⟩ : ∃ wC, wC = wB.alloc (.cells #[.int .i64 0, .int .i64 yp, .int .i64 yo, .int .i64 0, .int .i64 0, .int .i64 0, .bool false, .slice none 0 0, .complex .f64 0 0, .complex .f64 0 0, .complex .f64 0 0, .complex .f64 0 0] 107) := ⟨_, rfl⟩
        have hkC : Keeps noB wB wC := by rw [hwC]; exact (Keeps.refl _ _).alloc _
        have hM : wC.heap[wB.heap.size]? = some (.cells #[.int .i64 0, .int .i64 yp, .int .i64 yo, .int .i64 0, .int .i64 0, .int .i64 0, .bool false, .slice none 0 0, .complex .f64 0 0, .complex .f64 0 0, .complex .f64 0 0, .complex .f64 0 0] 107 (0, 0)) := by rw [hwC]; exact heap_alloc_new _ _
        obtain ⟨bm, hbm⟩ : ∃ b, b = wB.heap.size := ⟨_, rfl⟩
        rw [← hbm] at hM
        have x := box_cells hX
        obtain ⟨x0, x1, x2, x3⟩ := x
        have HC := Lib.hid (And.intro (hkB.trans_no hkC) (And.intro (hkC.blk hX (noB_not _)) (And.intro hM hnb)))
        clear hX hM hkB hkC hnb
        go_upto_region 9 with fail
        rw [← hwB, ← hbx]
        clear hwB hbx
        go_upto_region 10 with fail
        rw [← hwC, ← hbm]
        clear hwC hbm x0 x1 x2 x3
        obtain ⟨x0, x1, x2, x3⟩ := box_cells HC.out.2.1
        obtain ⟨m0, m1, m2, m3, m4, m5, m6, m7, m8, m9, m10, m11⟩ := msg_cells HC.out.2.2.1
        by_cases h1 : yc < 0
        · as_aux_lemma =>
          have d1 : decide (yc < 0) = true := decide_eq_true h1
          go_wp2_with fail
          exact ⟨⟨k + 1, by omega, by go_num, s, D, HI.out.no HC.out.1⟩, by simp [intOf]; omega⟩
        have d1 : decide (yc < 0) = false := decide_eq_false h1
        by_cases h2 : yc > 3
        · as_aux_lemma =>
          have d2 : decide (yc > 3) = true := decide_eq_true h2
          go_wp2_with fail
          exact ⟨⟨k + 1, by omega, by go_num, s, D, HI.out.no HC.out.1⟩, by simp [intOf]; omega⟩
        have d2 : decide (yc > 3) = false := decide_eq_false h2
        have h71 := right_z yp yo
        by_cases h3 : rightM yp yo = false
        · as_aux_lemma =>
          rw [h3] at h71
          have H71 := Lib.hid h71
          clear h71
          go_wp2_with (go_at_call 71; (with_reducible refine (H71.out _).mono ?_); rintro e w4 ⟨rfl, hk4⟩)
          exact ⟨⟨k + 1, by omega, by go_num, s, D, HI.out.no (HC.out.1.trans_no hk4)⟩, by simp [intOf]; omega⟩
        have h3 : rightM yp yo = true := by simpa using h3
        rw [h3] at h71
        have h4 := of_decide_eq_true h3
        have h72 := fun w' (hk : Keeps noB wr w') => read_r HI.out hk (c := yc) (p := yp) (o := yo) (by omega) (by omega) (by omega)
        have H71 := Lib.hid h71
        have H72 := Lib.hid h72
        clear h71 h72 h1 h2 h3 h4
        go_upto_region 12 with (first
          | (go_at_call 71; (with_reducible refine (H71.out _).mono ?_); rintro e w4 ⟨rfl, hk4⟩; clear x0 x1 x2 x3 m0 m1 m2 m3 m4 m5 m6 m7 m8 m9 m10 m11; obtain ⟨x0, x1, x2, x3⟩ := box_cells (hk4.blk HC.out.2.1 (noB_not _)); obtain ⟨m0, m1, m2, m3, m4, m5, m6, m7, m8, m9, m10, m11⟩ := msg_cells (hk4.blk HC.out.2.2.1 (noB_not _)); have H4 := Lib.hid hk4; clear hk4)
          | (go_at_call 72; (with_reducible refine (H72.out _ (HC.out.1.trans_no H4.out)).mono ?_); rintro e w5 ⟨g5, n5, D5, s5, rfl, hk5, hi5, y0, y1, y5, y6⟩; have H5 := Lib.hid (And.intro hk5 (And.intro hi5 (And.intro y0 (And.intro y1 (And.intro y5 y6))))); clear hk5 hi5 y0 y1 y5 y6 x0 x1 x2 x3 m0 m1 m2 m3 m4 m5 m6 m7 m8 m9 m10 m11))
        obtain ⟨hk5, hi5, y0, y1, y5, y6⟩ := H5.out
        have hb5 := hk5.blk (H4.out.blk HC.out.2.1 (noB_not _)) HC.out.2.2.2
        have hS : ∀ w', Keeps noB w5 w' → w'.cell? ⟨g5, 0, none⟩ = some (.int .i64 yc) ∧ w'.cell? ⟨g5, 1, none⟩ = some (.int .i64 5) ∧ w'.cell? ⟨g5, 5, none⟩ = some (.int .i64 15) ∧ w'.cell? ⟨g5, 6, none⟩ = some (.int .i64 0) ∧ w'.cell? ⟨bx, 0, none⟩ = some (.int .i64 yc) := fun w' hk => by
          have hg : g5 < w5.heap.size := (by
            by_cases h : g5 < w5.heap.size
            · exact h
            · have : w5.cell? ⟨g5, 0, none⟩ = none := by unfold World.cell?; rw [Array.getElem?_eq_none (Nat.le_of_not_lt h)]
              rw [this] at y0; cases y0)
          have hc : ∀ j v, w5.cell? ⟨g5, j, none⟩ = some v → w'.cell? ⟨g5, j, none⟩ = some v := fun j v h => by rw [keep_cell hk _ hg (noB_not _)]; exact h
          exact ⟨hc _ _ y0, hc _ _ y1, hc _ _ y5, hc _ _ y6, (box_cells (hk.blk hb5 (noB_not _))).1⟩
        have h73 := fun w' (hk : Keeps noB w5 w') => wants_r (hi5.no hk)
        have HS := Lib.hid hS
        have H73 := Lib.hid h73
        have hk : Keeps noB w5 w5.drew := (Keeps.refl _ _).drew
        clear hS h73 hk5 hi5 y0 y1 y5 y6 hb5
        refine wp_region_held_drew (S := fun w' => w'.cell? ⟨g5, 0, none⟩ = some (.int .i64 yc) ∧ w'.cell? ⟨g5, 1, none⟩ = some (.int .i64 5) ∧ w'.cell? ⟨g5, 5, none⟩ = some (.int .i64 15) ∧ w'.cell? ⟨g5, 6, none⟩ = some (.int .i64 0) ∧ w'.cell? ⟨bx, 0, none⟩ = some (.int .i64 yc)) (by kernel_rfl) (HS.out _ hk) (fun hHeld => ?_)
        refine heldTake (i := 0) (v := ?_) rfl (by kernel_rfl) (by kernel_rfl) (by kernel_rfl) (fun _ _ _ h => h) (Or.inl ⟨by rfl, ?_⟩) (by assumption) ?_
        rotate_left
        · (intro w hSw; (try dsimp only at hSw); go_simp) <;> with_reducible rfl
        simp only [Act.put, List.setIfInBounds_toArray, List.set_cons_zero, List.set_cons_succ]
        refine heldTake (i := 1) (v := ?_) rfl (by kernel_rfl) (by kernel_rfl) (by kernel_rfl) (fun _ _ _ h => h) (Or.inl ⟨by rfl, ?_⟩) (by assumption) ?_
        rotate_left
        · (intro w hSw; (try dsimp only at hSw); go_simp) <;> with_reducible rfl
        simp only [Act.put, List.setIfInBounds_toArray, List.set_cons_zero, List.set_cons_succ]
        refine heldTake (i := 2) (v := ?_) rfl (by kernel_rfl) (by kernel_rfl) (by kernel_rfl) (fun _ _ _ h => h) (Or.inl ⟨by rfl, ?_⟩) (by assumption) ?_
        rotate_left
        · (intro w hSw; (try dsimp only at hSw); go_simp) <;> with_reducible rfl
        simp only [Act.put, List.setIfInBounds_toArray, List.set_cons_zero, List.set_cons_succ]
        refine heldTake (i := 3) (v := ?_) rfl (by kernel_rfl) (by kernel_rfl) (by kernel_rfl) (fun _ _ _ h => h) (Or.inl ⟨by rfl, ?_⟩) (by assumption) ?_
        rotate_left
        · (intro w hSw; (try dsimp only at hSw); go_simp) <;> with_reducible rfl
        simp only [Act.put, List.setIfInBounds_toArray, List.set_cons_zero, List.set_cons_succ]
        refine heldTake (i := 4) (v := ?_) rfl (by kernel_rfl) (by kernel_rfl) (by kernel_rfl) (fun _ _ _ h => h) (Or.inl ⟨by rfl, ?_⟩) (by assumption) ?_
        rotate_left
        · (intro w hSw; (try dsimp only at hSw); go_simp) <;> with_reducible rfl
        simp only [Act.put, List.setIfInBounds_toArray, List.set_cons_zero, List.set_cons_succ]
        refine heldTake (i := 5) (v := ?_) rfl (by kernel_rfl) (by kernel_rfl) (by kernel_rfl) (fun _ _ _ h => h) (Or.inl ⟨by rfl, ?_⟩) (by assumption) ?_
        rotate_left
        · (intro w hSw; (try dsimp only at hSw); go_simp) <;> with_reducible rfl
        simp only [Act.put, List.setIfInBounds_toArray, List.set_cons_zero, List.set_cons_succ]
        refine heldTake (i := 6) (v := ?_) rfl (by kernel_rfl) (by kernel_rfl) (by kernel_rfl) (fun _ _ _ h => h) (Or.inl ⟨by rfl, ?_⟩) (by assumption) ?_
        rotate_left
        · (intro w hSw; (try dsimp only at hSw); go_simp) <;> with_reducible rfl
        simp only [Act.put, List.setIfInBounds_toArray, List.set_cons_zero, List.set_cons_succ]
        refine heldTake (i := 7) (v := ?_) rfl (by kernel_rfl) (by kernel_rfl) (by kernel_rfl) (fun _ _ _ h => h) (Or.inl ⟨by rfl, ?_⟩) (by assumption) ?_
        rotate_left
        · (intro w hSw; (try dsimp only at hSw); go_simp) <;> with_reducible rfl
        simp only [Act.put, List.setIfInBounds_toArray, List.set_cons_zero, List.set_cons_succ]
        refine heldTake (i := 8) (v := ?_) rfl (by kernel_rfl) (by kernel_rfl) (by kernel_rfl) (fun _ _ _ h => h) (Or.inl ⟨by rfl, ?_⟩) (by assumption) ?_
        rotate_left
        · (intro w hSw; (try dsimp only at hSw); go_simp) <;> with_reducible rfl
        simp only [Act.put, List.setIfInBounds_toArray, List.set_cons_zero, List.set_cons_succ]
        refine heldTake (i := 9) (v := ?_) rfl (by kernel_rfl) (by kernel_rfl) (by kernel_rfl) (fun _ _ _ h => h) (Or.inl ⟨by rfl, ?_⟩) (by assumption) ?_
        rotate_left
        · (intro w hSw; (try dsimp only at hSw); go_simp) <;> with_reducible rfl
        simp only [Act.put, List.setIfInBounds_toArray, List.set_cons_zero, List.set_cons_succ]
        refine heldTake (i := 10) (v := ?_) rfl (by kernel_rfl) (by kernel_rfl) (by kernel_rfl) (fun _ _ _ h => h) (Or.inl ⟨by rfl, ?_⟩) (by assumption) ?_
        rotate_left
        · (intro w hSw; (try dsimp only at hSw); go_simp) <;> with_reducible rfl
        simp only [Act.put, List.setIfInBounds_toArray, List.set_cons_zero, List.set_cons_succ]
        refine heldTake (i := 11) (v := ?_) rfl (by kernel_rfl) (by kernel_rfl) (by kernel_rfl) (fun _ _ _ h => h) (Or.inl ⟨by rfl, ?_⟩) (by assumption) ?_
        rotate_left
        · (intro w hSw; (try dsimp only at hSw); go_simp) <;> with_reducible rfl
        simp only [Act.put, List.setIfInBounds_toArray, List.set_cons_zero, List.set_cons_succ]
        refine heldTake (i := 12) (v := ?_) rfl (by kernel_rfl) (by kernel_rfl) (by kernel_rfl) (fun _ _ _ h => h) (Or.inl ⟨by rfl, ?_⟩) (by assumption) ?_
        rotate_left
        · (intro w hSw; (try dsimp only at hSw); go_simp) <;> with_reducible rfl
        simp only [Act.put, List.setIfInBounds_toArray, List.set_cons_zero, List.set_cons_succ]
        refine heldTake (i := 13) (v := ?_) rfl (by kernel_rfl) (by kernel_rfl) (by kernel_rfl) (fun _ _ _ h => h) (Or.inl ⟨by rfl, ?_⟩) (by assumption) ?_
        rotate_left
        · (intro w hSw; (try dsimp only at hSw); go_simp) <;> with_reducible rfl
        simp only [Act.put, List.setIfInBounds_toArray, List.set_cons_zero, List.set_cons_succ]
        refine heldTake (i := 14) (v := ?_) rfl (by kernel_rfl) (by kernel_rfl) (by kernel_rfl) (fun _ _ _ h => h) (Or.inl ⟨by rfl, ?_⟩) (by assumption) ?_
        rotate_left
        · (intro w hSw; (try dsimp only at hSw); go_simp) <;> with_reducible rfl
        simp only [Act.put, List.setIfInBounds_toArray, List.set_cons_zero, List.set_cons_succ]
        refine heldTake (i := 15) (v := ?_) rfl (by kernel_rfl) (by kernel_rfl) (by kernel_rfl) (fun _ _ _ h => h) (Or.inl ⟨by rfl, ?_⟩) (by assumption) ?_
        rotate_left
        · (intro w hSw; (try dsimp only at hSw); go_simp) <;> with_reducible rfl
        simp only [Act.put, List.setIfInBounds_toArray, List.set_cons_zero, List.set_cons_succ]
        refine heldTake (i := 16) (v := ?_) rfl (by kernel_rfl) (by kernel_rfl) (by kernel_rfl) (fun _ _ _ h => h) (Or.inl ⟨by rfl, ?_⟩) (by assumption) ?_
        rotate_left
        · (intro w hSw; (try dsimp only at hSw); go_simp) <;> with_reducible rfl
        simp only [Act.put, List.setIfInBounds_toArray, List.set_cons_zero, List.set_cons_succ]
        refine heldTake (i := 17) (v := ?_) rfl (by kernel_rfl) (by kernel_rfl) (by kernel_rfl) (fun _ _ _ h => h) (Or.inl ⟨by rfl, ?_⟩) (by assumption) ?_
        rotate_left
        · (intro w hSw; (try dsimp only at hSw); go_simp) <;> with_reducible rfl
        simp only [Act.put, List.setIfInBounds_toArray, List.set_cons_zero, List.set_cons_succ]
        refine heldTake (i := 18) (v := ?_) rfl (by kernel_rfl) (by kernel_rfl) (by kernel_rfl) (fun _ _ _ h => h) (Or.inl ⟨by rfl, ?_⟩) (by assumption) ?_
        rotate_left
        · (intro w hSw; (try dsimp only at hSw); go_simp) <;> with_reducible rfl
        simp only [Act.put, List.setIfInBounds_toArray, List.set_cons_zero, List.set_cons_succ]
        refine heldTake (i := 19) (v := ?_) rfl (by kernel_rfl) (by kernel_rfl) (by kernel_rfl) (fun _ _ _ h => h) (Or.inl ⟨by rfl, ?_⟩) (by assumption) ?_
        rotate_left
        · (intro w hSw; (try dsimp only at hSw); go_simp) <;> with_reducible rfl
        simp only [Act.put, List.setIfInBounds_toArray, List.set_cons_zero, List.set_cons_succ]
        refine heldTake (i := 20) (v := ?_) rfl (by kernel_rfl) (by kernel_rfl) (by kernel_rfl) (fun _ _ _ h => h) (Or.inl ⟨by rfl, ?_⟩) (by assumption) ?_
        rotate_left
        · (intro w hSw; (try dsimp only at hSw); go_simp) <;> with_reducible rfl
        simp only [Act.put, List.setIfInBounds_toArray, List.set_cons_zero, List.set_cons_succ]
        refine heldTake (i := 21) (v := ?_) rfl (by kernel_rfl) (by kernel_rfl) (by kernel_rfl) (fun _ _ _ h => h) (Or.inl ⟨by rfl, ?_⟩) (by assumption) ?_
        rotate_left
        · (intro w hSw; (try dsimp only at hSw); go_simp) <;> with_reducible rfl
        simp only [Act.put, List.setIfInBounds_toArray, List.set_cons_zero, List.set_cons_succ]
        refine heldTake (i := 22) (v := ?_) rfl (by kernel_rfl) (by kernel_rfl) (by kernel_rfl) (fun _ _ _ h => h) (Or.inl ⟨by rfl, ?_⟩) (by assumption) ?_
        rotate_left
        · (intro w hSw; (try dsimp only at hSw); go_simp) <;> with_reducible rfl
        simp only [Act.put, List.setIfInBounds_toArray, List.set_cons_zero, List.set_cons_succ]
        refine heldTake (i := 23) (v := ?_) rfl (by kernel_rfl) (by kernel_rfl) (by kernel_rfl) (fun _ _ _ h => h) (Or.inl ⟨by rfl, ?_⟩) (by assumption) ?_
        rotate_left
        · (intro w hSw; (try dsimp only at hSw); go_simp) <;> with_reducible rfl
        simp only [Act.put, List.setIfInBounds_toArray, List.set_cons_zero, List.set_cons_succ]
        refine heldTake (i := 24) (v := ?_) rfl (by kernel_rfl) (by kernel_rfl) (by kernel_rfl) (fun _ _ _ h => h) (Or.inl ⟨by rfl, ?_⟩) (by assumption) ?_
        rotate_left
        · (intro w hSw; (try dsimp only at hSw); go_simp) <;> with_reducible rfl
        simp only [Act.put, List.setIfInBounds_toArray, List.set_cons_zero, List.set_cons_succ]
        refine heldTake (i := 25) (v := ?_) rfl (by kernel_rfl) (by kernel_rfl) (by kernel_rfl) (fun _ _ _ h => h) (Or.inl ⟨by rfl, ?_⟩) (by assumption) ?_
        rotate_left
        · (intro w hSw; (try dsimp only at hSw); go_simp) <;> with_reducible rfl
        simp only [Act.put, List.setIfInBounds_toArray, List.set_cons_zero, List.set_cons_succ]
        refine heldTake (i := 26) (v := ?_) rfl (by kernel_rfl) (by kernel_rfl) (by kernel_rfl) (fun _ _ _ h => h) (Or.inl ⟨by rfl, ?_⟩) (by assumption) ?_
        rotate_left
        · (intro w hSw; (try dsimp only at hSw); go_simp) <;> with_reducible rfl
        simp only [Act.put, List.setIfInBounds_toArray, List.set_cons_zero, List.set_cons_succ]
        refine heldTake (i := 27) (v := ?_) rfl (by kernel_rfl) (by kernel_rfl) (by kernel_rfl) (fun _ _ _ h => h) (Or.inl ⟨by rfl, ?_⟩) (by assumption) ?_
        rotate_left
        · (intro w hSw; (try dsimp only at hSw); go_simp) <;> with_reducible rfl
        simp only [Act.put, List.setIfInBounds_toArray, List.set_cons_zero, List.set_cons_succ]
        refine heldTake (i := 28) (v := ?_) rfl (by kernel_rfl) (by kernel_rfl) (by kernel_rfl) (fun _ _ _ h => h) (Or.inl ⟨by rfl, ?_⟩) (by assumption) ?_
        rotate_left
        · (intro w hSw; (try dsimp only at hSw); go_simp) <;> with_reducible rfl
        simp only [Act.put, List.setIfInBounds_toArray, List.set_cons_zero, List.set_cons_succ]
        refine heldTake (i := 29) (v := ?_) rfl (by kernel_rfl) (by kernel_rfl) (by kernel_rfl) (fun _ _ _ h => h) (Or.inl ⟨by rfl, ?_⟩) (by assumption) ?_
        rotate_left
        · (intro w hSw; (try dsimp only at hSw); go_simp) <;> with_reducible rfl
        simp only [Act.put, List.setIfInBounds_toArray, List.set_cons_zero, List.set_cons_succ]
        refine heldTake (i := 30) (v := ?_) rfl (by kernel_rfl) (by kernel_rfl) (by kernel_rfl) (fun _ _ _ h => h) (Or.inl ⟨by rfl, ?_⟩) (by assumption) ?_
        rotate_left
        · (intro w hSw; (try dsimp only at hSw); go_simp) <;> with_reducible rfl
        simp only [Act.put, List.setIfInBounds_toArray, List.set_cons_zero, List.set_cons_succ]
        refine heldTake (i := 31) (v := ?_) rfl (by kernel_rfl) (by kernel_rfl) (by kernel_rfl) (fun _ _ _ h => h) (Or.inl ⟨by rfl, ?_⟩) (by assumption) ?_
        rotate_left
        · (intro w hSw; (try dsimp only at hSw); go_simp) <;> with_reducible rfl
        simp only [Act.put, List.setIfInBounds_toArray, List.set_cons_zero, List.set_cons_succ]
        refine heldTake (i := 32) (v := ?_) rfl (by kernel_rfl) (by kernel_rfl) (by kernel_rfl) (fun _ _ _ h => h) (Or.inl ⟨by rfl, ?_⟩) (by assumption) ?_
        rotate_left
        · (intro w hSw; (try dsimp only at hSw); go_simp) <;> with_reducible rfl
        simp only [Act.put, List.setIfInBounds_toArray, List.set_cons_zero, List.set_cons_succ]
        refine heldTake (i := 33) (v := ?_) rfl (by kernel_rfl) (by kernel_rfl) (by kernel_rfl) (fun _ _ _ h => h) (Or.inl ⟨by rfl, ?_⟩) (by assumption) ?_
        rotate_left
        · (intro w hSw; (try dsimp only at hSw); go_simp) <;> with_reducible rfl
        simp only [Act.put, List.setIfInBounds_toArray, List.set_cons_zero, List.set_cons_succ]
        refine heldTake (i := 34) (v := ?_) rfl (by kernel_rfl) (by kernel_rfl) (by kernel_rfl) (fun _ _ _ h => h) (Or.inl ⟨by rfl, ?_⟩) (by assumption) ?_
        rotate_left
        · (intro w hSw; (try dsimp only at hSw); go_simp) <;> with_reducible rfl
        simp only [Act.put, List.setIfInBounds_toArray, List.set_cons_zero, List.set_cons_succ]
        refine heldTake (i := 35) (v := ?_) rfl (by kernel_rfl) (by kernel_rfl) (by kernel_rfl) (fun _ _ _ h => h) (Or.inl ⟨by rfl, ?_⟩) (by assumption) ?_
        rotate_left
        · (intro w hSw; (try dsimp only at hSw); go_simp) <;> with_reducible rfl
        simp only [Act.put, List.setIfInBounds_toArray, List.set_cons_zero, List.set_cons_succ]
        refine heldTake (i := 36) (v := ?_) rfl (by kernel_rfl) (by kernel_rfl) (by kernel_rfl) (fun _ _ _ h => h) (Or.inl ⟨by rfl, ?_⟩) (by assumption) ?_
        rotate_left
        · (intro w hSw; (try dsimp only at hSw); go_simp) <;> with_reducible rfl
        simp only [Act.put, List.setIfInBounds_toArray, List.set_cons_zero, List.set_cons_succ]
        refine heldTake (i := 37) (v := ?_) rfl (by kernel_rfl) (by kernel_rfl) (by kernel_rfl) (fun _ _ _ h => h) (Or.inl ⟨by rfl, ?_⟩) (by assumption) ?_
        rotate_left
        · (intro w hSw; (try dsimp only at hSw); go_simp) <;> with_reducible rfl
        simp only [Act.put, List.setIfInBounds_toArray, List.set_cons_zero, List.set_cons_succ]
        refine heldOne (i := 38) (by kernel_rfl) rfl (fun K hK => ?_)
        go_simp
        go_at_call 73
        refine (H73.out _ hk).mono ?_
        rintro e w6 ⟨a6, n6, rfl, hk6⟩
        replace hk := hk.trans_no hk6
        clear hk6
        go_wp2_with fail
        refine hK.out _ _ (HS.out _ hk) (fun hHeld => ?_)
        clear hK K
        try simp only [Act.put, List.setIfInBounds_toArray, List.set_cons_zero, List.set_cons_succ]
        refine heldTake (i := 39) (v := ?_) rfl (by kernel_rfl) (by kernel_rfl) (by kernel_rfl) (fun _ _ _ h => h) (Or.inl ⟨by rfl, ?_⟩) (by assumption) ?_
        rotate_left
        · (intro w hSw; (try dsimp only at hSw); go_simp) <;> with_reducible rfl
        simp only [Act.put, List.setIfInBounds_toArray, List.set_cons_zero, List.set_cons_succ]
        refine heldTake (i := 40) (v := ?_) rfl (by kernel_rfl) (by kernel_rfl) (by kernel_rfl) (fun _ _ _ h => h) (Or.inl ⟨by rfl, ?_⟩) (by assumption) ?_
        rotate_left
        · (intro w hSw; (try dsimp only at hSw); go_simp) <;> with_reducible rfl
        simp only [Act.put, List.setIfInBounds_toArray, List.set_cons_zero, List.set_cons_succ]
        refine heldTake (i := 41) (v := ?_) rfl (by kernel_rfl) (by kernel_rfl) (by kernel_rfl) (fun _ _ _ h => h) (Or.inl ⟨by rfl, ?_⟩) (by assumption) ?_
        rotate_left
        · (intro w hSw; (try dsimp only at hSw); go_simp) <;> with_reducible rfl
        simp only [Act.put, List.setIfInBounds_toArray, List.set_cons_zero, List.set_cons_succ]
        refine wpAnyH_done (by kernel_rfl) ?_ _
        go_wp2_with fail
        exact ⟨⟨k + 1, by omega, by go_num, s5, D5, H5.out.2.1.no hk⟩, by simp [intOf]; omega⟩
      · as_aux_lemma =>
        have hkm : k = len := by omega
        subst hkm
        go_wp2_with fail
        go_ret
        exact ⟨rfl, HI.out.kp⟩
end Go.Proofs.Ytlpimkmkcfbddaa
