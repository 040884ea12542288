/- The desk: who waits for whom. Printed by mk_dku.py. No condition. -/
import Derived.Test.YtlpimkmkcfbddaaDkT
import Derived.Test.YtlpimkmkcfbddaaWaitEd
namespace Go.Proofs.Ytlpimkmkcfbddaa
open Go.RowKit

theorem row_edr {w : World} {B : Nat} {v : Value} {l : List (Int × Int)} (h : w.ownsRow B 61 2 v l.length (ecells l)) : ∃ a c, v = .slice a l.length c ∧ EdR w w.heap.size a l := by
  by_cases hv : v = .slice none 0 0
  · subst hv
    obtain ⟨h0, h⟩ := h
    rcases h with ⟨_, h1⟩ | ⟨g, c, cs, h1, _⟩
    · exact ⟨none, 0, by rw [h1], fun k hk => by omega⟩
    · cases h1
  · obtain ⟨g, c, rfl, _, _, _, hE⟩ := EdB.of_row h hv
    exact ⟨_, c, rfl, hE.edr hE.lt⟩
/-- What is appended to, since the world w4. -/
structure EoAt (w1 w4 wx : World) (v4 v : Value) (out : List (Int × Int)) : Prop where
  kp : Keeps noB w1 wx
  own : wx.ownsRow w1.heap.size 61 2 v out.length (ecells out)
  kq : Keeps (fun y => v4.ownBlock = some y) w4 wx
  fr : ∀ k, v.ownBlock = some k → v4.ownBlock = some k ∨ w4.heap.size ≤ k
theorem EoAt.start {w1 w4 : World} {v : Value} {out : List (Int × Int)} (hk : Keeps noB w1 w4) (ho : w4.ownsRow w1.heap.size 61 2 v out.length (ecells out)) : EoAt w1 w4 w4 v v out :=
  ⟨hk, ho, Keeps.refl _ _, fun _ h => .inl h⟩
theorem EoAt.no {w1 w4 wx wy : World} {v4 v : Value} {out : List (Int × Int)} (h : EoAt w1 w4 wx v4 v out) (hk : Keeps noB wx wy) : EoAt w1 w4 wy v4 v out :=
  ⟨h.kp.trans_no hk, own_keep_no h.own hk, h.kq.trans_no hk, h.fr⟩
theorem EoAt.app {w1 w4 wx : World} {v4 v : Value} {out : List (Int × Int)} (h : EoAt w1 w4 wx v4 v out) (hn : out.length ≤ 90000) (u1 u2 : Int) :
    ∃ v' w', (Builtin.append_ #[62, 62] 62 #[v, .slice (some ⟨wx.heap.size, 0, none⟩) 1 1]).run Try.prog (wx.alloc (.cells #[.int .i64 u1, .int .i64 u2] 61)) = .ok v' w' ∧ EoAt w1 w4 w' v4 v' (out ++ [(u1, u2)]) := by
  obtain ⟨i1, hi, hz0, hz1, hz2⟩ := info_parts info61
  have hA := h.no ((Keeps.refl noB wx).alloc (.cells #[.int .i64 u1, .int .i64 u2] 61))
  have hb := heap_alloc_new wx (.cells #[.int .i64 u1, .int .i64 u2] 61)
  have hsz := alloc_size wx (.cells #[.int .i64 u1, .int .i64 u2] 61)
  generalize wx.alloc (.cells #[.int .i64 u1, .int .i64 u2] 61) = wa at *
  have hs : SrcR wa (.slice (some ⟨wx.heap.size, 0, none⟩) 1 1) 61 2 1 (ecells [(u1, u2)]) :=
    .inr ⟨wx.heap.size, 0, 1, _, _, rfl, hb, rfl, fun j hj => by
      rcases (show j = 0 ∨ j = 1 by omega) with rfl | rfl <;> rfl⟩
  obtain ⟨v', w', hr, ho, hg, hf⟩ := run_append_src (w := wa) 62 62 61 i1 _ 2 16 Try.underlying62 hi hz0 hz1 hz2 rfl (by decide) hA.own hs (ecells_one _) (by omega) (by omega) hA.kp.size
  refine ⟨v', w', hr, hA.kp.grown hg (fun k hk => .inl (hA.own.lt k hk).1), ?_, hA.kq.grown hg (fun k hk => (hA.fr k hk).elim .inr .inl), fun k hk => ?_⟩
  · rw [List.length_append, List.length_singleton, ecells_append]; exact ho
  · rcases hf with e | e
    · exact hA.fr k (e.symm.trans hk)
    · rw [hk] at e
      simp at e
      exact .inr (by have := hA.kq.size; omega)
def edgA (s : Dp) (x : Wt) (L : List Int) : List (Int × Int) := (L.filter fun h => (kget (keyOf h x) s.l).getD false).map fun h => (x.c, h)
def edgB (x : Wt) (A : List Int) : List (Int × Int) := A.map fun c => (x.c, c)
theorem edgP_eq (s : Dp) (x : Wt) : edgP s x = edgA s x (s.T.holders x.c x.p x.o x.w) ++ edgB x (aheadL x s.ws) := rfl
theorem aheadL_le (x : Wt) (ws : List Wt) : (aheadL x ws).length ≤ ws.length := by
  unfold aheadL
  rw [List.length_map]
  refine Nat.le_trans (List.length_filter_le _ _) ?_
  split
  · rw [List.length_take]; omega
  · exact Nat.le_refl _
theorem edgA_le (s : Dp) (x : Wt) (L : List Int) : (edgA s x L).length ≤ L.length := by
  unfold edgA
  rw [List.length_map]
  exact List.length_filter_le _ _
theorem edgP_le (s : Dp) (x : Wt) : (edgP s x).length ≤ 4 + s.ws.length := by
  rw [edgP_eq, List.length_append]
  have h1 := edgA_le s x (s.T.holders x.c x.p x.o x.w)
  have h2 := holders_le s.T x.c x.p x.o x.w
  have h3 := aheadL_le x s.ws
  have h4 : (edgB x (aheadL x s.ws)).length = (aheadL x s.ws).length := by unfold edgB; rw [List.length_map]
  omega
theorem edgs_le (s : Dp) : ∀ l : List Wt, (l.flatMap (edgP s)).length ≤ (4 + s.ws.length) * l.length
  | [] => by simp
  | x :: t => by
    have h1 := edgP_le s x
    have h2 := edgs_le s t
    rw [List.flatMap_cons, List.length_append, List.length_cons, Nat.mul_succ]
    omega
theorem edgA_take (s : Dp) (x : Wt) {L : List Int} {j : Nat} (hj : j < L.length) : edgA s x (L.take (j + 1)) = edgA s x (L.take j) ++ (if (kget (keyOf L[j] x) s.l).getD false then [(x.c, L[j])] else []) := by
  unfold edgA
  rw [List.take_succ_eq_append_getElem hj, List.filter_append, List.map_append]
  congr 1
  by_cases h : (kget (keyOf L[j] x) s.l).getD false = true
  · rw [if_pos h, List.filter_cons_of_pos (by simpa using h)]; rfl
  · rw [if_neg h, List.filter_cons_of_neg (by simpa using h)]; rfl
theorem edgB_take (x : Wt) {A : List Int} {j : Nat} (hj : j < A.length) : edgB x (A.take (j + 1)) = edgB x (A.take j) ++ [(x.c, A[j])] := by
  unfold edgB
  rw [List.take_succ_eq_append_getElem hj, List.map_append]
  rfl
set_option maxRecDepth 100000 in
set_option maxHeartbeats 16000000 in
theorem edges_d {w : World} {D : Nat → Prop} {pd tb qp r : Nat} {s : Dp} (h : DkD w D pd tb qp r s) (hl : s.ws.length ≤ 100) :
    Calls Try.prog 76 #[.pointer (some ⟨pd, 0, none⟩)] w (fun e w' => ∃ a c, e = .returned (.slice a (edgesP s).length c) ∧ Keeps noB w w' ∧ EdR w' w'.heap.size a (edgesP s)) := by
  have hC := all_d h (by omega)
  have y1 := h.cells.2
  have HD := Lib.hid h
  obtain ⟨P, hP⟩ : ∃ P, P = edgesP s := ⟨_, rfl⟩
  rw [← hP]
  have HP := Lib.hid hP
  obtain ⟨m, hm⟩ : ∃ m, m = s.ws.length := ⟨_, rfl⟩
  rw [← hm] at hC hl
  have HM := Lib.hid hm
  clear hP h hm
  go_enter Try.func76, Try.ntmps76
  go_wp2_with (go_at_call 47; refine hC.mono ?_; rintro e w1 ⟨a1, n1, ⟨rfl, hk1⟩, hw1⟩; have HW1 := Lib.hid hw1; clear hw1)
  clear hC y1
  have hs1 := HD.out.no hk1
  have H1 := Lib.hid (And.intro hk1 hs1)
  clear hk1 hs1
  go_loopw [18, 3] (fun i v wr => ∃ k : Nat, k ≤ m ∧ i = .int .i64 k ∧ Keeps noB w1 wr ∧ wr.ownsRow w1.heap.size 61 2 v ((s.ws.take k).flatMap (edgP s)).length (ecells ((s.ws.take k).flatMap (edgP s)))) (fun i _ _ => m - (intOf i).toNat)
  case atStart => exact ⟨0, by omega, rfl, Keeps.refl _ _, rfl, .inl ⟨rfl, rfl⟩⟩
  case round =>
    obtain ⟨k, hk0, rfl, hkp, hown⟩ := hrel
    obtain ⟨base, hbase⟩ : ∃ b, b = (s.ws.take k).flatMap (edgP s) := ⟨_, rfl⟩
    rw [← hbase] at hown
    have hbl : base.length ≤ 10400 := by
      have h1 := edgs_le s (s.ws.take k)
      have h2 : (s.ws.take k).length ≤ 100 := by rw [List.length_take, ← HM.out]; omega
      have h3 : (4 + s.ws.length) * (s.ws.take k).length ≤ 104 * 100 := Nat.mul_le_mul (by rw [← HM.out]; omega) h2
      rw [hbase]; omega
    have HR := Lib.hid (And.intro hkp (And.intro hown (And.intro hbase hbl)))
    clear hkp hown hbase hbl
    by_cases hlt : k < m
    · have hlt2 : k < s.ws.length := by rw [← HM.out]; exact hlt
      have hwr := HW1.out.no HR.out.1
      obtain ⟨g, off, rfl, c0, c1, c2, c3⟩ := hwr.rd hlt2
      clear hwr
      obtain ⟨y, hy⟩ : ∃ y, y = s.ws[k] := ⟨_, rfl⟩
      rw [← hy] at c0 c1 c2 c3
      obtain ⟨L, hL⟩ : ∃ L, L = s.T.holders y.c y.p y.o y.w := ⟨_, rfl⟩
      obtain ⟨A, hA⟩ : ∃ A, A = aheadL y s.ws := ⟨_, rfl⟩
      have hL4 : L.length ≤ 4 := by rw [hL]; exact holders_le _ _ _ _ _
      have hA1 : A.length ≤ 100 := by rw [hA]; exact Nat.le_trans (aheadL_le _ _) (by rw [← HM.out]; exact hl)
      have hnext : (s.ws.take (k + 1)).flatMap (edgP s) = base ++ edgA s y L ++ edgB y A := by
        rw [List.take_succ_eq_append_getElem hlt2, List.flatMap_append, ← HR.out.2.2.1, ← hy, List.append_assoc, hL, hA, ← edgP_eq]
        simp
      clear hy
      obtain ⟨yc, yp, yo, yw⟩ := y
      simp only at c0 c1 c2 c3 hL
      obtain ⟨wB, hwB⟩ : ∃ wB, wB = wr.alloc (.cells #[.int .i64 yc, .int .i64 yp, .int .i64 yo, .bool yw] 73) := ⟨_, rfl⟩
      have hkB : Keeps noB wr wB := by rw [hwB]; exact (Keeps.refl _ _).alloc _
      have hX : wB.heap[wr.heap.size]? = some (.cells #[.int .i64 yc, .int .i64 yp, .int .i64 yo, .bool yw] 73 (0, 0)) := by rw [hwB]; exact heap_alloc_new _ _
      obtain ⟨bx, hbx⟩ : ∃ b, b = wr.heap.size := ⟨_, rfl⟩
      have hnb : ∀ k, u3.ownBlock = some k → k < bx := fun k hk => by have := (HR.out.2.1.lt k hk).2; omega
      rw [← hbx] at hX
      have hS : ∀ w', Keeps noB w1 w' → w'.heap[bx]? = some (.cells #[.int .i64 yc, .int .i64 yp, .int .i64 yo, .bool yw] 73 (0, 0)) → w'.cell? ⟨pd, 1, none⟩ = some (.pointer (some ⟨qp, 0, none⟩)) ∧ w'.cell? ⟨bx, 0, none⟩ = some (.int .i64 yc) ∧ w'.cell? ⟨bx, 1, none⟩ = some (.int .i64 yp) ∧ w'.cell? ⟨bx, 2, none⟩ = some (.int .i64 yo) ∧ w'.cell? ⟨bx, 3, none⟩ = some (.bool yw) := fun w' hk hb => ⟨(H1.out.2.no hk).cells.2, box_cells hb⟩
      obtain ⟨q, hq⟩ : ∃ q, q = L.length := ⟨_, rfl⟩
      obtain ⟨q2, hq2⟩ : ∃ q, q = A.length := ⟨_, rfl⟩
      rw [← hq] at hL4
      rw [← hq2] at hA1
      have h103 : ∀ w', Keeps noB w1 w' → Calls Try.prog 103 #[.pointer (some ⟨pd, 0, none⟩), .agg #[.int .i64 yc, .int .i64 yp, .int .i64 yo, .bool yw]] w' (fun e w2 => ∃ a c, e = .returned (.slice a q c) ∧ Keeps noB w' w2 ∧ OwnI w2 w'.heap.size (.slice a q c) L) := fun w' hk => (holders_d (H1.out.2.no hk) ⟨yc, yp, yo, yw⟩).mono (fun e w2 ⟨v, ⟨he, hk2⟩, ho⟩ => by
        rw [← hL] at ho
        obtain ⟨a, c, rfl⟩ := ho.slice
        rw [← hq] at he ho
        exact ⟨a, c, he, hk2, ho⟩)
      have h63 : ∀ w' hh, Keeps noB w1 w' → Calls Try.prog 63 #[.pointer (some ⟨qp, 0, none⟩), .int .i64 hh, .agg #[.int .i64 yc, .int .i64 yp, .int .i64 yo, .bool yw]] w' (RetK noB (.tuple #[.bool (kget (keyOf hh ⟨yc, yp, yo, yw⟩) s.l).isSome, .bool ((kget (keyOf hh ⟨yc, yp, yo, yw⟩) s.l).getD false)]) w') := fun w' hh hk => called_d (H1.out.2.no hk) hh ⟨yc, yp, yo, yw⟩
      have h53 : ∀ w', Keeps noB w1 w' → Calls Try.prog 53 #[.pointer (some ⟨qp, 0, none⟩), .agg #[.int .i64 yc, .int .i64 yp, .int .i64 yo, .bool yw]] w' (fun e w2 => ∃ a c, e = .returned (.slice a q2 c) ∧ Keeps noB w' w2 ∧ OwnI w2 w'.heap.size (.slice a q2 c) A) := fun w' hk => (ahead_d (H1.out.2.no hk) (by rw [← HM.out]; omega) ⟨yc, yp, yo, yw⟩).mono (fun e w2 ⟨v, ⟨he, hk2⟩, ho⟩ => by
        rw [← hA] at ho
        obtain ⟨a, c, rfl⟩ := ho.slice
        rw [← hq2] at he ho
        exact ⟨a, c, he, hk2, ho⟩)
      have HS := Lib.hid hS
      have H103 := Lib.hid h103
      have H63 := Lib.hid h63
      have H53 := Lib.hid h53
      have HST := Lib.hid (And.intro hnext (And.intro hq (And.intro hq2 hnb)))
      have HSB := Lib.hid (And.intro hkB hX)
      clear hS h103 h63 h53 hnext hq hq2 hL hA hX hkB hnb
      go_upto_region 5 with fail
      rw [← hwB, ← hbx]
      clear hwB hbx
      have kB := HR.out.1.trans_no HSB.out.1
      obtain ⟨q1, x0, x1, x2, x3⟩ := HS.out _ kB HSB.out.2
      go_wp2_with (go_at_call 103; (with_reducible refine (H103.out _ kB).mono ?_); rintro e w4 ⟨a4, c4, rfl, hk4, ho4⟩)
      have hb4 := hk4.blk HSB.out.2 (noB_not _)
      have hst := EoAt.start (kB.trans_no hk4) (own_keep_no HR.out.2.1 (HSB.out.1.trans_no hk4))
      have hsz4 : bx < w4.heap.size := lt_of_blk hb4
      have hszB : bx < wB.heap.size := lt_of_blk HSB.out.2
      have HO4 := Lib.hid (And.intro ho4 (And.intro hb4 (And.intro hst (And.intro hsz4 hszB))))
      clear ho4 hk4 q1 x0 x1 x2 x3 kB hb4 hst hsz4 hszB
      go_loopw [26, 3] (fun i v wx => ∃ j : Nat, j ≤ q ∧ i = .int .i64 j ∧ EoAt w1 w4 wx u3 v (base ++ edgA s ⟨yc, yp, yo, yw⟩ (L.take j))) (fun i _ _ => q - (intOf i).toNat)
      case atStart => exact ⟨0, by omega, rfl, by have := HO4.out.2.2.1; simpa [edgA] using this⟩
      case round =>
        obtain ⟨j, hj0, rfl, hE⟩ := hrel
        have HE := Lib.hid hE
        clear hE
        by_cases hjt : j < q
        · as_aux_lemma =>
          have hjL : j < L.length := by rw [← HST.out.2.1]; exact hjt
          obtain ⟨g4, rfl, _, _, z0⟩ := (OwnI.keep HO4.out.1 HE.out.kq (fun k hk e => by have := HST.out.2.2.2 k e; have := HO4.out.2.2.2.2; omega)).cell hjL
          obtain ⟨hh, hhe⟩ : ∃ hh, hh = L.getD j 0 := ⟨_, rfl⟩
          rw [← hhe] at z0
          have hts := edgA_take s ⟨yc, yp, yo, yw⟩ hjL
          rw [show L[j] = hh by rw [hhe, List.getD_eq_getElem?_getD, List.getElem?_eq_getElem hjL]; rfl] at hts
          clear hhe
          have hb := HE.out.kq.blk HO4.out.2.1 (fun e => by have := HST.out.2.2.2 _ e; omega)
          have hln : (base ++ edgA s ⟨yc, yp, yo, yw⟩ (L.take j)).length ≤ 90000 := by
            have := edgA_le s ⟨yc, yp, yo, yw⟩ (L.take j)
            have := HR.out.2.2.2
            rw [List.length_append]
            rw [List.length_take] at *
            omega
          have hSJ : ∀ w', Keeps noB wr w' → w'.cell? ⟨pd, 1, none⟩ = some (.pointer (some ⟨qp, 0, none⟩)) ∧ w'.cell? ⟨bx, 0, none⟩ = some (.int .i64 yc) ∧ w'.cell? ⟨bx, 1, none⟩ = some (.int .i64 yp) ∧ w'.cell? ⟨bx, 2, none⟩ = some (.int .i64 yo) ∧ w'.cell? ⟨bx, 3, none⟩ = some (.bool yw) := fun w' hk => HS.out w' (HE.out.kp.trans_no hk) (hk.blk hb (noB_not _))
          have h63 := fun w' (hk : Keeps noB wr w') => H63.out w' hh (HE.out.kp.trans_no hk)
          have HSJ := Lib.hid hSJ
          clear hSJ hb
          cases hbz : (kget (keyOf hh ⟨yc, yp, yo, yw⟩) s.l).getD false
          · rw [hbz] at hts h63
            have HTS := Lib.hid (And.intro hts hln)
            have H63 := Lib.hid h63
            clear hts hln h63 hbz
            go_upto_region 8 with fail
            have hk := (Keeps.refl noB wr).drew
            refine wp_region_held_drew (S := fun w' => w'.cell? ⟨pd, 1, none⟩ = some (.pointer (some ⟨qp, 0, none⟩)) ∧ w'.cell? ⟨bx, 0, none⟩ = some (.int .i64 yc) ∧ w'.cell? ⟨bx, 1, none⟩ = some (.int .i64 yp) ∧ w'.cell? ⟨bx, 2, none⟩ = some (.int .i64 yo) ∧ w'.cell? ⟨bx, 3, none⟩ = some (.bool yw)) (by kernel_rfl) (HSJ.out _ hk) (fun hHeld => ?_)
            refine heldTake (i := 0) (v := ?_) rfl (by kernel_rfl) (by kernel_rfl) (by kernel_rfl) (fun _ _ _ h => h) (Or.inl ⟨by rfl, ?_⟩) (by assumption) ?_
            rotate_left
            · (intro w hSw; (try dsimp only at hSw); go_simp) <;> with_reducible rfl
            simp only [Act.put, List.setIfInBounds_toArray, List.set_cons_zero, List.set_cons_succ]
            refine heldTake (i := 1) (v := ?_) rfl (by kernel_rfl) (by kernel_rfl) (by kernel_rfl) (fun _ _ _ h => h) (Or.inl ⟨by rfl, ?_⟩) (by assumption) ?_
            rotate_left
            · (intro w hSw; (try dsimp only at hSw); go_simp) <;> with_reducible rfl
            simp only [Act.put, List.setIfInBounds_toArray, List.set_cons_zero, List.set_cons_succ]
            refine heldTake (i := 2) (v := ?_) rfl (by kernel_rfl) (by kernel_rfl) (by kernel_rfl) (fun _ _ _ h => h) (Or.inl ⟨by rfl, ?_⟩) (by assumption) ?_
            rotate_left
            · (intro w hSw; (try dsimp only at hSw); go_simp) <;> with_reducible rfl
            simp only [Act.put, List.setIfInBounds_toArray, List.set_cons_zero, List.set_cons_succ]
            refine heldTake (i := 3) (v := ?_) rfl (by kernel_rfl) (by kernel_rfl) (by kernel_rfl) (fun _ _ _ h => h) (Or.inl ⟨by rfl, ?_⟩) (by assumption) ?_
            rotate_left
            · (intro w hSw; (try dsimp only at hSw); go_simp) <;> with_reducible rfl
            simp only [Act.put, List.setIfInBounds_toArray, List.set_cons_zero, List.set_cons_succ]
            refine heldTake (i := 4) (v := ?_) rfl (by kernel_rfl) (by kernel_rfl) (by kernel_rfl) (fun _ _ _ h => h) (Or.inl ⟨by rfl, ?_⟩) (by assumption) ?_
            rotate_left
            · (intro w hSw; (try dsimp only at hSw); go_simp) <;> with_reducible rfl
            simp only [Act.put, List.setIfInBounds_toArray, List.set_cons_zero, List.set_cons_succ]
            refine heldTake (i := 5) (v := ?_) rfl (by kernel_rfl) (by kernel_rfl) (by kernel_rfl) (fun _ _ _ h => h) (Or.inl ⟨by rfl, ?_⟩) (by assumption) ?_
            rotate_left
            · (intro w hSw; (try dsimp only at hSw); go_simp) <;> with_reducible rfl
            simp only [Act.put, List.setIfInBounds_toArray, List.set_cons_zero, List.set_cons_succ]
            refine heldOne (i := 6) (by kernel_rfl) rfl (fun K hK => ?_)
            go_simp
            go_at_call 63
            refine (H63.out _ hk).mono ?_
            rintro e w5 ⟨rfl, hk5⟩
            replace hk := hk.trans_no hk5
            clear hk5
            go_wp2_with fail
            refine hK.out _ _ (HSJ.out _ hk) (fun hHeld => ?_)
            clear hK K
            try simp only [Act.put, List.setIfInBounds_toArray, List.set_cons_zero, List.set_cons_succ]
            refine heldTake (i := 7) (v := ?_) rfl (by kernel_rfl) (by kernel_rfl) (by kernel_rfl) (fun _ _ _ h => h) (Or.inl ⟨by rfl, ?_⟩) (by assumption) ?_
            rotate_left
            · (intro w hSw; (try dsimp only at hSw); go_simp) <;> with_reducible rfl
            simp only [Act.put, List.setIfInBounds_toArray, List.set_cons_zero, List.set_cons_succ]
            refine heldTake (i := 8) (v := ?_) rfl (by kernel_rfl) (by kernel_rfl) (by kernel_rfl) (fun _ _ _ h => h) (Or.inl ⟨by rfl, ?_⟩) (by assumption) ?_
            rotate_left
            · (intro w hSw; (try dsimp only at hSw); go_simp) <;> with_reducible rfl
            simp only [Act.put, List.setIfInBounds_toArray, List.set_cons_zero, List.set_cons_succ]
            refine heldTake (i := 9) (v := ?_) rfl (by kernel_rfl) (by kernel_rfl) (by kernel_rfl) (fun _ _ _ h => h) (Or.inl ⟨by rfl, ?_⟩) (by assumption) ?_
            rotate_left
            · (intro w hSw; (try dsimp only at hSw); go_simp) <;> with_reducible rfl
            simp only [Act.put, List.setIfInBounds_toArray, List.set_cons_zero, List.set_cons_succ]
            refine heldTake (i := 10) (v := ?_) rfl (by kernel_rfl) (by kernel_rfl) (by kernel_rfl) (fun _ _ _ h => h) (Or.inl ⟨by rfl, ?_⟩) (by assumption) ?_
            rotate_left
            · (intro w hSw; (try dsimp only at hSw); go_simp) <;> with_reducible rfl
            simp only [Act.put, List.setIfInBounds_toArray, List.set_cons_zero, List.set_cons_succ]
            refine heldTake (i := 11) (v := ?_) rfl (by kernel_rfl) (by kernel_rfl) (by kernel_rfl) (fun _ _ _ h => h) (Or.inl ⟨by rfl, ?_⟩) (by assumption) ?_
            rotate_left
            · (intro w hSw; (try dsimp only at hSw); go_simp) <;> with_reducible rfl
            simp only [Act.put, List.setIfInBounds_toArray, List.set_cons_zero, List.set_cons_succ]
            refine wpAnyH_done (by kernel_rfl) ?_ _
            go_wp2_with fail
            exact ⟨⟨j + 1, by omega, by go_num, by rw [HTS.out.1, if_neg (by simp), List.append_nil]; exact HE.out.no hk⟩, by simp [intOf]; omega⟩
          · rw [hbz] at hts h63
            have HTS := Lib.hid (And.intro hts hln)
            have H63 := Lib.hid h63
            clear hts hln h63 hbz
            go_upto_region 8 with fail
            have hk := (Keeps.refl noB wr).drew
            refine wp_region_held_drew (S := fun w' => w'.cell? ⟨pd, 1, none⟩ = some (.pointer (some ⟨qp, 0, none⟩)) ∧ w'.cell? ⟨bx, 0, none⟩ = some (.int .i64 yc) ∧ w'.cell? ⟨bx, 1, none⟩ = some (.int .i64 yp) ∧ w'.cell? ⟨bx, 2, none⟩ = some (.int .i64 yo) ∧ w'.cell? ⟨bx, 3, none⟩ = some (.bool yw)) (by kernel_rfl) (HSJ.out _ hk) (fun hHeld => ?_)
            refine heldTake (i := 0) (v := ?_) rfl (by kernel_rfl) (by kernel_rfl) (by kernel_rfl) (fun _ _ _ h => h) (Or.inl ⟨by rfl, ?_⟩) (by assumption) ?_
            rotate_left
            · (intro w hSw; (try dsimp only at hSw); go_simp) <;> with_reducible rfl
            simp only [Act.put, List.setIfInBounds_toArray, List.set_cons_zero, List.set_cons_succ]
            refine heldTake (i := 1) (v := ?_) rfl (by kernel_rfl) (by kernel_rfl) (by kernel_rfl) (fun _ _ _ h => h) (Or.inl ⟨by rfl, ?_⟩) (by assumption) ?_
            rotate_left
            · (intro w hSw; (try dsimp only at hSw); go_simp) <;> with_reducible rfl
            simp only [Act.put, List.setIfInBounds_toArray, List.set_cons_zero, List.set_cons_succ]
            refine heldTake (i := 2) (v := ?_) rfl (by kernel_rfl) (by kernel_rfl) (by kernel_rfl) (fun _ _ _ h => h) (Or.inl ⟨by rfl, ?_⟩) (by assumption) ?_
            rotate_left
            · (intro w hSw; (try dsimp only at hSw); go_simp) <;> with_reducible rfl
            simp only [Act.put, List.setIfInBounds_toArray, List.set_cons_zero, List.set_cons_succ]
            refine heldTake (i := 3) (v := ?_) rfl (by kernel_rfl) (by kernel_rfl) (by kernel_rfl) (fun _ _ _ h => h) (Or.inl ⟨by rfl, ?_⟩) (by assumption) ?_
            rotate_left
            · (intro w hSw; (try dsimp only at hSw); go_simp) <;> with_reducible rfl
            simp only [Act.put, List.setIfInBounds_toArray, List.set_cons_zero, List.set_cons_succ]
            refine heldTake (i := 4) (v := ?_) rfl (by kernel_rfl) (by kernel_rfl) (by kernel_rfl) (fun _ _ _ h => h) (Or.inl ⟨by rfl, ?_⟩) (by assumption) ?_
            rotate_left
            · (intro w hSw; (try dsimp only at hSw); go_simp) <;> with_reducible rfl
            simp only [Act.put, List.setIfInBounds_toArray, List.set_cons_zero, List.set_cons_succ]
            refine heldTake (i := 5) (v := ?_) rfl (by kernel_rfl) (by kernel_rfl) (by kernel_rfl) (fun _ _ _ h => h) (Or.inl ⟨by rfl, ?_⟩) (by assumption) ?_
            rotate_left
            · (intro w hSw; (try dsimp only at hSw); go_simp) <;> with_reducible rfl
            simp only [Act.put, List.setIfInBounds_toArray, List.set_cons_zero, List.set_cons_succ]
            refine heldOne (i := 6) (by kernel_rfl) rfl (fun K hK => ?_)
            go_simp
            go_at_call 63
            refine (H63.out _ hk).mono ?_
            rintro e w5 ⟨rfl, hk5⟩
            replace hk := hk.trans_no hk5
            clear hk5
            go_wp2_with fail
            refine hK.out _ _ (HSJ.out _ hk) (fun hHeld => ?_)
            clear hK K
            try simp only [Act.put, List.setIfInBounds_toArray, List.set_cons_zero, List.set_cons_succ]
            refine heldTake (i := 7) (v := ?_) rfl (by kernel_rfl) (by kernel_rfl) (by kernel_rfl) (fun _ _ _ h => h) (Or.inl ⟨by rfl, ?_⟩) (by assumption) ?_
            rotate_left
            · (intro w hSw; (try dsimp only at hSw); go_simp) <;> with_reducible rfl
            simp only [Act.put, List.setIfInBounds_toArray, List.set_cons_zero, List.set_cons_succ]
            refine heldTake (i := 8) (v := ?_) rfl (by kernel_rfl) (by kernel_rfl) (by kernel_rfl) (fun _ _ _ h => h) (Or.inl ⟨by rfl, ?_⟩) (by assumption) ?_
            rotate_left
            · (intro w hSw; (try dsimp only at hSw); go_simp) <;> with_reducible rfl
            simp only [Act.put, List.setIfInBounds_toArray, List.set_cons_zero, List.set_cons_succ]
            refine heldTake (i := 9) (v := ?_) rfl (by kernel_rfl) (by kernel_rfl) (by kernel_rfl) (fun _ _ _ h => h) (Or.inl ⟨by rfl, ?_⟩) (by assumption) ?_
            rotate_left
            · (intro w hSw; (try dsimp only at hSw); go_simp) <;> with_reducible rfl
            simp only [Act.put, List.setIfInBounds_toArray, List.set_cons_zero, List.set_cons_succ]
            refine heldTake (i := 10) (v := ?_) rfl (by kernel_rfl) (by kernel_rfl) (by kernel_rfl) (fun _ _ _ h => h) (Or.inl ⟨by rfl, ?_⟩) (by assumption) ?_
            rotate_left
            · (intro w hSw; (try dsimp only at hSw); go_simp) <;> with_reducible rfl
            simp only [Act.put, List.setIfInBounds_toArray, List.set_cons_zero, List.set_cons_succ]
            refine heldTake (i := 11) (v := ?_) rfl (by kernel_rfl) (by kernel_rfl) (by kernel_rfl) (fun _ _ _ h => h) (Or.inl ⟨by rfl, ?_⟩) (by assumption) ?_
            rotate_left
            · (intro w hSw; (try dsimp only at hSw); go_simp) <;> with_reducible rfl
            simp only [Act.put, List.setIfInBounds_toArray, List.set_cons_zero, List.set_cons_succ]
            refine wpAnyH_done (by kernel_rfl) ?_ _
            obtain ⟨q1, x0, x1, x2, x3⟩ := HSJ.out _ hk
            obtain ⟨v6, w6, hr6, hE6⟩ := (HE.out.no hk).app HTS.out.2 yc hh
            have HR6 := Lib.hid hr6
            have HE6 := Lib.hid hE6
            clear hr6 hE6
            go_wp2_with (at_builtin; refine wpList_append_run rfl _ _ 62 62 rfl rfl _ _ rfl rfl _ _ HR6.out ?_)
            go_wp2_with fail
            exact ⟨⟨j + 1, by omega, by go_num, by rw [HTS.out.1, if_pos (by simp), ← List.append_assoc]; exact HE6.out⟩, by simp [intOf]; omega⟩
        · as_aux_lemma =>
          have hjq : j = q := by omega
          subst hjq
          obtain ⟨base2, hb2⟩ : ∃ b, b = base ++ edgA s ⟨yc, yp, yo, yw⟩ L := ⟨_, rfl⟩
          have hE2 := HE.out
          rw [List.take_of_length_le (by rw [HST.out.2.1]; exact Nat.le_refl _), ← hb2] at hE2
          have hbl2 : base2.length ≤ 10404 := by
            have h1 := edgA_le s ⟨yc, yp, yo, yw⟩ L
            have h2 := HR.out.2.2.2
            have h3 := HST.out.2.1
            rw [hb2, List.length_append]
            omega
          have hn2 := HST.out.1
          rw [← hb2] at hn2
          have HST2 := Lib.hid (And.intro hn2 (And.intro hbl2 HST.out.2.2.1))
          have hb := HE.out.kq.blk HO4.out.2.1 (fun e => by have := HST.out.2.2.2 _ e; omega)
          have hSJ : ∀ w', Keeps noB wr w' → w'.cell? ⟨pd, 1, none⟩ = some (.pointer (some ⟨qp, 0, none⟩)) ∧ w'.cell? ⟨bx, 0, none⟩ = some (.int .i64 yc) ∧ w'.cell? ⟨bx, 1, none⟩ = some (.int .i64 yp) ∧ w'.cell? ⟨bx, 2, none⟩ = some (.int .i64 yo) ∧ w'.cell? ⟨bx, 3, none⟩ = some (.bool yw) := fun w' hk => HS.out w' (HE.out.kp.trans_no hk) (hk.blk hb (noB_not _))
          have h53 := fun w' (hk : Keeps noB wr w') => H53.out w' (HE.out.kp.trans_no hk)
          have hnb2 : ∀ k, u3.ownBlock = some k → k ≠ bx ∧ k < wr.heap.size := fun k hk => ⟨fun e => by
            subst e
            rcases HE.out.fr k hk with h | h
            · have := HST.out.2.2.2 k h; omega
            · have := HO4.out.2.2.2.1; omega, (HE.out.own.lt k hk).2⟩
          have HSJ := Lib.hid hSJ
          have H53 := Lib.hid h53
          have HE2 := Lib.hid (And.intro hE2 (And.intro hb hnb2))
          have hk := (Keeps.refl noB wr).drew
          clear hb2 hE2 hbl2 hn2 hb hSJ h53 hnb2
          go_upto_region 12 with fail
          refine wp_region_held_drew (S := fun w' => w'.cell? ⟨pd, 1, none⟩ = some (.pointer (some ⟨qp, 0, none⟩)) ∧ w'.cell? ⟨bx, 0, none⟩ = some (.int .i64 yc) ∧ w'.cell? ⟨bx, 1, none⟩ = some (.int .i64 yp) ∧ w'.cell? ⟨bx, 2, none⟩ = some (.int .i64 yo) ∧ w'.cell? ⟨bx, 3, none⟩ = some (.bool yw)) (by kernel_rfl) (HSJ.out _ hk) (fun hHeld => ?_)
          refine heldTake (i := 0) (v := ?_) rfl (by kernel_rfl) (by kernel_rfl) (by kernel_rfl) (fun _ _ _ h => h) (Or.inl ⟨by rfl, ?_⟩) (by assumption) ?_
          rotate_left
          · (intro w hSw; (try dsimp only at hSw); go_simp) <;> with_reducible rfl
          simp only [Act.put, List.setIfInBounds_toArray, List.set_cons_zero, List.set_cons_succ]
          refine heldTake (i := 1) (v := ?_) rfl (by kernel_rfl) (by kernel_rfl) (by kernel_rfl) (fun _ _ _ h => h) (Or.inl ⟨by rfl, ?_⟩) (by assumption) ?_
          rotate_left
          · (intro w hSw; (try dsimp only at hSw); go_simp) <;> with_reducible rfl
          simp only [Act.put, List.setIfInBounds_toArray, List.set_cons_zero, List.set_cons_succ]
          refine heldTake (i := 2) (v := ?_) rfl (by kernel_rfl) (by kernel_rfl) (by kernel_rfl) (fun _ _ _ h => h) (Or.inl ⟨by rfl, ?_⟩) (by assumption) ?_
          rotate_left
          · (intro w hSw; (try dsimp only at hSw); go_simp) <;> with_reducible rfl
          simp only [Act.put, List.setIfInBounds_toArray, List.set_cons_zero, List.set_cons_succ]
          refine heldTake (i := 3) (v := ?_) rfl (by kernel_rfl) (by kernel_rfl) (by kernel_rfl) (fun _ _ _ h => h) (Or.inl ⟨by rfl, ?_⟩) (by assumption) ?_
          rotate_left
          · (intro w hSw; (try dsimp only at hSw); go_simp) <;> with_reducible rfl
          simp only [Act.put, List.setIfInBounds_toArray, List.set_cons_zero, List.set_cons_succ]
          refine heldTake (i := 4) (v := ?_) rfl (by kernel_rfl) (by kernel_rfl) (by kernel_rfl) (fun _ _ _ h => h) (Or.inl ⟨by rfl, ?_⟩) (by assumption) ?_
          rotate_left
          · (intro w hSw; (try dsimp only at hSw); go_simp) <;> with_reducible rfl
          simp only [Act.put, List.setIfInBounds_toArray, List.set_cons_zero, List.set_cons_succ]
          refine heldTake (i := 7) (v := ?_) rfl (by kernel_rfl) (by kernel_rfl) (by kernel_rfl) (fun _ _ _ h => h) (Or.inl ⟨by rfl, ?_⟩) (by assumption) ?_
          rotate_left
          · (intro w hSw; (try dsimp only at hSw); go_simp) <;> with_reducible rfl
          simp only [Act.put, List.setIfInBounds_toArray, List.set_cons_zero, List.set_cons_succ]
          refine heldOne (i := 5) (by kernel_rfl) rfl (fun K hK => ?_)
          go_simp
          go_at_call 53
          refine (H53.out _ hk).mono ?_
          rintro e w7 ⟨a7, c7, rfl, hk7, ho7⟩
          replace hk := hk.trans_no hk7
          replace ho7 := own_lower (B' := wr.heap.size) ho7 (Nat.le_refl _)
          replace hk7 := hk
          go_wp2_with fail
          refine hK.out _ _ (HSJ.out _ hk) (fun hHeld => ?_)
          clear hK K
          try simp only [Act.put, List.setIfInBounds_toArray, List.set_cons_zero, List.set_cons_succ]
          refine heldTake (i := 6) (v := ?_) rfl (by kernel_rfl) (by kernel_rfl) (by kernel_rfl) (fun _ _ _ h => h) (Or.inl ⟨by rfl, ?_⟩) (by assumption) ?_
          rotate_left
          · (intro w hSw; (try dsimp only at hSw); go_simp) <;> with_reducible rfl
          simp only [Act.put, List.setIfInBounds_toArray, List.set_cons_zero, List.set_cons_succ]
          refine wpAnyH_done (by kernel_rfl) ?_ _
          go_wp2_with fail
          have hb7 := hk7.blk HE2.out.2.1 (noB_not _)
          have hst := EoAt.start (HE2.out.1.kp.trans_no hk7) (own_keep_no HE2.out.1.own hk7)
          have HO7 := Lib.hid (And.intro ho7 (And.intro hb7 hst))
          clear hk7 ho7 hb7 hst hk
          go_loopw [56, 3] (fun i v wx => ∃ j : Nat, j ≤ q2 ∧ i = .int .i64 j ∧ EoAt w1 w7 wx u3 v (base2 ++ edgB ⟨yc, yp, yo, yw⟩ (A.take j))) (fun i _ _ => q2 - (intOf i).toNat)
          case atStart => exact ⟨0, by omega, rfl, by have := HO7.out.2.2; simpa [edgB] using this⟩
          case round =>
            obtain ⟨j2, hj2, rfl, hF⟩ := hrel
            have HF := Lib.hid hF
            clear hF
            by_cases hjt : j2 < q2
            · as_aux_lemma =>
              have hjA : j2 < A.length := by rw [← HST2.out.2.2]; exact hjt
              obtain ⟨g7, rfl, _, _, z0⟩ := (OwnI.keep HO7.out.1 HF.out.kq (fun k hk e => by have := (HE2.out.2.2 k e).2; omega)).cell hjA
              obtain ⟨hh, hhe⟩ : ∃ hh, hh = A.getD j2 0 := ⟨_, rfl⟩
              rw [← hhe] at z0
              have hts := edgB_take ⟨yc, yp, yo, yw⟩ hjA
              rw [show A[j2] = hh by rw [hhe, List.getD_eq_getElem?_getD, List.getElem?_eq_getElem hjA]; rfl] at hts
              clear hhe
              have hb := HF.out.kq.blk HO7.out.2.1 (fun e => (HE2.out.2.2 _ e).1 rfl)
              have hln : (base2 ++ edgB ⟨yc, yp, yo, yw⟩ (A.take j2)).length ≤ 90000 := by
                have := HST2.out.2.1
                unfold edgB
                rw [List.length_append, List.length_map, List.length_take]
                omega
              obtain ⟨q1, x0, x1, x2, x3⟩ := HS.out wr HF.out.kp hb
              obtain ⟨v6, w6, hr6, hE6⟩ := HF.out.app hln yc hh
              have HR6 := Lib.hid hr6
              have HE6 := Lib.hid (And.intro hE6 hts)
              clear hr6 hE6 hts hln hb
              go_wp2_with (at_builtin; refine wpList_append_run rfl _ _ 62 62 rfl rfl _ _ rfl rfl _ _ HR6.out ?_)
              go_wp2_with fail
              exact ⟨⟨j2 + 1, by omega, by go_num, by rw [HE6.out.2, ← List.append_assoc]; exact HE6.out.1⟩, by simp [intOf]; omega⟩
            · as_aux_lemma =>
              have hjq : j2 = q2 := by omega
              subst hjq
              have hF2 := HF.out
              rw [List.take_of_length_le (by rw [HST2.out.2.2]; exact Nat.le_refl _), ← HST2.out.1] at hF2
              have HF2 := Lib.hid hF2
              clear hF2
              go_wp2_with fail
              exact ⟨⟨k + 1, by omega, by go_num, HF2.out.kp, HF2.out.own⟩, by simp [intOf]; omega⟩
    · have hkm : k = m := by omega
      subst hkm
      go_wp2_with fail
      go_ret
      have e : (s.ws.take k).flatMap (edgP s) = P := by
        rw [HP.out, List.take_of_length_le (by rw [HM.out]; exact Nat.le_refl _)]
        rfl
      obtain ⟨a, c, rfl, he⟩ := row_edr HR.out.2.1
      rw [HR.out.2.2.1, e] at he ⊢
      exact ⟨a, c, rfl, H1.out.1.trans_no HR.out.1, he⟩
end Go.Proofs.Ytlpimkmkcfbddaa
