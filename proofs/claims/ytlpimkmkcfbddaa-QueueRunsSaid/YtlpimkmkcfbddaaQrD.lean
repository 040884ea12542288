/- The document's queue: who is called, is busy, gave way. Printed by mk_qrd.py. No condition. -/
import Derived.Test.YtlpimkmkcfbddaaQrC
namespace Go.Proofs.Ytlpimkmkcfbddaa
open Go.RowKit

theorem own_calls0 (w : World) : (w.alloc (.cells #[] 146)).ownsRow w.heap.size 146 5 (.slice (some ⟨w.heap.size, 0, none⟩) 0 0) 0 [] :=
  ⟨rfl, .inr ⟨w.heap.size, 0, #[], rfl, Nat.le_refl _, heap_alloc_new _ _, Nat.le_refl _, Nat.zero_le _, rfl, rfl⟩⟩
theorem src_lit5 {w : World} {g : Nat} {e : Kc × Bool} (h : w.heap[g]? = some (.cells #[.int .i64 e.1.h, .int .i64 e.1.p, .int .i64 e.1.o, .bool e.1.w, .bool e.2] 146 (0, 0))) : SrcR w (.slice (some ⟨g, 0, none⟩) 1 1) 146 5 1 (cl5 e) :=
  .inr ⟨g, 0, 1, _, _, rfl, h, rfl, fun j hj => by rw [Nat.zero_add]; show ([.int .i64 e.1.h, .int .i64 e.1.p, .int .i64 e.1.o, .bool e.1.w, .bool e.2] : List Value).toArray[j]? = _; rw [List.getElem?_toArray]; rfl⟩
theorem cl5_one (e : Kc × Bool) : ∀ u ∈ cl5 e, u.oneCell' = true := by
  intro u hu
  simp [cl5] at hu
  rcases hu with rfl | rfl | rfl | rfl | rfl <;> rfl
theorem rightB_h (h p o : Int) (b : Bool) : rightB ⟨h, p, o, b⟩ = (decide (0 ≤ h ∧ h < 4) && rightB ⟨0, p, o, b⟩) := by
  unfold rightB
  rw [Bool.eq_iff_iff]
  simp
  omega
set_option maxRecDepth 100000 in
set_option maxHeartbeats 8000000 in
theorem calls_q {w : World} {va vb : Value} {ws : List Wt} {l : List (Kc × Bool)} (h : RQ w va vb ws l) (hl : l.length ≤ 1000) (hh : Int) (x : Wt) : Calls Try.prog 57 #[.agg #[va, vb], .int .i64 hh, .agg #[.int .i64 x.c, .int .i64 x.p, .int .i64 x.o, .bool x.w]] w
    fun e w' => ∃ vb', RetK noB (.tuple #[.agg #[va, vb'], .bool (callOk hh x l)]) w e w' ∧ RQ w' va vb' ws (if callOk hh x l then kput (keyOf hh x) false l else l) ∧ Fr w vb vb' := by
  obtain ⟨xc, xp, xo, xw⟩ := x
  obtain ⟨a, n, b, d, rfl, rfl⟩ := h.slices
  obtain ⟨hk0, hs0, hb0, hb1, hb2⟩ := three_alloc w (.cells #[.slice a ws.length n, .slice b l.length d] 85) (.cells #[.int .i64 xc, .int .i64 xp, .int .i64 xo, .bool xw] 73) (.cells #[.slice none 0 0, .slice none 0 0] 85)
  obtain ⟨wZ, hwZ⟩ : ∃ w0, w0 = ((w.alloc (.cells #[.slice a ws.length n, .slice b l.length d] 85)).alloc (.cells #[.int .i64 xc, .int .i64 xp, .int .i64 xo, .bool xw] 73)).alloc (.cells #[.slice none 0 0, .slice none 0 0] 85) := ⟨_, rfl⟩
  rw [← hwZ] at hk0 hs0 hb0 hb1 hb2
  have kS : Keeps (oneB (w.heap.size + 1)) wZ (wZ.setCell ⟨w.heap.size + 1, 0, none⟩ (.int .i64 hh)) := (Keeps.refl _ _).set1 _ _
  have b0 := kS.blk hb0 (fun e => by unfold oneB at e; omega)
  have b1 : (wZ.setCell ⟨w.heap.size + 1, 0, none⟩ (.int .i64 hh)).heap[w.heap.size + 1]? = some (.cells #[.int .i64 hh, .int .i64 xp, .int .i64 xo, .bool xw] 73 (0, 0)) := heap_setCell_same _ _ _ _ hb1
  have b2 := kS.blk hb2 (fun e => by unfold oneB at e; omega)
  have hsS : (wZ.setCell ⟨w.heap.size + 1, 0, none⟩ (.int .i64 hh)).heap.size = w.heap.size + 3 := by rw [setCell_size]; exact hs0
  have hkS : Keeps noB w (wZ.setCell ⟨w.heap.size + 1, 0, none⟩ (.int .i64 hh)) := hk0.trans kS (fun y hy e => by unfold oneB at e; omega)
  have m0 := blk_cell hb1 (i := 0) rfl
  have n0 := blk_free hb1 0
  obtain ⟨w0, hw0⟩ : ∃ w0, w0 = wZ.setCell ⟨w.heap.size + 1, 0, none⟩ (.int .i64 hh) := ⟨_, rfl⟩
  rw [← hw0] at b0 b1 b2 hsS hkS
  have hR := fun wd => right_q ⟨hh, xp, xo, xw⟩ wd
  have hco : callOk hh ⟨xc, xp, xo, xw⟩ l = (!(kget ⟨hh, xp, xo, xw⟩ l).isSome && rightB ⟨hh, xp, xo, xw⟩) := by rw [rightB_h]; rfl
  have h0 := h.no hkS
  have hFn := fun wd (hk : Keeps noB w0 wd) => find_q (h0.no hk) hl hh xp xo xw
  have hbd := kidx_lt (key := ⟨hh, xp, xo, xw⟩) (l := l)
  simp only at hR
  simp only [keyOf]
  generalize callOk hh ⟨xc, xp, xo, xw⟩ l = co at *
  generalize rightB ⟨hh, xp, xo, xw⟩ = br at *
  have HR := Lib.hid hR
  have H := Lib.hid (And.intro h0 (And.intro hkS (And.intro b0 (And.intro b1 (And.intro b2 hsS)))))
  clear hR h h0 hk0 hb0 hb1 hb2 hs0 kS b0 b1 b2 hsS hkS
  cases br
  · have hc : co = false := by rw [hco]; simp
    subst hc
    simp only [Bool.false_eq_true, if_false]
    clear hFn hbd hco
    go_enter Try.func57, Try.ntmps57
    go_upto_region 1 with fail
    rw [← hwZ]
    clear hwZ
    go_upto_region 2 with fail
    rw [← hw0]
    clear hw0 m0 n0
    have y0 := blk_cell H.out.2.2.2.1 (i := 0) rfl
    have y1 := blk_cell H.out.2.2.2.1 (i := 1) rfl
    have y2 := blk_cell H.out.2.2.2.1 (i := 2) rfl
    have y3 := blk_cell H.out.2.2.2.1 (i := 3) rfl
    go_wp2_with (first
      | (go_at_call 95; ((with_reducible refine (HR.out _).mono ?_); rintro e w1 ⟨rfl, hk1⟩; clear y0 y1 y2 y3; have hq1 := (hk1).blk H.out.2.2.1 (noB_not _); have z0 := blk_cell hq1 (i := 0) rfl; have z1 := blk_cell hq1 (i := 1) rfl; have hx1 := (hk1).blk H.out.2.2.2.1 (noB_not _); have y0 := blk_cell hx1 (i := 0) rfl; have y1 := blk_cell hx1 (i := 1) rfl; have y2 := blk_cell hx1 (i := 2) rfl; have y3 := blk_cell hx1 (i := 3) rfl; have hr1 := (hk1).blk H.out.2.2.2.2.1 (noB_not _); have r0 := blk_cell hr1 (i := 0) rfl; have r1 := blk_cell hr1 (i := 1) rfl; have f0 := blk_free hr1 0; have f1 := blk_free hr1 1)))
    refine bodyPost_ret (results_row_tmp (fn := Try.f57) Try.results57 _ _ _ 85 _ (0, 0) _ rfl (two_set hr1 _ _) Try.underlying85 rfl (by kernel_rfl)) rfl ?_
    refine ⟨_, ⟨rfl, ((H.out.2.1.trans_no (hk1)).setCell _ _ (.inr (by show w.heap.size ≤ w.heap.size + 1 + 1; omega))).setCell _ _ (.inr (by show w.heap.size ≤ w.heap.size + 1 + 1; omega))⟩, ?_, fun _ h => .inl h⟩
    have ho := H.out.1.no (hk1)
    exact ⟨own_keep ho.1 ((Keeps.refl (oneB _) _).set1 0 _ |>.set1 1 _) (fun k _ _ e hF => by unfold oneB at hF; subst hF; obtain ⟨cs, hc⟩ := own_blk ho.1 e; rw [hr1] at hc; simp at hc), own_keep ho.2 ((Keeps.refl (oneB _) _).set1 0 _ |>.set1 1 _) (fun k _ _ e hF => by unfold oneB at hF; subst hF; obtain ⟨cs, hc⟩ := own_blk5 ho.2 e; rw [hr1] at hc; simp at hc)⟩
  · by_cases hneg : 0 ≤ kidx ⟨hh, xp, xo, xw⟩ l
    · obtain ⟨i, hi⟩ : ∃ i : Nat, kidx ⟨hh, xp, xo, xw⟩ l = i := ⟨(kidx ⟨hh, xp, xo, xw⟩ l).toNat, by omega⟩
      obtain ⟨_, _, hg, _⟩ := kidx_some hi
      have hc : co = false := by rw [hco, hg]; rfl
      subst hc
      simp only [Bool.false_eq_true, if_false]
      rw [hi] at hFn
      have HF := Lib.hid hFn
      have d0 : decide ((i : Int) ≥ 0) = true := decide_eq_true (by omega)
      clear hFn hbd hco hi hg hneg
      go_enter Try.func57, Try.ntmps57
      go_upto_region 1 with fail
      rw [← hwZ]
      clear hwZ
      go_upto_region 2 with fail
      rw [← hw0]
      clear hw0 m0 n0
      have y0 := blk_cell H.out.2.2.2.1 (i := 0) rfl
      have y1 := blk_cell H.out.2.2.2.1 (i := 1) rfl
      have y2 := blk_cell H.out.2.2.2.1 (i := 2) rfl
      have y3 := blk_cell H.out.2.2.2.1 (i := 3) rfl
      go_wp2_with (first
        | (go_at_call 95; ((with_reducible refine (HR.out _).mono ?_); rintro e w1 ⟨rfl, hk1⟩; clear y0 y1 y2 y3; have hq1 := (hk1).blk H.out.2.2.1 (noB_not _); have z0 := blk_cell hq1 (i := 0) rfl; have z1 := blk_cell hq1 (i := 1) rfl; have hx1 := (hk1).blk H.out.2.2.2.1 (noB_not _); have y0 := blk_cell hx1 (i := 0) rfl; have y1 := blk_cell hx1 (i := 1) rfl; have y2 := blk_cell hx1 (i := 2) rfl; have y3 := blk_cell hx1 (i := 3) rfl; have hr1 := (hk1).blk H.out.2.2.2.2.1 (noB_not _); have r0 := blk_cell hr1 (i := 0) rfl; have r1 := blk_cell hr1 (i := 1) rfl; have f0 := blk_free hr1 0; have f1 := blk_free hr1 1))
        | (go_at_call 97; ((with_reducible refine (HF.out _ hk1).mono ?_); rintro e w2 ⟨rfl, hk2⟩; clear z0 z1 y0 y1 y2 y3 r0 r1 f0 f1; have hq2 := (hk1.trans_no hk2).blk H.out.2.2.1 (noB_not _); have z0 := blk_cell hq2 (i := 0) rfl; have z1 := blk_cell hq2 (i := 1) rfl; have hx2 := (hk1.trans_no hk2).blk H.out.2.2.2.1 (noB_not _); have y0 := blk_cell hx2 (i := 0) rfl; have y1 := blk_cell hx2 (i := 1) rfl; have y2 := blk_cell hx2 (i := 2) rfl; have y3 := blk_cell hx2 (i := 3) rfl; have hr2 := (hk1.trans_no hk2).blk H.out.2.2.2.2.1 (noB_not _); have r0 := blk_cell hr2 (i := 0) rfl; have r1 := blk_cell hr2 (i := 1) rfl; have f0 := blk_free hr2 0; have f1 := blk_free hr2 1)))
      refine bodyPost_ret (results_row_tmp (fn := Try.f57) Try.results57 _ _ _ 85 _ (0, 0) _ rfl (two_set hr2 _ _) Try.underlying85 rfl (by kernel_rfl)) rfl ?_
      refine ⟨_, ⟨rfl, ((H.out.2.1.trans_no (hk1.trans_no hk2)).setCell _ _ (.inr (by show w.heap.size ≤ w.heap.size + 1 + 1; omega))).setCell _ _ (.inr (by show w.heap.size ≤ w.heap.size + 1 + 1; omega))⟩, ?_, fun _ h => .inl h⟩
      have ho := H.out.1.no (hk1.trans_no hk2)
      exact ⟨own_keep ho.1 ((Keeps.refl (oneB _) _).set1 0 _ |>.set1 1 _) (fun k _ _ e hF => by unfold oneB at hF; subst hF; obtain ⟨cs, hc⟩ := own_blk ho.1 e; rw [hr2] at hc; simp at hc), own_keep ho.2 ((Keeps.refl (oneB _) _).set1 0 _ |>.set1 1 _) (fun k _ _ e hF => by unfold oneB at hF; subst hF; obtain ⟨cs, hc⟩ := own_blk5 ho.2 e; rw [hr2] at hc; simp at hc)⟩
    · obtain ⟨hkf, hg⟩ := kidx_none (show kidx ⟨hh, xp, xo, xw⟩ l < 0 by omega)
      have hc : co = true := by rw [hco, hg]; rfl
      subst hc
      simp only [if_true]
      have hi : kidx ⟨hh, xp, xo, xw⟩ l = -1 := by omega
      rw [hi] at hFn
      have HF := Lib.hid hFn
      have hput := kfind_none hkf false
      rw [hput]
      clear hFn hbd hco hi hg hneg hkf hput
      go_enter Try.func57, Try.ntmps57
      go_upto_region 1 with fail
      rw [← hwZ]
      clear hwZ
      go_upto_region 2 with fail
      rw [← hw0]
      clear hw0 m0 n0
      have y0 := blk_cell H.out.2.2.2.1 (i := 0) rfl
      have y1 := blk_cell H.out.2.2.2.1 (i := 1) rfl
      have y2 := blk_cell H.out.2.2.2.1 (i := 2) rfl
      have y3 := blk_cell H.out.2.2.2.1 (i := 3) rfl
      go_upto_region 4 with (first
        | (go_at_call 95; ((with_reducible refine (HR.out _).mono ?_); rintro e w1 ⟨rfl, hk1⟩; clear y0 y1 y2 y3; have hq1 := (hk1).blk H.out.2.2.1 (noB_not _); have z0 := blk_cell hq1 (i := 0) rfl; have z1 := blk_cell hq1 (i := 1) rfl; have hx1 := (hk1).blk H.out.2.2.2.1 (noB_not _); have y0 := blk_cell hx1 (i := 0) rfl; have y1 := blk_cell hx1 (i := 1) rfl; have y2 := blk_cell hx1 (i := 2) rfl; have y3 := blk_cell hx1 (i := 3) rfl; have hr1 := (hk1).blk H.out.2.2.2.2.1 (noB_not _); have r0 := blk_cell hr1 (i := 0) rfl; have r1 := blk_cell hr1 (i := 1) rfl; have f0 := blk_free hr1 0; have f1 := blk_free hr1 1))
        | (go_at_call 97; ((with_reducible refine (HF.out _ hk1).mono ?_); rintro e w2 ⟨rfl, hk2⟩; clear z0 z1 y0 y1 y2 y3 r0 r1 f0 f1; have hq2 := (hk1.trans_no hk2).blk H.out.2.2.1 (noB_not _); have z0 := blk_cell hq2 (i := 0) rfl; have z1 := blk_cell hq2 (i := 1) rfl; have hx2 := (hk1.trans_no hk2).blk H.out.2.2.2.1 (noB_not _); have y0 := blk_cell hx2 (i := 0) rfl; have y1 := blk_cell hx2 (i := 1) rfl; have y2 := blk_cell hx2 (i := 2) rfl; have y3 := blk_cell hx2 (i := 3) rfl; have hr2 := (hk1.trans_no hk2).blk H.out.2.2.2.2.1 (noB_not _); have r0 := blk_cell hr2 (i := 0) rfl; have r1 := blk_cell hr2 (i := 1) rfl; have f0 := blk_free hr2 0; have f1 := blk_free hr2 1)))
      have k2 := hk1.trans_no hk2
      clear r0 r1 f0 f1
      obtain ⟨i1, hi, hz0, hz1, hz2⟩ := info_parts info146
      have kL : Keeps noB w2 (w2.alloc (.cells #[] 146)) := (Keeps.refl _ _).alloc _
      have hoq := (H.out.1.no k2).2
      obtain ⟨v3, w3, hr3, hown3, hg3, hob3⟩ := run_append_src 83 83 146 i1 _ 5 32 Try.underlying83 hi hz0 hz1 hz2 rfl (by decide) (own_calls0 w2) (SrcR.of_own (own_keep_no hoq kL)) (ccells_one _) (by omega) (by omega) kL.size
      simp only [List.nil_append, Nat.zero_add] at hown3
      have k23 : Keeps noB w2 w3 := kL.own (own_calls0 w2) (Nat.le_refl _) hg3
      have hk3 := k2.trans_no k23
      have HR3 := Lib.hid hr3
      have zL := blk_cell (kL.blk hq2 (noB_not _)) (i := 1) rfl
      have kN : Keeps noB w3 (w3.alloc (.cells #[.int .i64 hh, .int .i64 xp, .int .i64 xo, .bool xw, .bool false] 146)) := (Keeps.refl _ _).alloc _
      obtain ⟨v5, w5, hr5, hown5, hg5, hob5⟩ := run_append_src 83 83 146 i1 _ 5 32 Try.underlying83 hi hz0 hz1 hz2 rfl (by decide) (own_keep_no hown3 kN) (src_lit5 (e := (⟨hh, xp, xo, xw⟩, false)) (heap_alloc_new w3 _)) (cl5_one _) (by omega) (by omega) (by have := k23.size; rw [alloc_size]; omega)
      have k5 : Keeps noB w2 w5 := Keeps.own (k23.trans_no kN) (own_keep_no hown3 kN) (Nat.le_refl _) hg5
      have k05 := k2.trans_no k5
      obtain ⟨a5, c5, rfl⟩ := row_slice hown5
      have HR5 := Lib.hid hr5
      have H5 := Lib.hid (And.intro hown5 (And.intro k5 (And.intro k05 k2)))
      clear hi hz0 hz1 hz2 kL hoq hr3 hown3 hg3 hob3 k2 k23 kN hr5 hown5 hg5 hob5 k5 k05
      go_upto_region 5 with (at_builtin; refine wpList_append_run rfl _ _ 83 83 rfl rfl _ _ rfl rfl _ _ HR3.out ?_)
      clear z0 z1 y0 y1 y2 y3 zL
      have hq3 := (hk3).blk H.out.2.2.1 (noB_not _)
      have z0 := blk_cell hq3 (i := 0) rfl
      have z1 := blk_cell hq3 (i := 1) rfl
      have hx3 := (hk3).blk H.out.2.2.2.1 (noB_not _)
      have y0 := blk_cell hx3 (i := 0) rfl
      have y1 := blk_cell hx3 (i := 1) rfl
      have y2 := blk_cell hx3 (i := 2) rfl
      have y3 := blk_cell hx3 (i := 3) rfl
      have hq5 := H5.out.2.2.1.blk H.out.2.2.1 (noB_not _)
      have g0 := blk_cell hq5 (i := 1) rfl
      have g1 := blk_free hq5 1
      go_upto_region 6 with (at_builtin; refine wpList_append_run rfl _ _ 83 83 rfl rfl _ _ rfl rfl _ _ HR5.out ?_)
      have hq6 : (w5.setCell ⟨w.heap.size, 1, none⟩ (.slice a5 (l.length + 1) c5)).heap[w.heap.size]? = some (.cells #[.slice a ws.length n, .slice a5 (l.length + 1) c5] 85 (0, 0)) := heap_setCell_same _ _ _ _ hq5
      have k56 := (Keeps.refl (oneB w.heap.size) w5).set1 1 (.slice a5 (l.length + 1) c5)
      have hr6 := k56.blk (H5.out.2.2.1.blk H.out.2.2.2.2.1 (noB_not _)) (fun e => by unfold oneB at e; omega)
      have hs2 : w.heap.size + 3 ≤ w2.heap.size := by have := H5.out.2.2.2.size; have := H.out.2.2.2.2.2; omega
      have hoc6 := own_keep H5.out.1 k56 (fun k hk1 _ _ hF => by unfold oneB at hF; omega)
      have how := (H.out.1.no H5.out.2.2.1).1
      have how6 := own_keep how k56 (fun k _ _ e hF => by unfold oneB at hF; subst hF; obtain ⟨cs, hc⟩ := own_blk how e; rw [hq5] at hc; simp at hc)
      have hk6 : Keeps noB w (w5.setCell ⟨w.heap.size, 1, none⟩ (.slice a5 (l.length + 1) c5)) := (H.out.2.1.trans_no H5.out.2.2.1).trans k56 (fun y hy e => by unfold oneB at e; omega)
      have H6 := Lib.hid (And.intro how6 (And.intro hoc6 (And.intro hk6 hs2)))
      clear how how6 hoc6 hk6 hs2 k56 z0 z1 y0 y1 y2 y3 g0 g1 hq3 hx3 hq1 hx1 hr1 hq2 hx2 hr2 hk1 hk2 hk3 hq5
      generalize w5.setCell ⟨w.heap.size, 1, none⟩ (.slice a5 (l.length + 1) c5) = w6 at *
      have z0 := blk_cell hq6 (i := 0) rfl
      have z1 := blk_cell hq6 (i := 1) rfl
      have r0 := blk_cell hr6 (i := 0) rfl
      have r1 := blk_cell hr6 (i := 1) rfl
      have f0 := blk_free hr6 0
      have f1 := blk_free hr6 1
      go_wp2_with fail
      refine bodyPost_ret (results_row_tmp (fn := Try.f57) Try.results57 _ _ _ 85 _ (0, 0) _ rfl (two_set hr6 _ _) Try.underlying85 rfl (by kernel_rfl)) rfl ?_
      obtain ⟨how6, hoc6, hk6, hs2⟩ := H6.out
      refine ⟨_, ⟨rfl, (hk6.setCell _ _ (.inr (by show w.heap.size ≤ w.heap.size + 1 + 1; omega))).setCell _ _ (.inr (by show w.heap.size ≤ w.heap.size + 1 + 1; omega))⟩, ?_, Fr.own hoc6 (by omega)⟩
      refine ⟨own_keep how6 ((Keeps.refl (oneB _) _).set1 0 _ |>.set1 1 _) (fun k _ _ e hF => by unfold oneB at hF; subst hF; obtain ⟨cs, hc⟩ := own_blk how6 e; rw [hr6] at hc; simp at hc), ?_⟩
      rw [List.length_append, List.length_singleton, ccells_append]
      exact own_lower (own_keep hoc6 ((Keeps.refl (oneB _) _).set1 0 _ |>.set1 1 _) (fun k hk1 _ _ hF => by unfold oneB at hF; omega)) (Nat.zero_le _)
end Go.Proofs.Ytlpimkmkcfbddaa
