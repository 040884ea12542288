/- The document's queue: one more waits. No condition. -/
import Derived.Test.YtlpimkmkcfbddaaQrB
import Derived.Test.YtlpimkmkcfbddaaTab
namespace Go.Proofs.Ytlpimkmkcfbddaa
open Go.RowKit

theorem own_blk5 {w : World} {v : Value} {n : Nat} {xs : List Value} (h : w.ownsRow 0 146 5 v n xs) {k : Nat} (hk : v.ownBlock = some k) : ∃ cs, w.heap[k]? = some (.cells cs 146 (0, 0)) := by
  obtain ⟨_, h⟩ := h
  rcases h with ⟨rfl, _⟩ | ⟨g, c, cs, rfl, _, hb, _⟩
  · simp [Value.ownBlock] at hk
  · simp [Value.ownBlock] at hk
    subst hk
    exact ⟨cs, hb⟩
/-- Where the boxes of a queue, of what is asked and of the answer lie. -/
theorem three_alloc (w : World) (o1 o2 o3 : Obj) : Keeps noB w (((w.alloc o1).alloc o2).alloc o3) ∧ (((w.alloc o1).alloc o2).alloc o3).heap.size = w.heap.size + 3 ∧
    (((w.alloc o1).alloc o2).alloc o3).heap[w.heap.size]? = some o1 ∧ (((w.alloc o1).alloc o2).alloc o3).heap[w.heap.size + 1]? = some o2 ∧ (((w.alloc o1).alloc o2).alloc o3).heap[w.heap.size + 1 + 1]? = some o3 := by
  have s1 : (w.alloc o1).heap.size = w.heap.size + 1 := alloc_size _ _
  have s2 : ((w.alloc o1).alloc o2).heap.size = w.heap.size + 1 + 1 := by rw [alloc_size, s1]
  have k2 : Keeps noB (w.alloc o1) ((w.alloc o1).alloc o2) := (Keeps.refl _ _).alloc _
  have k3 : Keeps noB ((w.alloc o1).alloc o2) (((w.alloc o1).alloc o2).alloc o3) := (Keeps.refl _ _).alloc _
  refine ⟨(((Keeps.refl _ _).alloc _).alloc _).alloc _, by rw [alloc_size, s2], (k2.trans_no k3).blk (heap_alloc_new _ _) (noB_not _), k3.blk (by rw [← s1]; exact heap_alloc_new _ _) (noB_not _), by rw [← s2]; exact heap_alloc_new _ _⟩
set_option maxRecDepth 100000 in
set_option maxHeartbeats 8000000 in
theorem add_q {w : World} {va vb : Value} {ws : List Wt} {l : List (Kc × Bool)} (h : RQ w va vb ws l) (hl : ws.length ≤ 1000) (x : Wt) : Calls Try.prog 55 #[.agg #[va, vb], .agg #[.int .i64 x.c, .int .i64 x.p, .int .i64 x.o, .bool x.w]] w
    fun e w' => ∃ va', RetK noB (.tuple #[.agg #[va', vb], .bool (addOk x ws)]) w e w' ∧ RQ w' va' vb (if addOk x ws then ws ++ [x] else ws) l ∧ Fr w va va' := by
  obtain ⟨xc, xp, xo, xw⟩ := x
  obtain ⟨a, n, b, d, rfl, rfl⟩ := h.slices
  obtain ⟨hk0, hs0, hb0, hb1, hb2⟩ := three_alloc w (.cells #[.slice a ws.length n, .slice b l.length d] 85) (.cells #[.int .i64 xc, .int .i64 xp, .int .i64 xo, .bool xw] 73) (.cells #[.slice none 0 0, .slice none 0 0] 85)
  obtain ⟨w0, hw0⟩ : ∃ w0, w0 = ((w.alloc (.cells #[.slice a ws.length n, .slice b l.length d] 85)).alloc (.cells #[.int .i64 xc, .int .i64 xp, .int .i64 xo, .bool xw] 73)).alloc (.cells #[.slice none 0 0, .slice none 0 0] 85) := ⟨_, rfl⟩
  rw [← hw0] at hk0 hs0 hb0 hb1 hb2
  have hR := fun wd => right_q ⟨xc, xp, xo, xw⟩ wd
  have hco : addOk ⟨xc, xp, xo, xw⟩ ws = (rightB ⟨xc, xp, xo, xw⟩ && decide (ofW xc ws < 0)) := rfl
  have h0 := h.no hk0
  have hW := fun wd (hk : Keeps noB w0 wd) => waits_q (h0.no hk) hl xc
  simp only at hR
  generalize addOk ⟨xc, xp, xo, xw⟩ ws = co at *
  generalize rightB ⟨xc, xp, xo, xw⟩ = br at *
  obtain ⟨bw, hbw⟩ : ∃ b, b = decide (0 ≤ ofW xc ws) := ⟨_, rfl⟩
  have hco2 : co = (br && !bw) := by rw [hco, hbw]; congr 1; rw [Bool.eq_iff_iff]; simp
  rw [← hbw] at hW
  have HR := Lib.hid hR
  have HW := Lib.hid hW
  have H := Lib.hid (And.intro h0 (And.intro hk0 (And.intro hb0 (And.intro hb1 (And.intro hb2 hs0)))))
  have HC := Lib.hid hco2
  clear hR hW hco hbw hco2 h h0 hk0 hb0 hb1 hb2 hs0
  cases br
  · have hc := HC.out
    simp only [Bool.false_and] at hc
    subst hc
    simp only [Bool.false_eq_true, if_false]
    go_enter Try.func55, Try.ntmps55
    go_upto_region 1 with fail
    rw [← hw0]
    clear hw0
    have y0 := blk_cell H.out.2.2.2.1 (i := 0) rfl
    have y1 := blk_cell H.out.2.2.2.1 (i := 1) rfl
    have y2 := blk_cell H.out.2.2.2.1 (i := 2) rfl
    have y3 := blk_cell H.out.2.2.2.1 (i := 3) rfl
    go_wp2_with (first
      | (go_at_call 95; ((with_reducible refine (HR.out _).mono ?_); rintro e w1 ⟨rfl, hk1⟩; clear y0 y1 y2 y3; have hq1 := (hk1).blk H.out.2.2.1 (noB_not _); have z0 := blk_cell hq1 (i := 0) rfl; have z1 := blk_cell hq1 (i := 1) rfl; have hx1 := (hk1).blk H.out.2.2.2.1 (noB_not _); have y0 := blk_cell hx1 (i := 0) rfl; have y1 := blk_cell hx1 (i := 1) rfl; have y2 := blk_cell hx1 (i := 2) rfl; have y3 := blk_cell hx1 (i := 3) rfl; have hr1 := (hk1).blk H.out.2.2.2.2.1 (noB_not _); have r0 := blk_cell hr1 (i := 0) rfl; have r1 := blk_cell hr1 (i := 1) rfl; have f0 := blk_free hr1 0; have f1 := blk_free hr1 1)))
    refine bodyPost_ret (results_row_tmp (fn := Try.f55) Try.results55 _ _ _ 85 _ (0, 0) _ rfl (two_set hr1 _ _) Try.underlying85 rfl (by kernel_rfl)) rfl ?_
    refine ⟨_, ⟨rfl, ((H.out.2.1.trans_no (hk1)).setCell _ _ (.inr (by show w.heap.size ≤ w.heap.size + 1 + 1; omega))).setCell _ _ (.inr (by show w.heap.size ≤ w.heap.size + 1 + 1; omega))⟩, ?_, fun _ h => .inl h⟩
    have ho := H.out.1.no (hk1)
    exact ⟨own_keep ho.1 ((Keeps.refl (oneB _) _).set1 0 _ |>.set1 1 _) (fun k _ _ e hF => by unfold oneB at hF; subst hF; obtain ⟨cs, hc⟩ := own_blk ho.1 e; rw [hr1] at hc; simp at hc), own_keep ho.2 ((Keeps.refl (oneB _) _).set1 0 _ |>.set1 1 _) (fun k _ _ e hF => by unfold oneB at hF; subst hF; obtain ⟨cs, hc⟩ := own_blk5 ho.2 e; rw [hr1] at hc; simp at hc)⟩
  · cases bw
    rotate_left
    · have hc := HC.out
      simp only [Bool.not_true, Bool.and_false] at hc
      subst hc
      simp only [Bool.false_eq_true, if_false]
      go_enter Try.func55, Try.ntmps55
      go_upto_region 1 with fail
      rw [← hw0]
      clear hw0
      have y0 := blk_cell H.out.2.2.2.1 (i := 0) rfl
      have y1 := blk_cell H.out.2.2.2.1 (i := 1) rfl
      have y2 := blk_cell H.out.2.2.2.1 (i := 2) rfl
      have y3 := blk_cell H.out.2.2.2.1 (i := 3) rfl
      go_wp2_with (first
        | (go_at_call 95; ((with_reducible refine (HR.out _).mono ?_); rintro e w1 ⟨rfl, hk1⟩; clear y0 y1 y2 y3; have hq1 := (hk1).blk H.out.2.2.1 (noB_not _); have z0 := blk_cell hq1 (i := 0) rfl; have z1 := blk_cell hq1 (i := 1) rfl; have hx1 := (hk1).blk H.out.2.2.2.1 (noB_not _); have y0 := blk_cell hx1 (i := 0) rfl; have y1 := blk_cell hx1 (i := 1) rfl; have y2 := blk_cell hx1 (i := 2) rfl; have y3 := blk_cell hx1 (i := 3) rfl; have hr1 := (hk1).blk H.out.2.2.2.2.1 (noB_not _); have r0 := blk_cell hr1 (i := 0) rfl; have r1 := blk_cell hr1 (i := 1) rfl; have f0 := blk_free hr1 0; have f1 := blk_free hr1 1))
        | (go_at_call 96; ((with_reducible refine (HW.out _ hk1).mono ?_); rintro e w2 ⟨rfl, hk2⟩; clear z0 z1 y0 y1 y2 y3 r0 r1 f0 f1; have hq2 := (hk1.trans_no hk2).blk H.out.2.2.1 (noB_not _); have z0 := blk_cell hq2 (i := 0) rfl; have z1 := blk_cell hq2 (i := 1) rfl; have hx2 := (hk1.trans_no hk2).blk H.out.2.2.2.1 (noB_not _); have y0 := blk_cell hx2 (i := 0) rfl; have y1 := blk_cell hx2 (i := 1) rfl; have y2 := blk_cell hx2 (i := 2) rfl; have y3 := blk_cell hx2 (i := 3) rfl; have hr2 := (hk1.trans_no hk2).blk H.out.2.2.2.2.1 (noB_not _); have r0 := blk_cell hr2 (i := 0) rfl; have r1 := blk_cell hr2 (i := 1) rfl; have f0 := blk_free hr2 0; have f1 := blk_free hr2 1)))
      refine bodyPost_ret (results_row_tmp (fn := Try.f55) Try.results55 _ _ _ 85 _ (0, 0) _ rfl (two_set hr2 _ _) Try.underlying85 rfl (by kernel_rfl)) rfl ?_
      refine ⟨_, ⟨rfl, ((H.out.2.1.trans_no (hk1.trans_no hk2)).setCell _ _ (.inr (by show w.heap.size ≤ w.heap.size + 1 + 1; omega))).setCell _ _ (.inr (by show w.heap.size ≤ w.heap.size + 1 + 1; omega))⟩, ?_, fun _ h => .inl h⟩
      have ho := H.out.1.no (hk1.trans_no hk2)
      exact ⟨own_keep ho.1 ((Keeps.refl (oneB _) _).set1 0 _ |>.set1 1 _) (fun k _ _ e hF => by unfold oneB at hF; subst hF; obtain ⟨cs, hc⟩ := own_blk ho.1 e; rw [hr2] at hc; simp at hc), own_keep ho.2 ((Keeps.refl (oneB _) _).set1 0 _ |>.set1 1 _) (fun k _ _ e hF => by unfold oneB at hF; subst hF; obtain ⟨cs, hc⟩ := own_blk5 ho.2 e; rw [hr2] at hc; simp at hc)⟩
    · have hc := HC.out
      simp only [Bool.not_false, Bool.and_true] at hc
      subst hc
      simp only [if_true]
      go_enter Try.func55, Try.ntmps55
      go_upto_region 1 with fail
      rw [← hw0]
      clear hw0
      have y0 := blk_cell H.out.2.2.2.1 (i := 0) rfl
      have y1 := blk_cell H.out.2.2.2.1 (i := 1) rfl
      have y2 := blk_cell H.out.2.2.2.1 (i := 2) rfl
      have y3 := blk_cell H.out.2.2.2.1 (i := 3) rfl
      go_upto_region 3 with (first
        | (go_at_call 95; ((with_reducible refine (HR.out _).mono ?_); rintro e w1 ⟨rfl, hk1⟩; clear y0 y1 y2 y3; have hq1 := (hk1).blk H.out.2.2.1 (noB_not _); have z0 := blk_cell hq1 (i := 0) rfl; have z1 := blk_cell hq1 (i := 1) rfl; have hx1 := (hk1).blk H.out.2.2.2.1 (noB_not _); have y0 := blk_cell hx1 (i := 0) rfl; have y1 := blk_cell hx1 (i := 1) rfl; have y2 := blk_cell hx1 (i := 2) rfl; have y3 := blk_cell hx1 (i := 3) rfl; have hr1 := (hk1).blk H.out.2.2.2.2.1 (noB_not _); have r0 := blk_cell hr1 (i := 0) rfl; have r1 := blk_cell hr1 (i := 1) rfl; have f0 := blk_free hr1 0; have f1 := blk_free hr1 1))
        | (go_at_call 96; ((with_reducible refine (HW.out _ hk1).mono ?_); rintro e w2 ⟨rfl, hk2⟩; clear z0 z1 y0 y1 y2 y3 r0 r1 f0 f1; have hq2 := (hk1.trans_no hk2).blk H.out.2.2.1 (noB_not _); have z0 := blk_cell hq2 (i := 0) rfl; have z1 := blk_cell hq2 (i := 1) rfl; have hx2 := (hk1.trans_no hk2).blk H.out.2.2.2.1 (noB_not _); have y0 := blk_cell hx2 (i := 0) rfl; have y1 := blk_cell hx2 (i := 1) rfl; have y2 := blk_cell hx2 (i := 2) rfl; have y3 := blk_cell hx2 (i := 3) rfl; have hr2 := (hk1.trans_no hk2).blk H.out.2.2.2.2.1 (noB_not _); have r0 := blk_cell hr2 (i := 0) rfl; have r1 := blk_cell hr2 (i := 1) rfl; have f0 := blk_free hr2 0; have f1 := blk_free hr2 1)))
      have k2 := hk1.trans_no hk2
      clear r0 r1 f0 f1
      obtain ⟨i1, hi, hz0, hz1, hz2⟩ := info_parts info73
      have kL : Keeps noB w2 (w2.alloc (.cells #[] 73)) := (Keeps.refl _ _).alloc _
      have hoq := (H.out.1.no k2).1
      obtain ⟨v3, w3, hr3, hown3, hg3, hob3⟩ := run_append_src 69 69 73 i1 _ 4 32 Try.underlying69 hi hz0 hz1 hz2 rfl (by decide) (own_wants0 w2) (SrcR.of_own (own_keep_no hoq kL)) (wcells_one _) (by omega) (by omega) kL.size
      simp only [List.nil_append, Nat.zero_add] at hown3
      have k23 : Keeps noB w2 w3 := kL.own (own_wants0 w2) (Nat.le_refl _) hg3
      have hk3 := k2.trans_no k23
      have HR3 := Lib.hid hr3
      have H3 := Lib.hid (And.intro hown3 (And.intro k23 k2))
      have zL := blk_cell (kL.blk hq2 (noB_not _)) (i := 0) rfl
      clear hi hz0 hz1 hz2 kL hoq hr3 hown3 hg3 hob3 k2 k23
      go_upto_region 4 with (at_builtin; refine wpList_append_run rfl _ _ 69 69 rfl rfl _ _ rfl rfl _ _ HR3.out ?_)
      clear z0 z1 y0 y1 y2 y3 zL
      have hq3 := (hk3).blk H.out.2.2.1 (noB_not _)
      have z0 := blk_cell hq3 (i := 0) rfl
      have z1 := blk_cell hq3 (i := 1) rfl
      have hx3 := (hk3).blk H.out.2.2.2.1 (noB_not _)
      have y0 := blk_cell hx3 (i := 0) rfl
      have y1 := blk_cell hx3 (i := 1) rfl
      have y2 := blk_cell hx3 (i := 2) rfl
      have y3 := blk_cell hx3 (i := 3) rfl
      have g0 := blk_free hq3 0
      have hbase : w2.heap.size ≤ (w3.alloc (.cells #[.int .i64 xc, .int .i64 xp, .int .i64 xo, .bool xw] 73)).heap.size := by have := H3.out.2.1.size; rw [alloc_size]; omega
      have kN : Keeps noB w3 (w3.alloc (.cells #[.int .i64 xc, .int .i64 xp, .int .i64 xo, .bool xw] 73)) := (Keeps.refl _ _).alloc _
      have HN := Lib.hid (And.intro (own_keep_no H3.out.1 kN) (And.intro (heap_alloc_new w3 (.cells #[.int .i64 xc, .int .i64 xp, .int .i64 xo, .bool xw] 73)) (And.intro hbase kN)))
      clear hbase kN
      go_upto_region 5 with (at_builtin; refine wpList_append_w rfl _ _ rfl w2.heap.size _ ws rfl HN.out.1 (by omega) w3.heap.size 1 ⟨xc, xp, xo, xw⟩ rfl (0, 0) HN.out.2.1 HN.out.2.2.1 ?_; intro v5 w5 hown5 hg5 hob5; have k5 : Keeps noB w2 w5 := Keeps.own (H3.out.2.1.trans_no HN.out.2.2.2) HN.out.1 (Nat.le_refl _) hg5; have k05 := H3.out.2.2.trans_no k5; have hq5 := k05.blk H.out.2.2.1 (noB_not _); have g0 := blk_cell hq5 (i := 0) rfl; have g1 := blk_free hq5 0; have H5 := Lib.hid (And.intro k5 k05); simp only [List.length_append, List.length_singleton] at hown5; obtain ⟨a5, c5, rfl⟩ := row_slice hown5; have H5o := Lib.hid hown5; clear hown5 hg5 hob5 k5 k05)
      have hq6 : (w5.setCell ⟨w.heap.size, 0, none⟩ (.slice a5 (ws.length + 1) c5)).heap[w.heap.size]? = some (.cells #[.slice a5 (ws.length + 1) c5, .slice b l.length d] 85 (0, 0)) := heap_setCell_same _ _ _ _ hq5
      have k56 := (Keeps.refl (oneB w.heap.size) w5).set1 0 (.slice a5 (ws.length + 1) c5)
      have hr6 := k56.blk (H5.out.2.blk H.out.2.2.2.2.1 (noB_not _)) (fun e => by unfold oneB at e; omega)
      have hs2 : w.heap.size + 3 ≤ w2.heap.size := by have := H3.out.2.2.size; have := H.out.2.2.2.2.2; omega
      have how := own_keep H5o.out k56 (fun k hk1 _ _ hF => by unfold oneB at hF; omega)
      have hoc := (H.out.1.no H5.out.2).2
      have hoc6 := own_keep hoc k56 (fun k _ _ e hF => by unfold oneB at hF; subst hF; obtain ⟨cs, hc⟩ := own_blk5 hoc e; rw [hq5] at hc; simp at hc)
      have hk6 : Keeps noB w (w5.setCell ⟨w.heap.size, 0, none⟩ (.slice a5 (ws.length + 1) c5)) := (H.out.2.1.trans_no H5.out.2).trans k56 (fun y hy e => by unfold oneB at e; omega)
      have H6 := Lib.hid (And.intro how (And.intro hoc6 (And.intro hk6 hs2)))
      clear hoc how hoc6 hk6 hs2 k56 z0 z1 y0 y1 y2 y3 g0 g1 hq3 hx3 hq1 hx1 hr1 hq2 hx2 hr2 hk1 hk2 hk3 hq5
      generalize w5.setCell ⟨w.heap.size, 0, none⟩ (.slice a5 (ws.length + 1) c5) = w6 at *
      have z0 := blk_cell hq6 (i := 0) rfl
      have z1 := blk_cell hq6 (i := 1) rfl
      have r0 := blk_cell hr6 (i := 0) rfl
      have r1 := blk_cell hr6 (i := 1) rfl
      have f0 := blk_free hr6 0
      have f1 := blk_free hr6 1
      go_wp2_with fail
      refine bodyPost_ret (results_row_tmp (fn := Try.f55) Try.results55 _ _ _ 85 _ (0, 0) _ rfl (two_set hr6 _ _) Try.underlying85 rfl (by kernel_rfl)) rfl ?_
      obtain ⟨how, hoc6, hk6, hs2⟩ := H6.out
      refine ⟨_, ⟨rfl, (hk6.setCell _ _ (.inr (by show w.heap.size ≤ w.heap.size + 1 + 1; omega))).setCell _ _ (.inr (by show w.heap.size ≤ w.heap.size + 1 + 1; omega))⟩, ?_, Fr.own how (by omega)⟩
      refine ⟨?_, own_keep hoc6 ((Keeps.refl (oneB _) _).set1 0 _ |>.set1 1 _) (fun k _ _ e hF => by unfold oneB at hF; subst hF; obtain ⟨cs, hc⟩ := own_blk5 hoc6 e; rw [hr6] at hc; simp at hc)⟩
      rw [List.length_append, List.length_singleton]
      exact own_lower (own_keep how ((Keeps.refl (oneB _) _).set1 0 _ |>.set1 1 _) (fun k hk1 _ _ hF => by unfold oneB at hF; omega)) (Nat.zero_le _)
end Go.Proofs.Ytlpimkmkcfbddaa
