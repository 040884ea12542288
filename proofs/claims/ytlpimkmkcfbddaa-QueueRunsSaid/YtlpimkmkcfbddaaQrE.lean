/- The document's queue: busy, an answer. Printed by mk_qre.py. No condition. -/
import Derived.Test.YtlpimkmkcfbddaaQrD
namespace Go.Proofs.Ytlpimkmkcfbddaa
open Go.RowKit

theorem ccells_set : ∀ (l : List (Kc × Bool)) (i : Nat) (hi : i < l.length) (b : Bool), (ccells l).set (i * 5 + 4) (.bool b) = ccells (l.set i (l[i].1, b))
  | [], _, hi, _ => absurd hi (Nat.not_lt_zero _)
  | e :: t, 0, _, b => rfl
  | e :: t, i + 1, hi, b => by
    have := ccells_set t i (by simpa using hi) b
    have hit : i < t.length := by simpa using hi
    show (cl5 e ++ ccells t).set ((i + 1) * 5 + 4) (.bool b) = cl5 e ++ ccells (t.set i (t[i].1, b))
    rw [List.set_append_right _ _ (by simp [cl5]; omega), ← this]
    congr 2
    simp [cl5]; omega
theorem own_set5 {w : World} {B g c i : Nat} {l : List (Kc × Bool)} (b : Bool) (h : w.ownsRow B 146 5 (.slice (some ⟨g, 0, none⟩) l.length c) l.length (ccells l)) (hi : i < l.length) :
    (w.setCell ⟨g, i * 5 + 4, none⟩ (.bool b)).ownsRow B 146 5 (.slice (some ⟨g, 0, none⟩) l.length c) l.length (ccells (l.set i (l[i].1, b))) := by
  obtain ⟨h0, h⟩ := h
  rcases h with ⟨e, _⟩ | ⟨g', cap, cur, e, hB, hg, hnc, hc, hs, ht⟩
  · simp at e
  simp at e
  obtain ⟨rfl, rfl⟩ := e
  refine ⟨by rw [ccells_len, List.length_set], .inr ⟨g, c, _, rfl, hB, heap_setCell_same _ _ _ _ hg, hnc, hc, by simpa using hs, ?_⟩⟩
  rw [← ccells_set _ _ hi, ← ht]
  simp [List.take_set]
theorem RQ.catc {w : World} {b : Option Addr} {n c : Nat} {va : Value} {ws : List Wt} {l : List (Kc × Bool)} (h : RQ w va (.slice b n c) ws l) (hl : 0 < l.length) : ∃ g, b = some ⟨g, 0, none⟩ ∧ l.length ≤ c ∧ c ≤ maxLen := by
  obtain ⟨_, h⟩ := h.2
  rcases h with ⟨_, h0⟩ | ⟨g, cap, cur, e, _, _, h1, h2, _⟩
  · omega
  simp at e
  obtain ⟨rfl, _, rfl⟩ := e
  exact ⟨g, rfl, h1, h2⟩
set_option maxRecDepth 100000 in
set_option maxHeartbeats 8000000 in
theorem busy_q {w : World} {va vb : Value} {ws : List Wt} {l : List (Kc × Bool)} (h : RQ w va vb ws l) (hl : l.length ≤ 1000) (hh : Int) (x : Wt) : Calls Try.prog 58 #[.agg #[va, vb], .int .i64 hh, .agg #[.int .i64 x.c, .int .i64 x.p, .int .i64 x.o, .bool x.w]] w
    fun e w' => ∃ vb', RetK noB (.tuple #[.agg #[va, vb'], .bool (kget (keyOf hh x) l).isSome]) w e w' ∧ RQ w' va vb' ws (if (kget (keyOf hh x) l).isSome then kput (keyOf hh x) true l else l) ∧ Fr w vb vb' := by
  obtain ⟨xc, xp, xo, xw⟩ := x
  obtain ⟨a, n, b, d, rfl, rfl⟩ := h.slices
  obtain ⟨hk0, hs0, hb0, hb1, hb2⟩ := three_alloc w (.cells #[.slice a ws.length n, .slice b l.length d] 85) (.cells #[.int .i64 xc, .int .i64 xp, .int .i64 xo, .bool xw] 73) (.cells #[.slice none 0 0, .slice none 0 0] 85)
  obtain ⟨w0, hw0⟩ : ∃ w0, w0 = ((w.alloc (.cells #[.slice a ws.length n, .slice b l.length d] 85)).alloc (.cells #[.int .i64 xc, .int .i64 xp, .int .i64 xo, .bool xw] 73)).alloc (.cells #[.slice none 0 0, .slice none 0 0] 85) := ⟨_, rfl⟩
  rw [← hw0] at hk0 hs0 hb0 hb1 hb2
  have h0 := h.no hk0
  have hFn := fun wd (hk : Keeps noB w0 wd) => find_q (h0.no hk) hl hh xp xo xw
  have hbd := kidx_lt (key := ⟨hh, xp, xo, xw⟩) (l := l)
  simp only [keyOf]
  have H := Lib.hid (And.intro h0 (And.intro hk0 (And.intro hb0 (And.intro hb1 (And.intro hb2 hs0)))))
  clear h h0 hk0 hb0 hb1 hb2 hs0
  by_cases hneg : 0 ≤ kidx ⟨hh, xp, xo, xw⟩ l
  · obtain ⟨i, hi⟩ : ∃ i : Nat, kidx ⟨hh, xp, xo, xw⟩ l = i := ⟨(kidx ⟨hh, xp, xo, xw⟩ l).toNat, by omega⟩
    obtain ⟨hil, hkey, hg, hkf⟩ := kidx_some hi
    simp only [hg, Option.isSome_some, if_true]
    obtain ⟨_, _, _, hput⟩ := kfind_some hkf
    have hput := hput true
    simp only [Nat.sub_zero] at hput
    rw [hput]
    rw [hi] at hFn
    have HF := Lib.hid hFn
    have HI := Lib.hid (And.intro hil hkey)
    have d0 : decide ((i : Int) < 0) = false := decide_eq_false (by omega)
    have i0 : (0 : Int) ≤ (i : Int) := by omega
    have i1 : (i : Int) < (l.length : Int) := by omega
    clear hFn hbd hi hneg hput hg hkf hkey
    go_enter Try.func58, Try.ntmps58
    go_upto_region 1 with fail
    rw [← hw0]
    clear hw0
    have z0 := blk_cell H.out.2.2.1 (i := 0) rfl
    have z1 := blk_cell H.out.2.2.1 (i := 1) rfl
    have y0 := blk_cell H.out.2.2.2.1 (i := 0) rfl
    have y1 := blk_cell H.out.2.2.2.1 (i := 1) rfl
    have y2 := blk_cell H.out.2.2.2.1 (i := 2) rfl
    have y3 := blk_cell H.out.2.2.2.1 (i := 3) rfl
    go_upto_region 4 with (first
      | (go_at_call 97; ((with_reducible refine (HF.out _ (Keeps.refl _ _)).mono ?_); rintro e w2 ⟨rfl, hk2⟩; clear z0 z1 y0 y1 y2 y3; have hq2 := (hk2).blk H.out.2.2.1 (noB_not _); have z0 := blk_cell hq2 (i := 0) rfl; have z1 := blk_cell hq2 (i := 1) rfl; have hx2 := (hk2).blk H.out.2.2.2.1 (noB_not _); have y0 := blk_cell hx2 (i := 0) rfl; have y1 := blk_cell hx2 (i := 1) rfl; have y2 := blk_cell hx2 (i := 2) rfl; have y3 := blk_cell hx2 (i := 3) rfl; have hr2 := (hk2).blk H.out.2.2.2.2.1 (noB_not _); have r0 := blk_cell hr2 (i := 0) rfl; have r1 := blk_cell hr2 (i := 1) rfl; have f0 := blk_free hr2 0; have f1 := blk_free hr2 1)))
    clear r0 r1 f0 f1
    obtain ⟨i1', hi, hz0, hz1, hz2⟩ := info_parts info146
    have kL : Keeps noB w2 (w2.alloc (.cells #[] 146)) := (Keeps.refl _ _).alloc _
    have hoq := (H.out.1.no hk2).2
    obtain ⟨v3, w3, hr3, hown3, hg3, hob3⟩ := run_append_src 83 83 146 i1' _ 5 32 Try.underlying83 hi hz0 hz1 hz2 rfl (by decide) (own_calls0 w2) (SrcR.of_own (own_keep_no hoq kL)) (ccells_one _) (by omega) (by omega) kL.size
    simp only [List.nil_append, Nat.zero_add] at hown3
    have k23 : Keeps noB w2 w3 := kL.own (own_calls0 w2) (Nat.le_refl _) hg3
    have hk3 := hk2.trans_no k23
    have HR3 := Lib.hid hr3
    have zL := blk_cell (kL.blk hq2 (noB_not _)) (i := 1) rfl
    obtain ⟨g3, c3, hv3, hB3, hblk3⟩ : ∃ g3 c3, v3 = .slice (some ⟨g3, 0, none⟩) l.length c3 ∧ w2.heap.size ≤ g3 ∧ ∃ cs, w3.heap[g3]? = some (.cells cs 146 (0, 0)) ∧ i * 5 + 4 < cs.size := by
      rcases hown3.2 with ⟨_, h0⟩ | ⟨g, cap, cur, e, hB, hg, hnc, _, hs, _⟩
      · omega
      · exact ⟨g, cap, e, hB, cur, hg, by have := HI.out.1; omega⟩
    subst hv3
    obtain ⟨cs3, hblk3, hcs3⟩ := hblk3
    have e4 : ∃ u, w3.cell? ⟨g3, i * 5 + 4, none⟩ = some u := ⟨_, blk_cell hblk3 (Array.getElem?_eq_getElem hcs3)⟩
    obtain ⟨u4, e4⟩ := e4
    have e5 := blk_free hblk3 (i * 5 + 4)
    have hown4 := own_set5 true hown3 HI.out.1
    have k34 : Keeps (oneB g3) w3 (w3.setCell ⟨g3, i * 5 + 4, none⟩ (.bool true)) := (Keeps.refl _ _).set1 _ _
    have k24 : Keeps noB w2 (w3.setCell ⟨g3, i * 5 + 4, none⟩ (.bool true)) := k23.trans k34 (fun y hy e => by unfold oneB at e; omega)
    obtain ⟨w4, hw4⟩ : ∃ w4, w4 = w3.setCell ⟨g3, i * 5 + 4, none⟩ (.bool true) := ⟨_, rfl⟩
    rw [← hw4] at hown4 k34 k24
    have hs2 : w.heap.size + 3 ≤ w2.heap.size := by have := hk2.size; have := H.out.2.2.2.2.2; omega
    have H4 := Lib.hid (And.intro hown4 (And.intro k24 (And.intro hB3 (And.intro hk2 hs2))))
    have hq3 := hk3.blk H.out.2.2.1 (noB_not _)
    have q0 := blk_cell hq3 (i := 1) rfl
    have q1 := blk_free hq3 1
    have hq4 := (hk2.trans_no k24).blk H.out.2.2.1 (noB_not _)
    have p0 := blk_cell hq4 (i := 1) rfl
    have p1 := blk_free hq4 1
    clear hi hz0 hz1 hz2 kL hoq hr3 hown3 hg3 hob3 k23 hown4 k34 k24 hB3 hblk3 hcs3
    go_upto_region 5 with (at_builtin; refine wpList_append_run rfl _ _ 83 83 rfl rfl _ _ rfl rfl _ _ HR3.out ?_)
    clear z0 z1 y0 y1 y2 y3 zL
    go_upto_region 6 with fail
    rw [← hw4]
    clear hw4 e4 e5 q0 q1
    have hq6 : (w4.setCell ⟨w.heap.size, 1, none⟩ (.slice (some ⟨g3, 0, none⟩) l.length c3)).heap[w.heap.size]? = some (.cells #[.slice a ws.length n, .slice (some ⟨g3, 0, none⟩) l.length c3] 85 (0, 0)) := heap_setCell_same _ _ _ _ hq4
    have k46 := (Keeps.refl (oneB w.heap.size) w4).set1 1 (.slice (some ⟨g3, 0, none⟩) l.length c3)
    have hr6 := k46.blk ((H4.out.2.2.2.1.trans_no H4.out.2.1).blk H.out.2.2.2.2.1 (noB_not _)) (fun e => by unfold oneB at e; omega)
    have hoc6 := own_keep H4.out.1 k46 (fun k hk1 _ _ hF => by unfold oneB at hF; omega)
    have k04 := H4.out.2.2.2.1.trans_no H4.out.2.1
    have how := (H.out.1.no k04).1
    have how6 := own_keep how k46 (fun k _ _ e hF => by unfold oneB at hF; subst hF; obtain ⟨cs, hc⟩ := own_blk how e; rw [hq4] at hc; simp at hc)
    have hk6 : Keeps noB w (w4.setCell ⟨w.heap.size, 1, none⟩ (.slice (some ⟨g3, 0, none⟩) l.length c3)) := (H.out.2.1.trans_no k04).trans k46 (fun y hy e => by unfold oneB at e; omega)
    have H6 := Lib.hid (And.intro how6 (And.intro hoc6 (And.intro hk6 hs2)))
    clear how how6 hoc6 hk6 hs2 k46 k04
    go_upto_region 7 with fail
    clear p0 p1 hq4 hq2 hx2 hr2 hk2 hk3 hq3
    generalize w4.setCell ⟨w.heap.size, 1, none⟩ (.slice (some ⟨g3, 0, none⟩) l.length c3) = w6 at *
    have z0 := blk_cell hq6 (i := 0) rfl
    have z1 := blk_cell hq6 (i := 1) rfl
    have r0 := blk_cell hr6 (i := 0) rfl
    have r1 := blk_cell hr6 (i := 1) rfl
    have f0 := blk_free hr6 0
    have f1 := blk_free hr6 1
    go_wp2_with fail
    refine bodyPost_ret (results_row_tmp (fn := Try.f58) Try.results58 _ _ _ 85 _ (0, 0) _ rfl (two_set hr6 _ _) Try.underlying85 rfl (by kernel_rfl)) rfl ?_
    obtain ⟨how6, hoc6, hk6, hs2⟩ := H6.out
    refine ⟨_, ⟨rfl, (hk6.setCell _ _ (.inr (by show w.heap.size ≤ w.heap.size + 1 + 1; omega))).setCell _ _ (.inr (by show w.heap.size ≤ w.heap.size + 1 + 1; omega))⟩, ?_, Fr.own hoc6 (by omega)⟩
    refine ⟨own_keep how6 ((Keeps.refl (oneB _) _).set1 0 _ |>.set1 1 _) (fun k _ _ e hF => by unfold oneB at hF; subst hF; obtain ⟨cs, hc⟩ := own_blk how6 e; rw [hr6] at hc; simp at hc), ?_⟩
    rw [show l.length = (l.set i (⟨hh, xp, xo, xw⟩, true)).length by rw [List.length_set]]
    rw [HI.out.2] at hoc6
    simp only [List.length_set]
    exact own_lower (own_keep hoc6 ((Keeps.refl (oneB _) _).set1 0 _ |>.set1 1 _) (fun k hk1 _ _ hF => by unfold oneB at hF; omega)) (Nat.zero_le _)
  · obtain ⟨hkf, hg⟩ := kidx_none (show kidx ⟨hh, xp, xo, xw⟩ l < 0 by omega)
    simp only [hg, Option.isSome_none, Bool.false_eq_true, if_false]
    have hi : kidx ⟨hh, xp, xo, xw⟩ l = -1 := by omega
    rw [hi] at hFn
    have HF := Lib.hid hFn
    clear hFn hbd hi hneg hg hkf
    go_enter Try.func58, Try.ntmps58
    go_upto_region 1 with fail
    rw [← hw0]
    clear hw0
    have z0 := blk_cell H.out.2.2.1 (i := 0) rfl
    have z1 := blk_cell H.out.2.2.1 (i := 1) rfl
    have y0 := blk_cell H.out.2.2.2.1 (i := 0) rfl
    have y1 := blk_cell H.out.2.2.2.1 (i := 1) rfl
    have y2 := blk_cell H.out.2.2.2.1 (i := 2) rfl
    have y3 := blk_cell H.out.2.2.2.1 (i := 3) rfl
    go_wp2_with (first
      | (go_at_call 97; ((with_reducible refine (HF.out _ (Keeps.refl _ _)).mono ?_); rintro e w2 ⟨rfl, hk2⟩; clear z0 z1 y0 y1 y2 y3; have hq2 := (hk2).blk H.out.2.2.1 (noB_not _); have z0 := blk_cell hq2 (i := 0) rfl; have z1 := blk_cell hq2 (i := 1) rfl; have hx2 := (hk2).blk H.out.2.2.2.1 (noB_not _); have y0 := blk_cell hx2 (i := 0) rfl; have y1 := blk_cell hx2 (i := 1) rfl; have y2 := blk_cell hx2 (i := 2) rfl; have y3 := blk_cell hx2 (i := 3) rfl; have hr2 := (hk2).blk H.out.2.2.2.2.1 (noB_not _); have r0 := blk_cell hr2 (i := 0) rfl; have r1 := blk_cell hr2 (i := 1) rfl; have f0 := blk_free hr2 0; have f1 := blk_free hr2 1)))
    refine bodyPost_ret (results_row_tmp (fn := Try.f58) Try.results58 _ _ _ 85 _ (0, 0) _ rfl (two_set hr2 _ _) Try.underlying85 rfl (by kernel_rfl)) rfl ?_
    refine ⟨_, ⟨rfl, ((H.out.2.1.trans_no (hk2)).setCell _ _ (.inr (by show w.heap.size ≤ w.heap.size + 1 + 1; omega))).setCell _ _ (.inr (by show w.heap.size ≤ w.heap.size + 1 + 1; omega))⟩, ?_, fun _ h => .inl h⟩
    have ho := H.out.1.no (hk2)
    exact ⟨own_keep ho.1 ((Keeps.refl (oneB _) _).set1 0 _ |>.set1 1 _) (fun k _ _ e hF => by unfold oneB at hF; subst hF; obtain ⟨cs, hc⟩ := own_blk ho.1 e; rw [hr2] at hc; simp at hc), own_keep ho.2 ((Keeps.refl (oneB _) _).set1 0 _ |>.set1 1 _) (fun k _ _ e hF => by unfold oneB at hF; subst hF; obtain ⟨cs, hc⟩ := own_blk5 ho.2 e; rw [hr2] at hc; simp at hc)⟩
end Go.Proofs.Ytlpimkmkcfbddaa
