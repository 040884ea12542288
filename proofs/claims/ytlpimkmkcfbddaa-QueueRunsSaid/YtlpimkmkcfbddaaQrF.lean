/- The document's queue: an answer. Printed by mk_qre.py. No condition. -/
import Derived.Test.YtlpimkmkcfbddaaQrE
namespace Go.Proofs.Ytlpimkmkcfbddaa
open Go.RowKit

theorem run_append_none {w : World} (i : TypeInfo) (hi : Try.prog.info? 146 = some i) {B n : Nat} {v : Value} {xs : List Value} (hown : w.ownsRow B 146 5 v n xs) (ax : Addr) (cx : Nat) :
    (Builtin.append_ #[83, 83] 83 #[v, .slice (some ax) 0 cx]).run Try.prog w = .ok v w := by
  have hf := run_firstCells_some (P := Try.prog) w i.size 0 ax 0 cx [] (by simp) (by simp)
  rcases hown.2 with ⟨rfl, rfl⟩ | ⟨g, cap, cur, rfl, _, _, hnc, _⟩
  · simp [Builtin.append_, run_underlying Try.underlying83, sizeOf, typeInfo, hi, Builtin.lenOf, hf]
  · simp [Builtin.append_, run_underlying Try.underlying83, sizeOf, typeInfo, hi, Builtin.lenOf, hf, hnc, storeCells]
theorem SrcR.take {w : World} {B g n c c' i : Nat} {l : List (Kc × Bool)} (h : w.ownsRow B 146 5 (.slice (some ⟨g, 0, none⟩) n c) n (ccells l)) (hi : i ≤ l.length) : SrcR w (.slice (some ⟨g, 0, none⟩) i c') 146 5 i (ccells (l.take i)) := by
  obtain ⟨h0, h⟩ := h
  rcases h with ⟨e, _⟩ | ⟨g', cap, cur, e, hB, hg, hnc, hc, hs, ht⟩
  · simp at e
  simp at e
  obtain ⟨rfl, rfl⟩ := e
  rw [ccells_len] at h0
  refine .inr ⟨g, 0, c', cur, _, rfl, hg, by rw [ccells_len, List.length_take]; congr 1; omega, fun j hj => ?_⟩
  have : (ccells l)[j]? = (ccells (l.take i))[j]? := by
    conv => lhs; rw [← List.take_append_drop i l, ccells_append]
    rw [List.getElem?_append_left (by rw [ccells_len, List.length_take, Nat.min_eq_left hi]; exact hj)]
  rw [Nat.zero_add, ← this, ← ht, List.getElem?_take, if_pos (by omega), Array.getElem?_toList]
theorem SrcR.drop {w : World} {B g n c c' i : Nat} {l : List (Kc × Bool)} (h : w.ownsRow B 146 5 (.slice (some ⟨g, 0, none⟩) n c) n (ccells l)) (hi : i ≤ l.length) : SrcR w (.slice (some ⟨g, i * 5, none⟩) (l.length - i) c') 146 5 (l.length - i) (ccells (l.drop i)) := by
  obtain ⟨h0, h⟩ := h
  rcases h with ⟨e, _⟩ | ⟨g', cap, cur, e, hB, hg, hnc, hc, hs, ht⟩
  · simp at e
  simp at e
  obtain ⟨rfl, rfl⟩ := e
  rw [ccells_len] at h0
  refine .inr ⟨g, i * 5, c', cur, _, rfl, hg, by rw [ccells_len, List.length_drop], fun j hj => ?_⟩
  have : (ccells l)[i * 5 + j]? = (ccells (l.drop i))[j]? := by
    conv => lhs; rw [← List.take_append_drop i l, ccells_append]
    have hlen : (ccells (l.take i)).length = i * 5 := by rw [ccells_len, List.length_take, Nat.min_eq_left hi]
    rw [List.getElem?_append_right (by omega), hlen]
    congr 1; omega
  rw [← this, ← ht, List.getElem?_take, if_pos (by omega), Array.getElem?_toList]
theorem two_alloc (w : World) (o1 o2 : Obj) : Keeps noB w ((w.alloc o1).alloc o2) ∧ ((w.alloc o1).alloc o2).heap.size = w.heap.size + 2 ∧ ((w.alloc o1).alloc o2).heap[w.heap.size]? = some o1 ∧ ((w.alloc o1).alloc o2).heap[w.heap.size + 1]? = some o2 := by
  have s1 : (w.alloc o1).heap.size = w.heap.size + 1 := alloc_size _ _
  have k2 : Keeps noB (w.alloc o1) ((w.alloc o1).alloc o2) := (Keeps.refl _ _).alloc _
  refine ⟨((Keeps.refl _ _).alloc _).alloc _, by rw [alloc_size, s1], k2.blk (heap_alloc_new _ _) (noB_not _), by rw [← s1]; exact heap_alloc_new _ _⟩
set_option maxRecDepth 100000 in
set_option maxHeartbeats 8000000 in
theorem answer_q {w : World} {va vb : Value} {ws : List Wt} {l : List (Kc × Bool)} (h : RQ w va vb ws l) (hl : l.length ≤ 1000) (hh pp oo : Int) (bb : Bool) : Calls Try.prog 60 #[.agg #[va, vb], .int .i64 hh, .int .i64 pp, .int .i64 oo, .bool bb] w
    fun e w' => ∃ vb', RetK noB (.agg #[va, vb']) w e w' ∧ RQ w' va vb' ws (kdel ⟨hh, pp, oo, bb⟩ l) ∧ Fr w vb vb' := by
  obtain ⟨a, n, b, d, rfl, rfl⟩ := h.slices
  obtain ⟨hk0, hs0, hb0, hb2⟩ := two_alloc w (.cells #[.slice a ws.length n, .slice b l.length d] 85) (.cells #[.slice none 0 0, .slice none 0 0] 85)
  obtain ⟨w0, hw0⟩ : ∃ w0, w0 = (w.alloc (.cells #[.slice a ws.length n, .slice b l.length d] 85)).alloc (.cells #[.slice none 0 0, .slice none 0 0] 85) := ⟨_, rfl⟩
  rw [← hw0] at hk0 hs0 hb0 hb2
  have h0 := h.no hk0
  have hFn := fun wd (hk : Keeps noB w0 wd) => find_q (h0.no hk) hl hh pp oo bb
  have hbd := kidx_lt (key := ⟨hh, pp, oo, bb⟩) (l := l)
  have H := Lib.hid (And.intro h0 (And.intro hk0 (And.intro hb0 (And.intro hb2 hs0))))
  clear h h0 hk0 hb0 hb2 hs0
  by_cases hneg : 0 ≤ kidx ⟨hh, pp, oo, bb⟩ l
  · obtain ⟨i, hi⟩ : ∃ i : Nat, kidx ⟨hh, pp, oo, bb⟩ l = i := ⟨(kidx ⟨hh, pp, oo, bb⟩ l).toNat, by omega⟩
    obtain ⟨hil, hkey, hg, hkf⟩ := kidx_some hi
    have hdel : kdel ⟨hh, pp, oo, bb⟩ l = l.take i ++ l.drop (i + 1) := by
      unfold kdel
      rw [hkf]
      exact List.eraseIdx_eq_take_drop_succ _ _
    rw [hdel]
    obtain ⟨l', hl'⟩ : ∃ l', l' = l.take i ++ l.drop (i + 1) := ⟨_, rfl⟩
    rw [← hl']
    have HL := Lib.hid hl'
    clear hl'
    rw [hi] at hFn
    have HF := Lib.hid hFn
    have d0 : decide ((i : Int) < 0) = false := decide_eq_false (by omega)
    have i0 : (0 : Int) ≤ (i : Int) := by omega
    obtain ⟨g, rfl, hnd, hdm⟩ := H.out.1.catc (by omega)
    unfold maxLen at hdm
    have i1 : (i : Int) ≤ (d : Int) := by omega
    have hwr : IntKind.i64.wrap ((i : Int) + 1) = (i : Int) + 1 := by rw [IntKind.wrap_i64]; omega
    have htn : ((i : Int) + 1).toNat = i + 1 := by omega
    have hb1 : (0 : Int) ≤ (i : Int) + 1 := by omega
    have hb2 : (i : Int) + 1 ≤ l.length := by omega
    have hil2 : i + 1 ≤ l.length := by omega
    have hid2 : i ≤ d := by omega
    have hid3 : i + 1 ≤ d := by omega
    clear hFn hbd hi hneg hg hkf hkey hdel
    go_enter Try.func60, Try.ntmps60
    go_upto_region 1 with fail
    rw [← hw0]
    clear hw0
    have z0 := blk_cell H.out.2.2.1 (i := 0) rfl
    have z1 := blk_cell H.out.2.2.1 (i := 1) rfl
    go_upto_region 4 with (first
      | (go_at_call 97; ((with_reducible refine (HF.out _ (Keeps.refl _ _)).mono ?_); rintro e w2 ⟨rfl, hk2⟩; clear z0 z1; have hq2 := (hk2).blk H.out.2.2.1 (noB_not _); have z0 := blk_cell hq2 (i := 0) rfl; have z1 := blk_cell hq2 (i := 1) rfl)))
    have kL : Keeps noB w2 (w2.alloc (.cells #[] 146)) := (Keeps.refl _ _).alloc _
    have zL := blk_cell (kL.blk hq2 (noB_not _)) (i := 1) rfl
    obtain ⟨i1', hi, hz0, hz1, hz2⟩ := info_parts info146
    have hoq := (H.out.1.no hk2).2
    obtain ⟨v3, w3, hr3, hown3, hg3, hob3⟩ := run_append_src 83 83 146 i1' _ 5 32 Try.underlying83 hi hz0 hz1 hz2 rfl (by decide) (own_calls0 w2) (SrcR.take (c' := d) (own_keep_no hoq kL) (Nat.le_of_lt hil)) (ccells_one _) (by omega) (by omega) kL.size
    simp only [List.nil_append, Nat.zero_add] at hown3
    have k23 : Keeps noB w2 w3 := kL.own (own_calls0 w2) (Nat.le_refl _) hg3
    have hk3 := hk2.trans_no k23
    have HR3 := Lib.hid hr3
    have hoq3 := (H.out.1.no hk3).2
    have hq3 := hk3.blk H.out.2.2.1 (noB_not _)
    have q0 := blk_cell hq3 (i := 0) rfl
    have q1 := blk_cell hq3 (i := 1) rfl
    have q2 := blk_free hq3 1
    have hs2 : w.heap.size + 2 ≤ w2.heap.size := by have := hk2.size; have := H.out.2.2.2.2; omega
    have H3 := Lib.hid (And.intro hown3 (And.intro k23 (And.intro hk3 hs2)))
    clear hoq hr3 hg3 hob3 k23 kL hs2
    go_upto_region 5 with (at_builtin; refine wpList_append_run rfl _ _ 83 83 rfl rfl _ _ rfl rfl _ _ HR3.out ?_)
    clear z0 z1 zL
    by_cases hcap : d = i + 1
    · subst hcap
      have hli : l.length = i + 1 := by omega
      have hr5 := run_append_none i1' hi H3.out.1 ⟨g, 0, none⟩ 0
      have hown5 : w3.ownsRow w2.heap.size 146 5 v3 l'.length (ccells l') := by
        have e : l' = l.take i := by rw [HL.out, List.drop_eq_nil_iff.2 (by omega), List.append_nil]
        rw [e, List.length_take, Nat.min_eq_left (by omega)]
        exact H3.out.1
      have k35 : Keeps noB w3 w3 := Keeps.refl _ _
      obtain ⟨w5, hw5⟩ : ∃ w5, w5 = w3 := ⟨_, rfl⟩
      have hcopy := hr5
      rw [show (Result.ok v3 w3 : Result Value) = .ok v3 w5 by rw [hw5]] at hr5
      rw [show w3.ownsRow w2.heap.size 146 5 v3 l'.length (ccells l') = w5.ownsRow w2.heap.size 146 5 v3 l'.length (ccells l') by rw [hw5]] at hown5
      have k35' : Keeps noB w3 w5 := by rw [hw5]; exact k35
      clear k35 hw5 hcopy hli
      have k35 := k35'
      clear k35'
      have k03 := H3.out.2.2.1
      have k05 := k03.trans_no k35
      obtain ⟨a5, c5, rfl⟩ := row_slice hown5
      have HR5 := Lib.hid hr5
      have H5 := Lib.hid (And.intro hown5 (And.intro k05 HL.out))
      have hq5 := k05.blk H.out.2.2.1 (noB_not _)
      have g0 := blk_cell hq5 (i := 1) rfl
      have g1 := blk_free hq5 1
      clear hi hz0 hz1 hz2 hr5 hown5 k05 k03 k35
      go_upto_region 6 with (at_builtin; refine wpList_append_run rfl _ _ 83 83 rfl rfl _ _ rfl rfl _ _ HR5.out ?_)
      have hq6 : (w5.setCell ⟨w.heap.size, 1, none⟩ (.slice a5 l'.length c5)).heap[w.heap.size]? = some (.cells #[.slice a ws.length n, .slice a5 l'.length c5] 85 (0, 0)) := heap_setCell_same _ _ _ _ hq5
      have k56 := (Keeps.refl (oneB w.heap.size) w5).set1 1 (.slice a5 l'.length c5)
      have hr6 := k56.blk (H5.out.2.1.blk H.out.2.2.2.1 (noB_not _)) (fun e => by unfold oneB at e; omega)
      have hs2 := H3.out.2.2.2
      have hoc6 := own_keep H5.out.1 k56 (fun k hk1 _ _ hF => by unfold oneB at hF; omega)
      have how := (H.out.1.no H5.out.2.1).1
      have how6 := own_keep how k56 (fun k _ _ e hF => by unfold oneB at hF; subst hF; obtain ⟨cs, hc⟩ := own_blk how e; rw [hq5] at hc; simp at hc)
      have hk6 : Keeps noB w (w5.setCell ⟨w.heap.size, 1, none⟩ (.slice a5 l'.length c5)) := (H.out.2.1.trans_no H5.out.2.1).trans k56 (fun y hy e => by unfold oneB at e; omega)
      have H6 := Lib.hid (And.intro how6 (And.intro hoc6 (And.intro hk6 hs2)))
      clear how how6 hoc6 hk6 hs2 k56 g0 g1 q0 q1 q2 hq2 hk2 hk3 hq3 hq5
      generalize w5.setCell ⟨w.heap.size, 1, none⟩ (.slice a5 l'.length c5) = w6 at *
      have z0 := blk_cell hq6 (i := 0) rfl
      have z1 := blk_cell hq6 (i := 1) rfl
      have r0 := blk_cell hr6 (i := 0) rfl
      have r1 := blk_cell hr6 (i := 1) rfl
      have f0 := blk_free hr6 0
      have f1 := blk_free hr6 1
      go_wp2_with fail
      refine bodyPost_ret (results_cell_row (fn := Try.f60) Try.results60 _ _ _ 85 _ (0, 0) _ rfl (two_set hr6 _ _) Try.underlying85 rfl (by kernel_rfl)) rfl ?_
      obtain ⟨how6, hoc6, hk6, hs2⟩ := H6.out
      refine ⟨_, ⟨rfl, (hk6.setCell _ _ (.inr (by show w.heap.size ≤ w.heap.size + 1; omega))).setCell _ _ (.inr (by show w.heap.size ≤ w.heap.size + 1; omega))⟩, ?_, Fr.own hoc6 (by omega)⟩
      refine ⟨own_keep how6 ((Keeps.refl (oneB _) _).set1 0 _ |>.set1 1 _) (fun k _ _ e hF => by unfold oneB at hF; subst hF; obtain ⟨cs, hc⟩ := own_blk how6 e; rw [hr6] at hc; simp at hc), ?_⟩
      exact own_lower (own_keep hoc6 ((Keeps.refl (oneB _) _).set1 0 _ |>.set1 1 _) (fun k hk1 _ _ hF => by unfold oneB at hF; omega)) (Nat.zero_le _)
    · have hcap2 : ¬ (d = i + 1) := hcap
      obtain ⟨v5, w5, hr5, hown5, hg5, hob5⟩ := run_append_src 83 83 146 i1' _ 5 32 Try.underlying83 hi hz0 hz1 hz2 rfl (by decide) H3.out.1 (SrcR.drop (i := i + 1) (c' := d - (i + 1)) hoq3 hil2) (ccells_one _) (by omega) (by omega) H3.out.2.1.size
      have k35 : Keeps noB w2 w5 := Keeps.own H3.out.2.1 H3.out.1 (Nat.le_refl _) hg5
      have hown5 : w5.ownsRow w2.heap.size 146 5 v5 l'.length (ccells l') := by
        have e1 : l'.length = i + (l.length - (i + 1)) := by rw [HL.out, List.length_append, List.length_take, List.length_drop, Nat.min_eq_left (by omega)]
        rw [e1, HL.out, ccells_append]
        exact hown5
      clear hg5 hob5
      have k03 := hk2
      have k05 := k03.trans_no k35
      obtain ⟨a5, c5, rfl⟩ := row_slice hown5
      have HR5 := Lib.hid hr5
      have H5 := Lib.hid (And.intro hown5 (And.intro k05 HL.out))
      have hq5 := k05.blk H.out.2.2.1 (noB_not _)
      have g0 := blk_cell hq5 (i := 1) rfl
      have g1 := blk_free hq5 1
      clear hoq3 hi hz0 hz1 hz2 hr5 hown5 k05 k03 k35
      go_upto_region 6 with (at_builtin; refine wpList_append_run rfl _ _ 83 83 rfl rfl _ _ rfl rfl _ _ HR5.out ?_)
      have hq6 : (w5.setCell ⟨w.heap.size, 1, none⟩ (.slice a5 l'.length c5)).heap[w.heap.size]? = some (.cells #[.slice a ws.length n, .slice a5 l'.length c5] 85 (0, 0)) := heap_setCell_same _ _ _ _ hq5
      have k56 := (Keeps.refl (oneB w.heap.size) w5).set1 1 (.slice a5 l'.length c5)
      have hr6 := k56.blk (H5.out.2.1.blk H.out.2.2.2.1 (noB_not _)) (fun e => by unfold oneB at e; omega)
      have hs2 := H3.out.2.2.2
      have hoc6 := own_keep H5.out.1 k56 (fun k hk1 _ _ hF => by unfold oneB at hF; omega)
      have how := (H.out.1.no H5.out.2.1).1
      have how6 := own_keep how k56 (fun k _ _ e hF => by unfold oneB at hF; subst hF; obtain ⟨cs, hc⟩ := own_blk how e; rw [hq5] at hc; simp at hc)
      have hk6 : Keeps noB w (w5.setCell ⟨w.heap.size, 1, none⟩ (.slice a5 l'.length c5)) := (H.out.2.1.trans_no H5.out.2.1).trans k56 (fun y hy e => by unfold oneB at e; omega)
      have H6 := Lib.hid (And.intro how6 (And.intro hoc6 (And.intro hk6 hs2)))
      clear how how6 hoc6 hk6 hs2 k56 g0 g1 q0 q1 q2 hq2 hk2 hk3 hq3 hq5
      generalize w5.setCell ⟨w.heap.size, 1, none⟩ (.slice a5 l'.length c5) = w6 at *
      have z0 := blk_cell hq6 (i := 0) rfl
      have z1 := blk_cell hq6 (i := 1) rfl
      have r0 := blk_cell hr6 (i := 0) rfl
      have r1 := blk_cell hr6 (i := 1) rfl
      have f0 := blk_free hr6 0
      have f1 := blk_free hr6 1
      go_wp2_with fail
      refine bodyPost_ret (results_cell_row (fn := Try.f60) Try.results60 _ _ _ 85 _ (0, 0) _ rfl (two_set hr6 _ _) Try.underlying85 rfl (by kernel_rfl)) rfl ?_
      obtain ⟨how6, hoc6, hk6, hs2⟩ := H6.out
      refine ⟨_, ⟨rfl, (hk6.setCell _ _ (.inr (by show w.heap.size ≤ w.heap.size + 1; omega))).setCell _ _ (.inr (by show w.heap.size ≤ w.heap.size + 1; omega))⟩, ?_, Fr.own hoc6 (by omega)⟩
      refine ⟨own_keep how6 ((Keeps.refl (oneB _) _).set1 0 _ |>.set1 1 _) (fun k _ _ e hF => by unfold oneB at hF; subst hF; obtain ⟨cs, hc⟩ := own_blk how6 e; rw [hr6] at hc; simp at hc), ?_⟩
      exact own_lower (own_keep hoc6 ((Keeps.refl (oneB _) _).set1 0 _ |>.set1 1 _) (fun k hk1 _ _ hF => by unfold oneB at hF; omega)) (Nat.zero_le _)
  · obtain ⟨hkf, hg⟩ := kidx_none (show kidx ⟨hh, pp, oo, bb⟩ l < 0 by omega)
    have hdel : kdel ⟨hh, pp, oo, bb⟩ l = l := by unfold kdel; rw [hkf]
    rw [hdel]
    have hi : kidx ⟨hh, pp, oo, bb⟩ l = -1 := by omega
    rw [hi] at hFn
    have HF := Lib.hid hFn
    clear hFn hbd hi hneg hg hkf hdel
    go_enter Try.func60, Try.ntmps60
    go_upto_region 1 with fail
    rw [← hw0]
    clear hw0
    have z0 := blk_cell H.out.2.2.1 (i := 0) rfl
    have z1 := blk_cell H.out.2.2.1 (i := 1) rfl
    go_wp2_with (first
      | (go_at_call 97; ((with_reducible refine (HF.out _ (Keeps.refl _ _)).mono ?_); rintro e w2 ⟨rfl, hk2⟩; clear z0 z1; have hq2 := (hk2).blk H.out.2.2.1 (noB_not _); have z0 := blk_cell hq2 (i := 0) rfl; have z1 := blk_cell hq2 (i := 1) rfl; have hr2 := (hk2).blk H.out.2.2.2.1 (noB_not _); have r0 := blk_cell hr2 (i := 0) rfl; have r1 := blk_cell hr2 (i := 1) rfl; have f0 := blk_free hr2 0; have f1 := blk_free hr2 1)))
    refine bodyPost_ret (results_cell_row (fn := Try.f60) Try.results60 _ _ _ 85 _ (0, 0) _ rfl (two_set hr2 _ _) Try.underlying85 rfl (by kernel_rfl)) rfl ?_
    refine ⟨_, ⟨rfl, ((H.out.2.1.trans_no hk2).setCell _ _ (.inr (by show w.heap.size ≤ w.heap.size + 1; omega))).setCell _ _ (.inr (by show w.heap.size ≤ w.heap.size + 1; omega))⟩, ?_, fun _ h => .inl h⟩
    have ho := H.out.1.no hk2
    exact ⟨own_keep ho.1 ((Keeps.refl (oneB _) _).set1 0 _ |>.set1 1 _) (fun k _ _ e hF => by unfold oneB at hF; subst hF; obtain ⟨cs, hc⟩ := own_blk ho.1 e; rw [hr2] at hc; simp at hc), own_keep ho.2 ((Keeps.refl (oneB _) _).set1 0 _ |>.set1 1 _) (fun k _ _ e hF => by unfold oneB at hF; subst hF; obtain ⟨cs, hc⟩ := own_blk5 ho.2 e; rw [hr2] at hc; simp at hc)⟩
end Go.Proofs.Ytlpimkmkcfbddaa
