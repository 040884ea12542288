/- The document's queue: a client is gone. No condition. -/
import Derived.Test.YtlpimkmkcfbddaaQrG
namespace Go.Proofs.Ytlpimkmkcfbddaa
open Go.RowKit

theorem kgone_true {c : Int} {x : Kc × Bool} {l : List (Kc × Bool)} (h : (x.1.h != c) = true) : kgone c (l ++ [x]) = kgone c l ++ [x] := by simp only [kgone, List.filter_append, List.filter_cons, List.filter_nil, h, if_true]
theorem kgone_false {c : Int} {x : Kc × Bool} {l : List (Kc × Bool)} (h : (x.1.h != c) = false) : kgone c (l ++ [x]) = kgone c l := by simp only [kgone, List.filter_append, List.filter_cons, List.filter_nil, h, Bool.false_eq_true, if_false, List.append_nil]
theorem kgone_le (c : Int) (l : List (Kc × Bool)) : (kgone c l).length ≤ l.length := List.length_filter_le _ _
theorem RQ.set {w : World} {va vb : Value} {ws : List Wt} {l : List (Kc × Bool)} (h : RQ w va vb ws l) {g : Nat} {cs : Array Value} {t : TypeId} (hg : w.heap[g]? = some (.cells cs t (0, 0))) (h73 : t ≠ 73) (h146 : t ≠ 146) {w1 : World} (hk : Keeps (oneB g) w w1) : RQ w1 va vb ws l :=
  ⟨own_keep h.1 hk (fun k _ _ e hF => by unfold oneB at hF; subst hF; obtain ⟨cs, hc⟩ := own_blk h.1 e; rw [hg] at hc; simp at hc; exact h73 hc.2), own_keep h.2 hk (fun k _ _ e hF => by unfold oneB at hF; subst hF; obtain ⟨cs, hc⟩ := own_blk5 h.2 e; rw [hg] at hc; simp at hc; exact h146 hc.2)⟩
set_option maxRecDepth 100000 in
set_option maxHeartbeats 8000000 in
theorem gone_q {w : World} {va vb : Value} {ws : List Wt} {l : List (Kc × Bool)} (h : RQ w va vb ws l) (hl : ws.length ≤ 1000) (hl2 : l.length ≤ 1000) (c : Int) : Calls Try.prog 62 #[.agg #[va, vb], .int .i64 c] w
    fun e w' => ∃ va' vb', RetK noB (.agg #[va', vb']) w e w' ∧ RQ w' va' vb' (rmQ c ws) (kgone c l) ∧ Fr w va va' ∧ Fr w vb vb' := by
  obtain ⟨a, n, b, d, rfl, rfl⟩ := h.slices
  obtain ⟨hk0, hs0, hb0, hb2⟩ := two_alloc w (.cells #[.slice a ws.length n, .slice b l.length d] 85) (.cells #[.slice none 0 0, .slice none 0 0] 85)
  obtain ⟨w0, hw0⟩ : ∃ w0, w0 = (w.alloc (.cells #[.slice a ws.length n, .slice b l.length d] 85)).alloc (.cells #[.slice none 0 0, .slice none 0 0] 85) := ⟨_, rfl⟩
  rw [← hw0] at hk0 hs0 hb0 hb2
  have h0 := h.no hk0
  have hRm := remove_q h0 hl c
  have hrl := rmQ_le c ws
  generalize decide (0 ≤ ofW c ws) = bw at *
  generalize rmQ c ws = ws' at *
  have H := Lib.hid (And.intro h0 (And.intro hk0 (And.intro hb0 (And.intro hb2 hs0))))
  clear h h0 hk0 hb0 hb2 hs0
  go_enter Try.func62, Try.ntmps62
  go_upto_region 1 with fail
  rw [← hw0]
  clear hw0
  have z0 := blk_cell H.out.2.2.1 (i := 0) rfl
  have z1 := blk_cell H.out.2.2.1 (i := 1) rfl
  go_upto_region 2 with (go_at_call 56; ((with_reducible refine hRm.mono ?_); rintro e w1 ⟨va1, ⟨rfl, hk1⟩, hrq1, hfr1⟩; obtain ⟨a1, n1, b1, d1, rfl, e1⟩ := hrq1.slices; simp at e1; obtain ⟨rfl, rfl⟩ := e1; clear z0 z1; have HR1 := Lib.hid hrq1; clear hrq1; have HF1 := Lib.hid (Fr.up (w := w) hfr1 (by have := H.out.2.2.2.2; omega)); clear hfr1; have hq1 := hk1.blk H.out.2.2.1 (noB_not _); have z0 := blk_cell hq1 (i := 0) rfl; have z1 := blk_cell hq1 (i := 1) rfl; have f0 := blk_free hq1 0; have f1 := blk_free hq1 1))
  have hqS := two_set hq1 (.slice a1 ws'.length n1) (.slice b l.length d)
  have kS := (Keeps.refl (oneB w.heap.size) w1).set1 0 (.slice a1 ws'.length n1) |>.set1 1 (.slice b l.length d)
  have hs1 : w.heap.size + 2 ≤ w1.heap.size := by have := hk1.size; have := H.out.2.2.2.2; omega
  have hkS : Keeps noB w ((w1.setCell ⟨w.heap.size, 0, none⟩ (.slice a1 ws'.length n1)).setCell ⟨w.heap.size, 1, none⟩ (.slice b l.length d)) := (H.out.2.1.trans_no hk1).trans kS (fun y hy e => by unfold oneB at e; omega)
  have hrS := kS.blk (hk1.blk H.out.2.2.2.1 (noB_not _)) (fun e => by unfold oneB at e; omega)
  have hqS2 := HR1.out.set hq1 (by decide) (by decide) kS
  have hsS : w.heap.size + 2 ≤ ((w1.setCell ⟨w.heap.size, 0, none⟩ (.slice a1 ws'.length n1)).setCell ⟨w.heap.size, 1, none⟩ (.slice b l.length d)).heap.size := by rw [setCell_size, setCell_size]; exact hs1
  obtain ⟨wS, hwS⟩ : ∃ wS, wS = (w1.setCell ⟨w.heap.size, 0, none⟩ (.slice a1 ws'.length n1)).setCell ⟨w.heap.size, 1, none⟩ (.slice b l.length d) := ⟨_, rfl⟩
  rw [← hwS] at hqS hkS hrS hqS2 hsS ⊢
  have HSS := Lib.hid (And.intro hqS2 (And.intro hkS (And.intro hqS (And.intro hrS hsS))))
  have kL : Keeps noB wS (wS.alloc (.cells #[] 146)) := (Keeps.refl _ _).alloc _
  have hqL := kL.blk hqS (noB_not _)
  have zL := blk_cell hqL (i := 1) rfl
  have HA := Lib.hid (And.intro (own_calls0 wS) kL)
  clear hRm z0 z1 f0 f1 hq1 hqS kS hs1 hkS hrS hqS2 hsS hwS HR1 kL hqL hk1
  go_wp2_with fail
  go_loopw [5, 18] (fun u i wr => ∃ k : Nat, k ≤ l.length ∧ i = .int .i64 k ∧ Keeps noB wS wr ∧ wr.ownsRow wS.heap.size 146 5 u (kgone c (l.take k)).length (ccells (kgone c (l.take k)))) (fun _ i _ => l.length - (intOf i).toNat)
  case atStart => exact ⟨0, by omega, rfl, HA.out.2, HA.out.1⟩
  case round =>
    clear zL
    obtain ⟨k, hk, rfl, hkp, hown⟩ := hrel
    have HO := Lib.hid hown
    clear hown
    by_cases hlt : k < l.length
    · obtain ⟨g, rfl, c0, c1, c2, c3, c4⟩ := (HSS.out.1.no hkp).cat hlt
      have htk : l.take (k + 1) = l.take k ++ [l[k]] := List.take_succ_eq_append_getElem hlt
      obtain ⟨x, hx⟩ : ∃ x, x = l[k] := ⟨_, rfl⟩
      rw [← hx] at c0 c1 c2 c3 c4 htk
      have HTK := Lib.hid htk
      clear hx htk
      have hlen := kgone_le c (l.take k)
      rw [List.length_take] at hlen
      have HLE := Lib.hid hlen
      obtain ⟨fl, hfl⟩ : ∃ fl, fl = kgone c (l.take k) := ⟨_, rfl⟩
      rw [← hfl] at HO HLE
      have HFL := Lib.hid hfl
      clear hfl hlen
      obtain ⟨⟨xh, xp, xo, xw⟩, xb⟩ := x
      simp only at c0 c1 c2 c3 c4
      have kB : Keeps noB wr (wr.alloc (.cells #[.int .i64 xh, .int .i64 xp, .int .i64 xo, .bool xw, .bool xb] 146)) := (Keeps.refl _ _).alloc _
      cases e : (xh != c)
      · have HE := Lib.hid e
        have KB := Lib.hid kB
        clear kB
        go_wp2_with fail
        refine ⟨⟨k + 1, by omega, by go_num, hkp.trans_no KB.out, ?_⟩, by simp [intOf]; omega⟩
        rw [HTK.out, kgone_false HE.out, ← HFL.out]
        exact own_keep_no HO.out KB.out
      · have HE := Lib.hid e
        have kC : Keeps noB (wr.alloc (.cells #[.int .i64 xh, .int .i64 xp, .int .i64 xo, .bool xw, .bool xb] 146)) ((wr.alloc (.cells #[.int .i64 xh, .int .i64 xp, .int .i64 xo, .bool xw, .bool xb] 146)).alloc (.cells #[.int .i64 xh, .int .i64 xp, .int .i64 xo, .bool xw, .bool xb] 146)) := (Keeps.refl _ _).alloc _
        have hnew : ((wr.alloc (.cells #[.int .i64 xh, .int .i64 xp, .int .i64 xo, .bool xw, .bool xb] 146)).alloc (.cells #[.int .i64 xh, .int .i64 xp, .int .i64 xo, .bool xw, .bool xb] 146)).heap[wr.heap.size + 1]? = some (.cells #[.int .i64 xh, .int .i64 xp, .int .i64 xo, .bool xw, .bool xb] 146) := by rw [← alloc_size wr (.cells #[.int .i64 xh, .int .i64 xp, .int .i64 xo, .bool xw, .bool xb] 146)]; exact heap_alloc_new _ _
        obtain ⟨i1, hi, hz0, hz1, hz2⟩ := info_parts info146
        obtain ⟨v5, w5, hr5, hown5, hg5, hob5⟩ := run_append_src 83 83 146 i1 _ 5 32 Try.underlying83 hi hz0 hz1 hz2 rfl (by decide) (own_keep_no HO.out (kB.trans_no kC)) (src_lit5 (e := (⟨xh, xp, xo, xw⟩, xb)) hnew) (cl5_one _) (by have := HLE.out; omega) (by omega) (by have := hkp.size; have := (kB.trans_no kC).size; omega)
        have k5 : Keeps noB wS w5 := Keeps.own (hkp.trans_no (kB.trans_no kC)) (own_keep_no HO.out (kB.trans_no kC)) (Nat.le_refl _) hg5
        have HR5 := Lib.hid hr5
        have H5 := Lib.hid (And.intro hown5 k5)
        clear kB kC hnew hi hz0 hz1 hz2 hr5 hown5 hg5 hob5 k5
        go_wp2_with (at_builtin; refine wpList_append_run rfl _ _ 83 83 rfl rfl _ _ rfl rfl _ _ HR5.out ?_)
        refine ⟨⟨k + 1, by omega, by go_num, H5.out.2, ?_⟩, by simp [intOf]; omega⟩
        rw [HTK.out, kgone_true HE.out, ← HFL.out, ccells_append, List.length_append]
        have := H5.out.1
        simpa [ccells] using this
    · have : k = l.length := by omega
      subst this
      rw [List.take_length] at HO
      obtain ⟨ua, uc, rfl⟩ := row_slice HO.out
      have hqr := hkp.blk HSS.out.2.2.1 (noB_not _)
      have g0 := blk_cell hqr (i := 1) rfl
      have g1 := blk_free hqr 1
      obtain ⟨m, hm⟩ : ∃ m, m = (kgone c l).length := ⟨_, rfl⟩
      rw [← hm] at HO ⊢
      have hq6 : (wr.setCell ⟨w.heap.size, 1, none⟩ (.slice ua m uc)).heap[w.heap.size]? = some (.cells #[.slice a1 ws'.length n1, .slice ua m uc] 85 (0, 0)) := heap_setCell_same _ _ _ _ hqr
      have k56 := (Keeps.refl (oneB w.heap.size) wr).set1 1 (.slice ua m uc)
      have hr6 := k56.blk (hkp.blk HSS.out.2.2.2.1 (noB_not _)) (fun e => by unfold oneB at e; omega)
      have hsS := HSS.out.2.2.2.2
      have hoc6 := own_keep HO.out k56 (fun k hk1 _ _ hF => by unfold oneB at hF; omega)
      have how := (HSS.out.1.no hkp).1
      have how6 := own_keep how k56 (fun k _ _ e hF => by unfold oneB at hF; subst hF; obtain ⟨cs, hc⟩ := own_blk how e; rw [hqr] at hc; simp at hc)
      have hk6 : Keeps noB w (wr.setCell ⟨w.heap.size, 1, none⟩ (.slice ua m uc)) := (HSS.out.2.1.trans_no hkp).trans k56 (fun y hy e => by unfold oneB at e; omega)
      have H6 := Lib.hid (And.intro how6 (And.intro hoc6 (And.intro hk6 (And.intro hsS hm))))
      clear how how6 hoc6 hk6 k56 hsS hm
      go_upto_region 10 with fail
      clear g0 g1 hqr hkp
      generalize wr.setCell ⟨w.heap.size, 1, none⟩ (.slice ua m uc) = w6 at *
      have z0 := blk_cell hq6 (i := 0) rfl
      have z1 := blk_cell hq6 (i := 1) rfl
      have r0 := blk_cell hr6 (i := 0) rfl
      have r1 := blk_cell hr6 (i := 1) rfl
      have f0 := blk_free hr6 0
      have f1 := blk_free hr6 1
      go_wp2_with fail
      refine bodyPost_ret (results_cell_row (fn := Try.f62) Try.results62 _ _ _ 85 _ (0, 0) _ rfl (two_set hr6 _ _) Try.underlying85 rfl (by kernel_rfl)) rfl ?_
      obtain ⟨how6, hoc6, hk6, hs1, hm⟩ := H6.out
      refine ⟨_, _, ⟨rfl, (hk6.setCell _ _ (.inr (by show w.heap.size ≤ w.heap.size + 1; omega))).setCell _ _ (.inr (by show w.heap.size ≤ w.heap.size + 1; omega))⟩, ?_, HF1.out, Fr.own hoc6 (by omega)⟩
      refine ⟨own_keep how6 ((Keeps.refl (oneB _) _).set1 0 _ |>.set1 1 _) (fun k _ _ e hF => by unfold oneB at hF; subst hF; obtain ⟨cs, hc⟩ := own_blk how6 e; rw [hr6] at hc; simp at hc), ?_⟩
      rw [← hm]
      exact own_lower (own_keep hoc6 ((Keeps.refl (oneB _) _).set1 0 _ |>.set1 1 _) (fun k hk1 _ _ hF => by unfold oneB at hF; omega)) (Nat.zero_le _)
end Go.Proofs.Ytlpimkmkcfbddaa
