/- The document's queue: one waits no more; a client is gone. No condition. -/
import Derived.Test.YtlpimkmkcfbddaaQrF
namespace Go.Proofs.Ytlpimkmkcfbddaa
open Go.RowKit

def rmQ (c : Int) (ws : List Wt) : List Wt := ws.filter (fun x => x.c != c)
theorem rmQ_le (c : Int) (ws : List Wt) : (rmQ c ws).length ≤ ws.length := List.length_filter_le _ _
theorem rmQ_true {c : Int} {x : Wt} {l : List Wt} (h : (x.c != c) = true) : rmQ c (l ++ [x]) = rmQ c l ++ [x] := by simp only [rmQ, List.filter_append, List.filter_cons, List.filter_nil, h, if_true]
theorem rmQ_false {c : Int} {x : Wt} {l : List Wt} (h : (x.c != c) = false) : rmQ c (l ++ [x]) = rmQ c l := by simp only [rmQ, List.filter_append, List.filter_cons, List.filter_nil, h, Bool.false_eq_true, if_false, List.append_nil]
set_option maxRecDepth 100000 in
set_option maxHeartbeats 8000000 in
theorem remove_q {w : World} {va vb : Value} {ws : List Wt} {l : List (Kc × Bool)} (h : RQ w va vb ws l) (hl : ws.length ≤ 1000) (c : Int) : Calls Try.prog 56 #[.agg #[va, vb], .int .i64 c] w
    fun e w' => ∃ va', RetK noB (.tuple #[.agg #[va', vb], .bool (decide (0 ≤ ofW c ws))]) w e w' ∧ RQ w' va' vb (rmQ c ws) l ∧ Fr w va va' := by
  obtain ⟨a, n, b, d, rfl, rfl⟩ := h.slices
  obtain ⟨hk0, hs0, hb0, hb2⟩ := two_alloc w (.cells #[.slice a ws.length n, .slice b l.length d] 85) (.cells #[.slice none 0 0, .slice none 0 0] 85)
  obtain ⟨w0, hw0⟩ : ∃ w0, w0 = (w.alloc (.cells #[.slice a ws.length n, .slice b l.length d] 85)).alloc (.cells #[.slice none 0 0, .slice none 0 0] 85) := ⟨_, rfl⟩
  rw [← hw0] at hk0 hs0 hb0 hb2
  have h0 := h.no hk0
  have hWt := waits_q h0 hl c
  generalize decide (0 ≤ ofW c ws) = bw at *
  have H := Lib.hid (And.intro h0 (And.intro hk0 (And.intro hb0 (And.intro hb2 hs0))))
  clear h h0 hk0 hb0 hb2 hs0
  go_enter Try.func56, Try.ntmps56
  go_upto_region 1 with fail
  rw [← hw0]
  clear hw0
  have z0 := blk_cell H.out.2.2.1 (i := 0) rfl
  have z1 := blk_cell H.out.2.2.1 (i := 1) rfl
  go_upto_region 2 with (go_at_call 96; ((with_reducible refine hWt.mono ?_); rintro e w1 ⟨rfl, hk1⟩))
  have kL : Keeps noB w1 (w1.alloc (.cells #[] 73)) := (Keeps.refl _ _).alloc _
  have hqL := (hk1.trans_no kL).blk H.out.2.2.1 (noB_not _)
  have zL := blk_cell hqL (i := 0) rfl
  have hown0 := own_wants0 w1
  have HA := Lib.hid (And.intro hown0 (And.intro hk1 kL))
  have hs1 : w.heap.size + 2 ≤ w1.heap.size := by have := hk1.size; have := H.out.2.2.2.2; omega
  have HS1 := Lib.hid hs1
  clear z0 z1 hWt hqL hown0 kL hk1 hs1
  go_wp2_with fail
  go_loopw [7, 17] (fun u i wr => ∃ k : Nat, k ≤ ws.length ∧ i = .int .i64 k ∧ Keeps noB w1 wr ∧ wr.ownsRow w1.heap.size 73 4 u (rmQ c (ws.take k)).length (wcells (rmQ c (ws.take k)))) (fun _ i _ => ws.length - (intOf i).toNat)
  case atStart => exact ⟨0, by omega, rfl, HA.out.2.2, HA.out.1⟩
  case round =>
    clear zL
    obtain ⟨k, hk, rfl, hkp, hown⟩ := hrel
    have HO := Lib.hid hown
    clear hown
    by_cases hlt : k < ws.length
    · obtain ⟨g, rfl, c0, c1, c2, c3⟩ := (H.out.1.no (HA.out.2.1.trans_no hkp)).wat hlt
      have htk : ws.take (k + 1) = ws.take k ++ [ws[k]] := List.take_succ_eq_append_getElem hlt
      obtain ⟨x, hx⟩ : ∃ x, x = ws[k] := ⟨_, rfl⟩
      rw [← hx] at c0 c1 c2 c3 htk
      have HTK := Lib.hid htk
      clear hx htk
      have hlen := rmQ_le c (ws.take k)
      rw [List.length_take] at hlen
      have HLE := Lib.hid hlen
      obtain ⟨fl, hfl⟩ : ∃ fl, fl = rmQ c (ws.take k) := ⟨_, rfl⟩
      rw [← hfl] at HO HLE
      have HFL := Lib.hid hfl
      clear hfl hlen
      obtain ⟨xc, xp, xo, xw⟩ := x
      simp only at c0 c1 c2 c3
      have kB : Keeps noB wr (wr.alloc (.cells #[.int .i64 xc, .int .i64 xp, .int .i64 xo, .bool xw] 73)) := (Keeps.refl _ _).alloc _
      cases e : (xc != c)
      · have HE := Lib.hid e
        have KB := Lib.hid kB
        clear kB
        go_wp2_with fail
        refine ⟨⟨k + 1, by omega, by go_num, hkp.trans_no KB.out, ?_⟩, by simp [intOf]; omega⟩
        rw [HTK.out, rmQ_false HE.out, ← HFL.out]
        exact own_keep_no HO.out KB.out
      · have HE := Lib.hid e
        have kC : Keeps noB (wr.alloc (.cells #[.int .i64 xc, .int .i64 xp, .int .i64 xo, .bool xw] 73)) ((wr.alloc (.cells #[.int .i64 xc, .int .i64 xp, .int .i64 xo, .bool xw] 73)).alloc (.cells #[.int .i64 xc, .int .i64 xp, .int .i64 xo, .bool xw] 73)) := (Keeps.refl _ _).alloc _
        have HC := Lib.hid (kB.trans_no kC)
        have hsz : w1.heap.size ≤ ((wr.alloc (.cells #[.int .i64 xc, .int .i64 xp, .int .i64 xo, .bool xw] 73)).alloc (.cells #[.int .i64 xc, .int .i64 xp, .int .i64 xo, .bool xw] 73)).heap.size := by have := hkp.size; have := HC.out.size; omega
        have HSZ := Lib.hid hsz
        have hd1 : fl.length ≤ 100000 := by have := HLE.out; omega
        have HD1 := Lib.hid hd1
        clear hd1
        have hnew : ((wr.alloc (.cells #[.int .i64 xc, .int .i64 xp, .int .i64 xo, .bool xw] 73)).alloc (.cells #[.int .i64 xc, .int .i64 xp, .int .i64 xo, .bool xw] 73)).heap[wr.heap.size + 1]? = some (.cells #[.int .i64 xc, .int .i64 xp, .int .i64 xo, .bool xw] 73) := by rw [← alloc_size wr (.cells #[.int .i64 xc, .int .i64 xp, .int .i64 xo, .bool xw] 73)]; exact heap_alloc_new _ _
        have HNW := Lib.hid hnew
        clear hnew
        clear kB kC hsz
        go_wp2_with (at_builtin; refine wpList_append_w rfl _ _ rfl w1.heap.size _ fl rfl (own_keep_no HO.out HC.out) HD1.out _ 1 ⟨xc, xp, xo, xw⟩ rfl (0, 0) HNW.out HSZ.out ?_; intro v5 w5 hown5 hg5 hob5; have k5 : Keeps noB w1 w5 := Keeps.own (hkp.trans_no HC.out) (own_keep_no HO.out HC.out) (Nat.le_refl _) hg5; have H5 := Lib.hid (And.intro hown5 k5); clear hown5 hg5 hob5 k5)
        refine ⟨⟨k + 1, by omega, by go_num, H5.out.2, ?_⟩, by simp [intOf]; omega⟩
        rw [HTK.out, rmQ_true HE.out, ← HFL.out]
        exact H5.out.1
    · have : k = ws.length := by omega
      subst this
      rw [List.take_length] at HO
      obtain ⟨ua, uc, rfl⟩ := row_slice HO.out
      have hk0r := HA.out.2.1.trans_no hkp
      have hqr := hk0r.blk H.out.2.2.1 (noB_not _)
      have g0 := blk_cell hqr (i := 0) rfl
      have g1 := blk_free hqr 0
      obtain ⟨m, hm⟩ : ∃ m, m = (rmQ c ws).length := ⟨_, rfl⟩
      rw [← hm] at HO ⊢
      have hq6 : (wr.setCell ⟨w.heap.size, 0, none⟩ (.slice ua m uc)).heap[w.heap.size]? = some (.cells #[.slice ua m uc, .slice b l.length d] 85 (0, 0)) := heap_setCell_same _ _ _ _ hqr
      have k56 := (Keeps.refl (oneB w.heap.size) wr).set1 0 (.slice ua m uc)
      have hr6 := k56.blk (hk0r.blk H.out.2.2.2.1 (noB_not _)) (fun e => by unfold oneB at e; omega)
      have hs1 := HS1.out
      have how6 := own_keep HO.out k56 (fun k hk1 _ _ hF => by unfold oneB at hF; omega)
      have hoc := (H.out.1.no hk0r).2
      have hoc6 := own_keep hoc k56 (fun k _ _ e hF => by unfold oneB at hF; subst hF; obtain ⟨cs, hc⟩ := own_blk5 hoc e; rw [hqr] at hc; simp at hc)
      have hk6 : Keeps noB w (wr.setCell ⟨w.heap.size, 0, none⟩ (.slice ua m uc)) := (H.out.2.1.trans_no hk0r).trans k56 (fun y hy e => by unfold oneB at e; omega)
      have H6 := Lib.hid (And.intro how6 (And.intro hoc6 (And.intro hk6 (And.intro hs1 hm))))
      clear hoc how6 hoc6 hk6 k56 hs1 hm hk0r
      go_upto_region 10 with fail
      clear g0 g1 hqr hkp
      generalize wr.setCell ⟨w.heap.size, 0, none⟩ (.slice ua m uc) = w6 at *
      have z0 := blk_cell hq6 (i := 0) rfl
      have z1 := blk_cell hq6 (i := 1) rfl
      have r0 := blk_cell hr6 (i := 0) rfl
      have r1 := blk_cell hr6 (i := 1) rfl
      have f0 := blk_free hr6 0
      have f1 := blk_free hr6 1
      go_wp2_with fail
      refine bodyPost_ret (results_row_tmp (fn := Try.f56) Try.results56 _ _ _ 85 _ (0, 0) _ rfl (two_set hr6 _ _) Try.underlying85 rfl (by kernel_rfl)) rfl ?_
      obtain ⟨how6, hoc6, hk6, hs1, hm⟩ := H6.out
      refine ⟨_, ⟨rfl, (hk6.setCell _ _ (.inr (by show w.heap.size ≤ w.heap.size + 1; omega))).setCell _ _ (.inr (by show w.heap.size ≤ w.heap.size + 1; omega))⟩, ?_, Fr.own how6 (by omega)⟩
      refine ⟨?_, own_keep hoc6 ((Keeps.refl (oneB _) _).set1 0 _ |>.set1 1 _) (fun k _ _ e hF => by unfold oneB at hF; subst hF; obtain ⟨cs, hc⟩ := own_blk5 hoc6 e; rw [hr6] at hc; simp at hc)⟩
      rw [← hm]
      exact own_lower (own_keep how6 ((Keeps.refl (oneB _) _).set1 0 _ |>.set1 1 _) (fun k hk1 _ _ hF => by unfold oneB at hF; omega)) (Nat.zero_le _)
end Go.Proofs.Ytlpimkmkcfbddaa
