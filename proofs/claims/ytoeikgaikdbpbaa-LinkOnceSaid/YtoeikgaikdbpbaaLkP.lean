/- The link's packets. No condition. -/
import Derived.Test.YtoeikgaikdbpbaaLk
import Derived.Deep.CutRange
namespace Go.Proofs.Ytoeikgaikdbpbaa
open Go.RowKit

theorem size24' : (Try.prog.info? 24).map (·.size) = some 7 := by kernel_rfl
theorem size24 (c e b s k : Int) (v : Bool) (y : Value) : (Try.prog.info? 24).map (·.size) = some (pcells c e b s k v y).size := size24'
theorem pcells_one (c e b s k : Int) (v : Bool) (a : Option Addr) (n m : Nat) : (pcells c e b s k v (.slice a n m)).all (·.oneCell') = true := by simp [pcells, Value.oneCell']
theorem Keeps.setRow {F : Nat → Prop} {w w1 : World} (h : Keeps F w w1) (g : Nat) (cs : Array Value) (hg : F g ∨ w.heap.size ≤ g) : Keeps F w (w1.setRow g cs) :=
  ⟨h.os, h.tape, h.output, by rw [setRow_size]; exact h.size, fun b hb hF => by
    rw [setRow_other _ _ _ _ (fun e => by subst e; rcases hg with hg | hg; exact hF hg; omega)]; exact h.block b hb hF⟩
theorem ByO.lower {w : World} {B B' c : Nat} {a : Option Addr} {l : List Int} (h : ByO w B a c l) (hB : B' ≤ B) : ByO w B' a c l := by
  rcases h with h | ⟨g, cs, rfl, hb, h⟩
  · exact .inl h
  · exact .inr ⟨g, cs, rfl, by omega, h⟩
theorem ByO.set24 {w w1 : World} {B c : Nat} {a : Option Addr} {l : List Int} {F : Nat → Prop} (h : ByO w B a c l) (hk : Keeps F w w1) (hF : ∀ x, F x → ∃ cs, w.heap[x]? = some (.cells cs 24 (0, 0))) : ByO w1 B a c l := by
  rcases h with h | ⟨g, cs, rfl, hb, hg, h⟩
  · exact .inl h
  · refine .inr ⟨g, cs, rfl, hb, hk.blk hg (fun hx => ?_), h⟩
    obtain ⟨cs', hc⟩ := hF g hx
    rw [hg] at hc; simp at hc

set_option maxRecDepth 100000 in
set_option maxHeartbeats 8000000 in
theorem packet_c {w : World} {S : Nat → Prop} {p : Nat} {k : Lk} {vi : Value} (h : LkAt w S p k vi) (D : Nat → Prop) (s : Int) (a : Option Addr) (l : List Int) (cap : Nat) (hl : l.length ≤ 1000000) (hr : ByR w D a l) :
    Calls Try.prog 22 #[.pointer (some ⟨p, 0, none⟩), .agg #[.int .i64 s, .slice a l.length cap]] w fun e w' => ∃ a' c', RetK noB (.agg (pcells k.c k.e k.b s k.heard k.v (.slice a' l.length c'))) w e w' ∧ ByO w' w.heap.size a' c' l := by
  have hkA : Keeps noB w ((w.alloc (.cells #[.int .i64 s, .slice a l.length cap] 63)).alloc (.cells #[.int .i64 0, .int .i64 0, .int .i64 0, .int .i64 0, .int .i64 0, .bool false, .slice none 0 0] 24)) := ((Keeps.refl _ _).alloc _).alloc _
  have hsA : ((w.alloc (.cells #[.int .i64 s, .slice a l.length cap] 63)).alloc (.cells #[.int .i64 0, .int .i64 0, .int .i64 0, .int .i64 0, .int .i64 0, .bool false, .slice none 0 0] 24)).heap.size = w.heap.size + 2 := by rw [alloc_size, alloc_size]
  have h3 : ((w.alloc (.cells #[.int .i64 s, .slice a l.length cap] 63)).alloc (.cells #[.int .i64 0, .int .i64 0, .int .i64 0, .int .i64 0, .int .i64 0, .bool false, .slice none 0 0] 24)).heap[w.heap.size]? = some (.cells #[.int .i64 s, .slice a l.length cap] 63 (0, 0)) := by rw [alloc_old _ _ _ (by rw [alloc_size]; omega)]; exact heap_alloc_new _ _
  have h4 : ((w.alloc (.cells #[.int .i64 s, .slice a l.length cap] 63)).alloc (.cells #[.int .i64 0, .int .i64 0, .int .i64 0, .int .i64 0, .int .i64 0, .bool false, .slice none 0 0] 24)).heap[w.heap.size + 1]? = some (.cells #[.int .i64 0, .int .i64 0, .int .i64 0, .int .i64 0, .int .i64 0, .bool false, .slice none 0 0] 24 (0, 0)) := by rw [← alloc_size w (.cells #[.int .i64 s, .slice a l.length cap] 63)]; exact heap_alloc_new _ _
  have hA := h.no hkA
  have hrA := hr.keep hkA (fun b _ => noB_not b)
  have hpl := h.lt p h.inS
  clear h hr
  go_enter Try.func22, Try.ntmps22
  go_upto_region 1 with fail
  generalize (w.alloc (.cells #[.int .i64 s, .slice a l.length cap] 63)).alloc (.cells #[.int .i64 0, .int .i64 0, .int .i64 0, .int .i64 0, .int .i64 0, .bool false, .slice none 0 0] 24) = wA at *
  have c0 := hA.c0
  have c1 := hA.c1
  have c2 := hA.c2
  have c3 := hA.c3
  have c4 := hA.c4
  have c5 := hA.c5
  have c6 := hA.c6
  have hkB : Keeps noB wA (wA.alloc (.cells #[.int .i64 k.c, .int .i64 k.e, .int .i64 k.b, .int .i64 0, .int .i64 0, .bool k.v, .slice none 0 0] 24)) := (Keeps.refl _ _).alloc _
  have h5 := heap_alloc_new wA (.cells #[.int .i64 k.c, .int .i64 k.e, .int .i64 k.b, .int .i64 0, .int .i64 0, .bool k.v, .slice none 0 0] 24)
  have HSA := Lib.hid hsA
  have hq1 : p ≠ wA.heap.size := by omega
  have hq2 : w.heap.size ≠ wA.heap.size := by omega
  have hq3 : w.heap.size + 1 ≠ wA.heap.size := by omega
  clear hsA
  go_upto_region 2 with fail
  have hB := hA.no hkB
  have h3B := hkB.blk h3 (noB_not _)
  have h4B := hkB.blk h4 (noB_not _)
  have hrB := hrA.keep hkB (fun b _ => noB_not b)
  clear hA h3 h4 hrA c0 c1 c2 c3 c4 c5 c6
  have hsB := alloc_size wA (.cells #[.int .i64 k.c, .int .i64 k.e, .int .i64 k.b, .int .i64 0, .int .i64 0, .bool k.v, .slice none 0 0] 24)
  generalize wA.alloc (.cells #[.int .i64 k.c, .int .i64 k.e, .int .i64 k.b, .int .i64 0, .int .i64 0, .bool k.v, .slice none 0 0] 24) = wB at *
  have c9 := hB.c9
  have d0 := blk_cell h3B (i := 0) rfl
  have d1 := blk_cell h3B (i := 1) rfl
  have e3 := blk_cell h5 (i := 3) rfl
  have e4 := blk_cell h5 (i := 4) rfl
  have e6 := blk_cell h5 (i := 6) rfl
  have f3 := blk_free h5 3
  have f4 := blk_free h5 4
  have f6 := blk_free h5 6
  have hC := clone_c l hl _ a cap wB hrB
  have hC1 := clone_d l hl _ a cap wB wB.drew ((Keeps.refl noB wB).drew) rfl hrB
  have hC2 := clone_d l hl _ a cap wB wB.drew.drew ((Keeps.refl noB wB).drew.drew) rfl hrB
  have hkw := hkA.trans_no hkB
  have HB := Lib.hid hB
  have H3 := Lib.hid h3B
  have H4 := Lib.hid h4B
  have H5 := Lib.hid h5
  have HSB := Lib.hid hsB
  clear hB h3B h4B h5 hsB hkA hkB hrB
  go_cut [] from 10 to 21 (fun wx => ∃ a' c', wx.heap[wA.heap.size]? = some (.cells (pcells k.c k.e k.b s k.heard k.v (.slice a' l.length c')) 24 (0, 0)) ∧ wx.heap[w.heap.size + 1]? = some (.cells #[.int .i64 0, .int .i64 0, .int .i64 0, .int .i64 0, .int .i64 0, .bool false, .slice none 0 0] 24 (0, 0)) ∧ Keeps noB w wx ∧ ByO wx w.heap.size a' c' l)
  case first =>
    go_region_law (first
      | fail
      | (go_simp; go_at_call 21; (first | refine hC.mono ?_ | refine hC1.mono ?_ | refine hC2.mono ?_); rintro e wC ⟨a', c', ⟨rfl, hkC⟩, hO⟩; have n9 := (HB.out.no hkC).c9; have n0 := blk_cell (hkC.blk H3.out (noB_not _)) (i := 0) rfl; have n1 := blk_cell (hkC.blk H3.out (noB_not _)) (i := 1) rfl; have n3 := blk_cell (hkC.blk H5.out (noB_not _)) (i := 3) rfl; have n4 := blk_cell (hkC.blk H5.out (noB_not _)) (i := 4) rfl; have n6 := blk_cell (hkC.blk H5.out (noB_not _)) (i := 6) rfl; have m3 := blk_free (hkC.blk H5.out (noB_not _)) 3; have m4 := blk_free (hkC.blk H5.out (noB_not _)) 4; have m6 := blk_free (hkC.blk H5.out (noB_not _)) 6))
    all_goals
      go_wp2_with fail
      go_meet
      have g0 := hkC.blk H5.out (noB_not _)
      have g1 := heap_setCell_same _ _ 3 (.int .i64 s) g0
      have g2 := heap_setCell_same _ _ 4 (.int .i64 k.heard) g1
      have g3 := heap_setCell_same _ _ 6 (.slice a' l.length c') g2
      have gk : Keeps (oneB wA.heap.size) wC (((wC.setCell ⟨wA.heap.size, 3, none⟩ (.int .i64 s)).setCell ⟨wA.heap.size, 4, none⟩ (.int .i64 k.heard)).setCell ⟨wA.heap.size, 6, none⟩ (.slice a' l.length c')) := (((Keeps.refl _ wC).set1 _ _).set1 _ _).set1 _ _
      have hsA := HSA.out
      have hsB := HSB.out
      refine ⟨a', c', g3, gk.blk (hkC.blk H4.out (noB_not _)) (fun h => hq3 h), (hkw.trans_no hkC).trans gk (fun x hx h => by unfold oneB at h; omega), (hO.lower (by omega)).set24 gk (fun x hx => by unfold oneB at hx; subst hx; exact ⟨_, g0⟩)⟩
  case rest =>
    obtain ⟨a', c', r5, r4, hkx, hO⟩ := hcut
    clear c9 d0 d1 e3 e4 e6 f3 f4 f6 hC hC1 hC2
    have hkz : Keeps noB w (wc.setRow (w.heap.size + 1) (pcells k.c k.e k.b s k.heard k.v (.slice a' l.length c'))) := hkx.setRow _ _ (.inr (Nat.le_succ _))
    have hOz : ByO (wc.setRow (w.heap.size + 1) (pcells k.c k.e k.b s k.heard k.v (.slice a' l.length c'))) w.heap.size a' c' l := hO.set24 (F := oneB (w.heap.size + 1)) ((Keeps.refl _ wc).setRow _ _ (.inl rfl)) (fun x hx => by unfold oneB at hx; subst hx; exact ⟨_, r4⟩)
    go_wp2_with (first
      | with_reducible refine wpList_load_row rfl 24 _ rfl wA.heap.size rfl 24 _ (0, 0) _ r5 Try.underlying24 rfl (size24 _ _ _ _ _ _ _) ?_
      | with_reducible refine wpList_store_row rfl 24 _ _ rfl (w.heap.size + 1) (pcells k.c k.e k.b s k.heard k.v (.slice a' l.length c')) rfl rfl 24 _ r4 (size24 _ _ _ _ _ _ _) (by simp [pcells]) (pcells_one _ _ _ _ _ _ _ _ _) ?_)
    refine bodyPost_ret (results_cell_row (fn := Try.f22) Try.results22 _ _ (w.heap.size + 1) 24 (pcells k.c k.e k.b s k.heard k.v (.slice a' l.length c')) (0, 0) _ rfl (setRow_heap _ _ _ _ _ _ r4) Try.underlying24 rfl (size24 _ _ _ _ _ _ _)) rfl ?_
    exact ⟨a', c', ⟨rfl, hkz⟩, hOz⟩
end Go.Proofs.Ytoeikgaikdbpbaa
