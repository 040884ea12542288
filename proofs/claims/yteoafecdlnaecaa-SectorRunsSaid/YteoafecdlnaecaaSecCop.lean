/- The reference's drive: copied. No condition. -/
import Derived.Test.YteoafecdlnaecaaSecRef
namespace Go.Proofs.Yteoafecdlnaecaa
open Go.RowKit

theorem info4 : (Try.prog.info? 4).map (fun i => (i.zero, i.size, i.bytes)) = some (some (.bool false), 1, 1) := by kernel_rfl
theorem OwE.sl {w : World} {B : Nat} {e : TypeId} {v : Value} {xs : List Value} (h : OwE w B e v xs) : ∃ a n c, v = .slice a n c := by
  rcases h with ⟨_, h⟩ | ⟨_, g, rfl⟩
  · rcases h with ⟨rfl, _⟩ | ⟨g, cap, cur, rfl, _⟩
    · exact ⟨_, _, _, rfl⟩
    · exact ⟨_, _, _, rfl⟩
  · exact ⟨_, _, _, rfl⟩
theorem OwE.lower {w : World} {B B' : Nat} {e : TypeId} {v : Value} {xs : List Value} (h : OwE w B e v xs) (hB : B' ≤ B) : OwE w B' e v xs := by
  rcases h with ⟨hl, h⟩ | h
  · refine .inl ⟨hl, ?_⟩
    rcases h with h | ⟨g, cap, cur, e1, hb, h⟩
    · exact .inl h
    · exact .inr ⟨g, cap, cur, e1, by omega, h⟩
  · exact .inr h
theorem OwE.own_lt {w : World} {B : Nat} {e : TypeId} {v : Value} {xs : List Value} (h : OwE w B e v xs) (hx : xs ≠ []) {y : Nat} (hy : v.ownBlock = some y) : y < w.heap.size := by
  rcases h with h | ⟨h, _⟩
  · exact (h.lt y hy).2
  · exact absurd h hx
theorem OwE.own_le {w : World} {B : Nat} {e : TypeId} {v : Value} {xs : List Value} (h : OwE w B e v xs) (hx : xs ≠ []) {y : Nat} (hy : v.ownBlock = some y) : B ≤ y := by
  rcases h with h | ⟨h, _⟩
  · exact (h.lt y hy).1
  · exact absurd h hx
set_option maxRecDepth 100000 in
set_option maxHeartbeats 16000000 in
theorem copied_c {w : World} {vN vS vL : Value} {xN xS xL : List Value} (hN : SlR w vN xN) (hS : SlR w vS xS) (hL : SlR w vL xL) (lN : xN.length ≤ 1000) (lS : xS.length ≤ 1000) (lL : xL.length ≤ 1000) :
    Calls Try.prog 32 #[.agg #[vN, vS, vL]] w fun e w' => ∃ uN uS uL, RetK noB (.agg #[uN, uS, uL]) w e w' ∧ OwE w' w.heap.size 22 uN xN ∧ OwE w' w.heap.size 22 uS xS ∧ OwE w' w.heap.size 4 uL xL ∧ (xN ≠ [] → xS ≠ [] → ∀ y z, uN.ownBlock = some y → uS.ownBlock = some z → y < z) := by
  have hN' := Lib.hid hN
  have hS' := Lib.hid hS
  have hL' := Lib.hid hL
  obtain ⟨aN, cN, rfl, _⟩ := hN
  obtain ⟨aS, cS, rfl, _⟩ := hS
  obtain ⟨aL, cL, rfl, _⟩ := hL
  have hkP : Keeps noB w (w.alloc (.cells #[.slice aN xN.length cN, .slice aS xS.length cS, .slice aL xL.length cL] 41)) := (Keeps.refl _ _).alloc _
  have hP := heap_alloc_new w (.cells #[.slice aN xN.length cN, .slice aS xS.length cS, .slice aL xL.length cL] 41)
  have hsP : (w.alloc (.cells #[.slice aN xN.length cN, .slice aS xS.length cS, .slice aL xL.length cL] 41)).heap.size = w.heap.size + 1 := alloc_size _ _
  have HkP := Lib.hid hkP
  have HSP := Lib.hid hsP
  obtain ⟨i1, hi, hz0, hz1, hz2⟩ := info_parts info22
  obtain ⟨i2, hj, hy0, hy1, hy2⟩ := info_parts info4
  have HP := Lib.hid hP
  clear hkP hP hsP
  go_enter Try.func32, Try.ntmps32
  go_upto_region 1 with fail
  generalize w.alloc (.cells #[.slice aN xN.length cN, .slice aS xS.length cS, .slice aL xL.length cL] 41) = wP at *
  have hS : ∀ w', Keeps noB wP w' → w'.cell? ⟨w.heap.size, 0, none⟩ = some (.slice aN xN.length cN) ∧ w'.cell? ⟨w.heap.size, 1, none⟩ = some (.slice aS xS.length cS) ∧ w'.cell? ⟨w.heap.size, 2, none⟩ = some (.slice aL xL.length cL) := fun w' hk => by
    have h1 := hk.blk HP.out (noB_not _)
    exact ⟨blk_cell h1 (i := 0) rfl, blk_cell h1 (i := 1) rfl, blk_cell h1 (i := 2) rfl⟩
  have HS := Lib.hid hS
  clear hS
  obtain ⟨wZ, hwZ⟩ : ∃ wZ, wZ = wP.alloc (.cells #[.slice none 0 0, .slice none 0 0, .slice none 0 0] 41) := ⟨_, rfl⟩
  have hZ0 : wZ.heap[w.heap.size + 1]? = some (.cells #[.slice none 0 0, .slice none 0 0, .slice none 0 0] 41 (0, 0)) := by rw [hwZ, ← HSP.out]; exact heap_alloc_new _ _
  have hkPZ : Keeps noB wP wZ := by rw [hwZ]; exact (Keeps.refl _ _).alloc _
  have HZ := Lib.hid hZ0
  have hsZ : wZ.heap.size = w.heap.size + 2 := by rw [hwZ, alloc_size, HSP.out]
  have HSZ := Lib.hid hsZ
  try rw [← hwZ]
  clear hwZ hZ0 hsZ
  go_region_held3 (fun w' => w'.cell? ⟨w.heap.size, 0, none⟩ = some (.slice aN xN.length cN) ∧ w'.cell? ⟨w.heap.size, 1, none⟩ = some (.slice aS xS.length cS) ∧ w'.cell? ⟨w.heap.size, 2, none⟩ = some (.slice aL xL.length cL))
    (first | (refine HS.out _ ?_; repeat (first | exact hkA14 | exact hkA10 | exact hkA6 | exact hkPZ | exact Keeps.refl noB wP | refine Keeps.drew ?_ | refine Keeps.alloc ?_ _ | refine Keeps.setCell ?_ _ _ (.inr (by have := HSP.out; first | exact Nat.le_refl _ | (dsimp only; omega))))))
    (first
      | (refine step_append0 rfl _ _ 38 22 i1 (.slice none 0 0) 24 Try.underlying38 hi hz0 hz1 hz2 rfl rfl _ rfl _ rfl xN (SlR.no hN'.out (HkP.out.trans_no (by (repeat (first | exact hkA14 | exact hkA10 | exact hkA6 | exact hkPZ | exact Keeps.refl noB wP | refine Keeps.drew ?_ | refine Keeps.alloc ?_ _))))) lN (by decide) wZ.heap.size (Keeps.size (F := noB) (w := wZ) (by (repeat (first | exact hkZ14 | exact hkZ10 | exact hkZ6 | exact Keeps.refl noB wZ | refine Keeps.drew ?_ | refine Keeps.alloc ?_ _)))) ?_; intro v6 w6 h6 k6; have hkA6 : Keeps noB wP w6 := Keeps.trans_no (by (repeat (first | exact hkA14 | exact hkA10 | exact hkA6 | exact hkPZ | exact Keeps.refl noB wP | refine Keeps.drew ?_ | refine Keeps.alloc ?_ _))) k6; have hZ := (Keeps.trans_no (F := noB) (by (repeat (first | exact hkZ14 | exact hkZ10 | exact hkZ6 | exact Keeps.refl noB wZ | refine Keeps.drew ?_ | refine Keeps.alloc ?_ _))) k6 : Keeps noB wZ w6); have hkZ6 := hZ; have hZb := hZ.blk HZ.out (noB_not _); have z0 := blk_cell hZb (i := 0) rfl; have z1 := blk_cell hZb (i := 1) rfl; have z2 := blk_cell hZb (i := 2) rfl; have f0 := blk_free hZb 0; have f1 := blk_free hZb 1; have f2 := blk_free hZb 2; obtain ⟨va6, vb6, vc6, rfl⟩ := h6.sl)
      | (refine step_append0 rfl _ _ 38 22 i1 (.slice none 0 0) 24 Try.underlying38 hi hz0 hz1 hz2 rfl rfl _ rfl _ rfl xS (SlR.no hS'.out (HkP.out.trans_no (by (repeat (first | exact hkA14 | exact hkA10 | exact hkA6 | exact hkPZ | exact Keeps.refl noB wP | refine Keeps.drew ?_ | refine Keeps.alloc ?_ _))))) lS (by decide) w6.heap.size (Keeps.size (F := noB) (w := w6) (by (repeat (first | exact Keeps.refl noB w6 | refine Keeps.alloc ?_ _)))) ?_; intro v10 w10 h10 k10; have hkA10 : Keeps noB wP w10 := Keeps.trans_no (by (repeat (first | exact hkA14 | exact hkA10 | exact hkA6 | exact hkPZ | exact Keeps.refl noB wP | refine Keeps.drew ?_ | refine Keeps.alloc ?_ _))) k10; have h10b := h10; have hk6z := hkZ6.size; have hk6_10 : Keeps noB w6 w10 := Keeps.trans_no (by (repeat (first | exact Keeps.refl noB w6 | refine Keeps.alloc ?_ _))) k10; have hZ := (Keeps.trans_no (F := noB) (by (repeat (first | exact hkZ14 | exact hkZ10 | exact hkZ6 | exact Keeps.refl noB wZ | refine Keeps.drew ?_ | refine Keeps.alloc ?_ _))) k10 : Keeps noB wZ w10); have hkZ10 := hZ; have hZb := hZ.blk HZ.out (noB_not _); have z0 := blk_cell hZb (i := 0) rfl; have z1 := blk_cell hZb (i := 1) rfl; have z2 := blk_cell hZb (i := 2) rfl; have f0 := blk_free hZb 0; have f1 := blk_free hZb 1; have f2 := blk_free hZb 2; obtain ⟨va10, vb10, vc10, rfl⟩ := h10.sl)
      | (refine step_append0 rfl _ _ 39 4 i2 (.bool false) 1 Try.underlying39 hj hy0 hy1 hy2 rfl rfl _ rfl _ rfl xL (SlR.no hL'.out (HkP.out.trans_no (by (repeat (first | exact hkA14 | exact hkA10 | exact hkA6 | exact hkPZ | exact Keeps.refl noB wP | refine Keeps.drew ?_ | refine Keeps.alloc ?_ _))))) lL (by decide) wZ.heap.size (Keeps.size (F := noB) (w := wZ) (by (repeat (first | exact hkZ14 | exact hkZ10 | exact hkZ6 | exact Keeps.refl noB wZ | refine Keeps.drew ?_ | refine Keeps.alloc ?_ _)))) ?_; intro v14 w14 h14 k14; have hkA14 : Keeps noB wP w14 := Keeps.trans_no (by (repeat (first | exact hkA14 | exact hkA10 | exact hkA6 | exact hkPZ | exact Keeps.refl noB wP | refine Keeps.drew ?_ | refine Keeps.alloc ?_ _))) k14; have hk10_14 : Keeps noB w10 w14 := Keeps.trans_no (by (repeat (first | exact Keeps.refl noB w10 | refine Keeps.alloc ?_ _))) k14; have hZ := (Keeps.trans_no (F := noB) (by (repeat (first | exact hkZ14 | exact hkZ10 | exact hkZ6 | exact Keeps.refl noB wZ | refine Keeps.drew ?_ | refine Keeps.alloc ?_ _))) k14 : Keeps noB wZ w14); have hkZ14 := hZ; have hZb := hZ.blk HZ.out (noB_not _); have z0 := blk_cell hZb (i := 0) rfl; have z1 := blk_cell hZb (i := 1) rfl; have z2 := blk_cell hZb (i := 2) rfl; have f0 := blk_free hZb 0; have f1 := blk_free hZb 1; have f2 := blk_free hZb 2; obtain ⟨va14, vb14, vc14, rfl⟩ := h14.sl))
  all_goals
    go_wp2_with fail
    refine bodyPost_ret (results_cell_row (fn := Try.f32) Try.results32 _ _ (w.heap.size + 1) 41 _ (0, 0) _ rfl (heap_setCell_same _ _ _ _ (heap_setCell_same _ _ _ _ (heap_setCell_same _ _ _ _ hZb))) Try.underlying41 rfl (by kernel_rfl)) rfl ?_
    have hs1 := HSZ.out
    have hF : ∀ (u v x : Value), Keeps (oneB (w.heap.size + 1)) w14 (((w14.setCell ⟨w.heap.size + 1, 0, none⟩ u).setCell ⟨w.heap.size + 1, 1, none⟩ v).setCell ⟨w.heap.size + 1, 2, none⟩ x) := fun u v x => (((Keeps.refl _ _).set1 _ _).set1 _ _).set1 _ _
    have hno : ∀ k, wZ.heap.size ≤ k → k < w14.heap.size → ¬ oneB (w.heap.size + 1) k := fun k h1 _ h2 => by unfold oneB at h2; omega
    refine ⟨_, _, _, ⟨rfl, (HkP.out.trans_no hkA14).trans (hF _ _ _) (fun y hy h => by unfold oneB at h; omega)⟩, (((h6.no hk6_10).no hk10_14).keep (hF _ _ _) hno).lower (by omega), ((h10.no hk10_14).keep (hF _ _ _) (fun k h1 _ h2 => by unfold oneB at h2; omega)).lower (by omega), (h14.keep (hF _ _ _) hno).lower (by omega), fun e1 e2 y z h1 h2 => Nat.lt_of_lt_of_le (h6.own_lt e1 h1) (h10.own_le e2 h2)⟩
end Go.Proofs.Yteoafecdlnaecaa
