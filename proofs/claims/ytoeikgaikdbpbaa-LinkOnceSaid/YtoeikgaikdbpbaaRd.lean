/- What the cells of the argument types are. Written by gen_rd.py off the translation. No condition. -/
import Derived.Test.YtoeikgaikdbpbaaArgsS
namespace Go.Proofs.Ytoeikgaikdbpbaa
open Go.RowKit Go.Deep Go.WideShapes Go.ChangeShapes

theorem cells3 : Try.prog.cellsOf 3 = 1 := by kernel_rfl
theorem cells4 : Try.prog.cellsOf 4 = 1 := by kernel_rfl
theorem cells22 : Try.prog.cellsOf 22 = 1 := by kernel_rfl
theorem cells24 : Try.prog.cellsOf 24 = 7 := by kernel_rfl
theorem rdS24 {H : Type} {enc : TypeId × Value → H} {w : World} {base : Nat} {spare : Nat → Bool} {held : Bool} (cs : List Value) (n : Nat) (y : DataW H × List MemPlace)
    (h : DataW.trod enc Try.prog w base spare held n 24 cs = some y) (hz : Sz Try.prog 24 y.1) : ∃ v0 v1 v2 v3 v4 v5 v6, cs = [v0, v1, v2, v3, v4, v5, v6] ∧ IsI v0 ∧ IsI v1 ∧ IsI v2 ∧ IsI v3 ∧ IsI v4 ∧ IsB v5 ∧ IsByS w v6 := by
  obtain ⟨hl, hf⟩ := open_structS Try.underlying24 h hz
  rw [cells24] at hl
  match cs, hl with
  | [c0, c1, c2, c3, c4, c5, c6], _ =>
    obtain ⟨n0, y0, g0, _⟩ := hf 0 _ rfl
    simp [cells3] at g0
    obtain ⟨x0, e0, p0⟩ := trodI Try.underlying3 g0
    simp at e0; subst e0
    obtain ⟨n1, y1, g1, _⟩ := hf 1 _ rfl
    simp [cells3] at g1
    obtain ⟨x1, e1, p1⟩ := trodI Try.underlying3 g1
    simp at e1; subst e1
    obtain ⟨n2, y2, g2, _⟩ := hf 2 _ rfl
    simp [cells3] at g2
    obtain ⟨x2, e2, p2⟩ := trodI Try.underlying3 g2
    simp at e2; subst e2
    obtain ⟨n3, y3, g3, _⟩ := hf 3 _ rfl
    simp [cells3] at g3
    obtain ⟨x3, e3, p3⟩ := trodI Try.underlying3 g3
    simp at e3; subst e3
    obtain ⟨n4, y4, g4, _⟩ := hf 4 _ rfl
    simp [cells3] at g4
    obtain ⟨x4, e4, p4⟩ := trodI Try.underlying3 g4
    simp at e4; subst e4
    obtain ⟨n5, y5, g5, _⟩ := hf 5 _ rfl
    simp [cells4] at g5
    obtain ⟨x5, e5, p5⟩ := trodB Try.underlying4 g5
    simp at e5; subst e5
    obtain ⟨n6, y6, g6, z6⟩ := hf 6 _ rfl
    simp [cells22] at g6
    obtain ⟨x6, e6, p6⟩ := trodByS Try.underlying22 Try.underlying5 (by kernel_rfl) (by kernel_rfl) g6 z6
    simp at e6; subst e6
    exact ⟨_, _, _, _, _, _, _, rfl, p0, p1, p2, p3, p4, p5, p6⟩
theorem cells33 : Try.prog.cellsOf 33 = 3 := by kernel_rfl
theorem rdS33 {H : Type} {enc : TypeId × Value → H} {w : World} {base : Nat} {spare : Nat → Bool} {held : Bool} (cs : List Value) (n : Nat) (y : DataW H × List MemPlace)
    (h : DataW.trod enc Try.prog w base spare held n 33 cs = some y) (hz : Sz Try.prog 33 y.1) : ∃ v0 v1 v2, cs = [v0, v1, v2] ∧ IsI v0 ∧ IsI v1 ∧ IsByS w v2 := by
  obtain ⟨hl, hf⟩ := open_structS Try.underlying33 h hz
  rw [cells33] at hl
  match cs, hl with
  | [c0, c1, c2], _ =>
    obtain ⟨n0, y0, g0, _⟩ := hf 0 _ rfl
    simp [cells3] at g0
    obtain ⟨x0, e0, p0⟩ := trodI Try.underlying3 g0
    simp at e0; subst e0
    obtain ⟨n1, y1, g1, _⟩ := hf 1 _ rfl
    simp [cells3] at g1
    obtain ⟨x1, e1, p1⟩ := trodI Try.underlying3 g1
    simp at e1; subst e1
    obtain ⟨n2, y2, g2, z2⟩ := hf 2 _ rfl
    simp [cells22] at g2
    obtain ⟨x2, e2, p2⟩ := trodByS Try.underlying22 Try.underlying5 (by kernel_rfl) (by kernel_rfl) g2 z2
    simp at e2; subst e2
    exact ⟨_, _, _, rfl, p0, p1, p2⟩
theorem cells34 : Try.prog.cellsOf 34 = 3 := by kernel_rfl
theorem rdS34 {H : Type} {enc : TypeId × Value → H} {w : World} {base : Nat} {spare : Nat → Bool} {held : Bool} (cs : List Value) (n : Nat) (y : DataW H × List MemPlace)
    (h : DataW.trod enc Try.prog w base spare held n 34 cs = some y) (hz : Sz Try.prog 34 y.1) : ∃ v0 v1 v2, cs = [v0, v1, v2] ∧ IsI v0 ∧ IsI v1 ∧ IsByS w v2 := by
  obtain ⟨hl, hf⟩ := open_structS Try.underlying34 h hz
  rw [cells34] at hl
  match cs, hl with
  | [c0, c1, c2], _ =>
    obtain ⟨n0, y0, g0, _⟩ := hf 0 _ rfl
    simp [cells3] at g0
    obtain ⟨x0, e0, p0⟩ := trodI Try.underlying3 g0
    simp at e0; subst e0
    obtain ⟨n1, y1, g1, _⟩ := hf 1 _ rfl
    simp [cells3] at g1
    obtain ⟨x1, e1, p1⟩ := trodI Try.underlying3 g1
    simp at e1; subst e1
    obtain ⟨n2, y2, g2, z2⟩ := hf 2 _ rfl
    simp [cells22] at g2
    obtain ⟨x2, e2, p2⟩ := trodByS Try.underlying22 Try.underlying5 (by kernel_rfl) (by kernel_rfl) g2 z2
    simp at e2; subst e2
    exact ⟨_, _, _, rfl, p0, p1, p2⟩
theorem cells48 : Try.prog.cellsOf 48 = 9 := by kernel_rfl
theorem rdS48 {H : Type} {enc : TypeId × Value → H} {w : World} {base : Nat} {spare : Nat → Bool} {held : Bool} (cs : List Value) (n : Nat) (y : DataW H × List MemPlace)
    (h : DataW.trod enc Try.prog w base spare held n 48 cs = some y) (hz : Sz Try.prog 48 y.1) : ∃ v0 v1 v2 v3 v4 v5 v6 v7 v8, cs = [v0, v1, v2, v3, v4, v5, v6, v7, v8] ∧ IsI v0 ∧ IsByS w v1 ∧ IsI v2 ∧ IsI v3 ∧ IsI v4 ∧ IsI v5 ∧ IsI v6 ∧ IsB v7 ∧ IsByS w v8 := by
  obtain ⟨hl, hf⟩ := open_structS Try.underlying48 h hz
  rw [cells48] at hl
  match cs, hl with
  | [c0, c1, c2, c3, c4, c5, c6, c7, c8], _ =>
    obtain ⟨n0, y0, g0, _⟩ := hf 0 _ rfl
    simp [cells3] at g0
    obtain ⟨x0, e0, p0⟩ := trodI Try.underlying3 g0
    simp at e0; subst e0
    obtain ⟨n1, y1, g1, z1⟩ := hf 1 _ rfl
    simp [cells22] at g1
    obtain ⟨x1, e1, p1⟩ := trodByS Try.underlying22 Try.underlying5 (by kernel_rfl) (by kernel_rfl) g1 z1
    simp at e1; subst e1
    obtain ⟨n2, y2, g2, z2⟩ := hf 2 _ rfl
    simp [cells24] at g2
    obtain ⟨x2, x3, x4, x5, x6, x7, x8, e2, p2, p3, p4, p5, p6, p7, p8⟩ := rdS24 _ _ _ g2 z2
    simp at e2; obtain ⟨rfl, rfl, rfl, rfl, rfl, rfl, rfl⟩ := e2
    exact ⟨_, _, _, _, _, _, _, _, _, rfl, p0, p1, p2, p3, p4, p5, p6, p7, p8⟩
theorem cells49 : Try.prog.cellsOf 49 = 9 := by kernel_rfl
theorem rdS49 {H : Type} {enc : TypeId × Value → H} {w : World} {base : Nat} {spare : Nat → Bool} {held : Bool} (cs : List Value) (n : Nat) (y : DataW H × List MemPlace)
    (h : DataW.trod enc Try.prog w base spare held n 49 cs = some y) (hz : Sz Try.prog 49 y.1) : ∃ v0 v1 v2 v3 v4 v5 v6 v7 v8, cs = [v0, v1, v2, v3, v4, v5, v6, v7, v8] ∧ IsI v0 ∧ IsByS w v1 ∧ IsI v2 ∧ IsI v3 ∧ IsI v4 ∧ IsI v5 ∧ IsI v6 ∧ IsB v7 ∧ IsByS w v8 := by
  obtain ⟨hl, hf⟩ := open_structS Try.underlying49 h hz
  rw [cells49] at hl
  match cs, hl with
  | [c0, c1, c2, c3, c4, c5, c6, c7, c8], _ =>
    obtain ⟨n0, y0, g0, _⟩ := hf 0 _ rfl
    simp [cells3] at g0
    obtain ⟨x0, e0, p0⟩ := trodI Try.underlying3 g0
    simp at e0; subst e0
    obtain ⟨n1, y1, g1, z1⟩ := hf 1 _ rfl
    simp [cells22] at g1
    obtain ⟨x1, e1, p1⟩ := trodByS Try.underlying22 Try.underlying5 (by kernel_rfl) (by kernel_rfl) g1 z1
    simp at e1; subst e1
    obtain ⟨n2, y2, g2, z2⟩ := hf 2 _ rfl
    simp [cells24] at g2
    obtain ⟨x2, x3, x4, x5, x6, x7, x8, e2, p2, p3, p4, p5, p6, p7, p8⟩ := rdS24 _ _ _ g2 z2
    simp at e2; obtain ⟨rfl, rfl, rfl, rfl, rfl, rfl, rfl⟩ := e2
    exact ⟨_, _, _, _, _, _, _, _, _, rfl, p0, p1, p2, p3, p4, p5, p6, p7, p8⟩
end Go.Proofs.Ytoeikgaikdbpbaa
