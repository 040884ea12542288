/- What the cells of the argument types are. Written by gen_rd.py off the translation. No condition. -/
import Derived.Test.YteoafecdlnaecaaArgsS
namespace Go.Proofs.Yteoafecdlnaecaa
open Go.RowKit Go.Deep Go.WideShapes Go.ChangeShapes

theorem cells22 : Try.prog.cellsOf 22 = 1 := by kernel_rfl
theorem cells32 : Try.prog.cellsOf 32 = 6 := by kernel_rfl
theorem rd32 {H : Type} {enc : TypeId × Value → H} {w : World} {base : Nat} {spare : Nat → Bool} {held : Bool} (cs : List Value) (n : Nat) (y : DataW H × List MemPlace)
    (h : DataW.trod enc Try.prog w base spare held n 32 cs = some y) : ∃ v0 v1 v2 v3 v4 v5, cs = [v0, v1, v2, v3, v4, v5] ∧ IsBy w v0 ∧ IsBy w v1 ∧ IsBy w v2 ∧ IsBy w v3 ∧ IsBy w v4 ∧ IsBy w v5 := by
  obtain ⟨hl, hf⟩ := open_arr Try.underlying32 h
  rw [cells32] at hl
  match cs, hl with
  | [c0, c1, c2, c3, c4, c5], _ =>
    obtain ⟨n0, y0, g0⟩ := hf 0 (by omega)
    simp [cells22] at g0
    obtain ⟨x0, e0, p0⟩ := trodBy Try.underlying22 Try.underlying5 (by kernel_rfl) g0
    simp at e0; subst e0
    obtain ⟨n1, y1, g1⟩ := hf 1 (by omega)
    simp [cells22] at g1
    obtain ⟨x1, e1, p1⟩ := trodBy Try.underlying22 Try.underlying5 (by kernel_rfl) g1
    simp at e1; subst e1
    obtain ⟨n2, y2, g2⟩ := hf 2 (by omega)
    simp [cells22] at g2
    obtain ⟨x2, e2, p2⟩ := trodBy Try.underlying22 Try.underlying5 (by kernel_rfl) g2
    simp at e2; subst e2
    obtain ⟨n3, y3, g3⟩ := hf 3 (by omega)
    simp [cells22] at g3
    obtain ⟨x3, e3, p3⟩ := trodBy Try.underlying22 Try.underlying5 (by kernel_rfl) g3
    simp at e3; subst e3
    obtain ⟨n4, y4, g4⟩ := hf 4 (by omega)
    simp [cells22] at g4
    obtain ⟨x4, e4, p4⟩ := trodBy Try.underlying22 Try.underlying5 (by kernel_rfl) g4
    simp at e4; subst e4
    obtain ⟨n5, y5, g5⟩ := hf 5 (by omega)
    simp [cells22] at g5
    obtain ⟨x5, e5, p5⟩ := trodBy Try.underlying22 Try.underlying5 (by kernel_rfl) g5
    simp at e5; subst e5
    exact ⟨_, _, _, _, _, _, rfl, p0, p1, p2, p3, p4, p5⟩
theorem cells3 : Try.prog.cellsOf 3 = 1 := by kernel_rfl
theorem cells44 : Try.prog.cellsOf 44 = 3 := by kernel_rfl
theorem rdS44 {H : Type} {enc : TypeId × Value → H} {w : World} {base : Nat} {spare : Nat → Bool} {held : Bool} (cs : List Value) (n : Nat) (y : DataW H × List MemPlace)
    (h : DataW.trod enc Try.prog w base spare held n 44 cs = some y) (hz : Sz Try.prog 44 y.1) : ∃ v0 v1 v2, cs = [v0, v1, v2] ∧ IsI v0 ∧ IsI v1 ∧ IsByS w v2 := by
  obtain ⟨hl, hf⟩ := open_structS Try.underlying44 h hz
  rw [cells44] at hl
  match cs, hl with
  | [c0, c1, c2], _ =>
    obtain ⟨n0, y0, g0, _⟩ := hf 0 _ rfl
    simp [cells3] at g0
    obtain ⟨x0, e0, p0⟩ := trodI Try.underlying3 g0
    simp at e0; subst e0
    obtain ⟨n1, y1, g1, _⟩ := hf 1 _ rfl
    simp [cells3] at g1
    obtain ⟨x1, e1, p1⟩ := trodI Try.underlying3 g1
    simp at e1; subst e1
    obtain ⟨n2, y2, g2, z2⟩ := hf 2 _ rfl
    simp [cells22] at g2
    obtain ⟨x2, e2, p2⟩ := trodByS Try.underlying22 Try.underlying5 (by kernel_rfl) (by kernel_rfl) g2 z2
    simp at e2; subst e2
    exact ⟨_, _, _, rfl, p0, p1, p2⟩
end Go.Proofs.Yteoafecdlnaecaa
