/- What the cells of the argument types are. Written by gen_rd.py off the translation. No condition. -/
import Derived.Test.YteoafecdlnaecaaArgs
namespace Go.Proofs.Yteoafecdlnaecaa
open Go.RowKit Go.Deep Go.WideShapes Go.ChangeShapes

theorem cells3 : Try.prog.cellsOf 3 = 1 := by kernel_rfl
theorem cells22 : Try.prog.cellsOf 22 = 1 := by kernel_rfl
theorem cells44 : Try.prog.cellsOf 44 = 3 := by kernel_rfl
theorem len3 {cs : List Value} (h : cs.length = 3) : ∃ c0 c1 c2, cs = [c0, c1, c2] := by
  match cs, h with
  | [c0, c1, c2], _ => exact ⟨_, _, _, rfl⟩
theorem rd44 {H : Type} {enc : TypeId × Value → H} {w : World} {base : Nat} {spare : Nat → Bool} {held : Bool} (cs : List Value) (n : Nat) (y : DataW H × List MemPlace)
  (h : DataW.trod enc Try.prog w base spare held n 44 cs = some y) : ∃ v0 v1 v2, cs = [v0, v1, v2] ∧ IsI v0 ∧ IsI v1 ∧ IsBy w v2 := by
  obtain ⟨hl, hf⟩ := open_struct Try.underlying44 h
  rw [cells44] at hl
  obtain ⟨c0, c1, c2, rfl⟩ := len3 hl
  obtain ⟨n0, y0, g0⟩ := hf 0 _ rfl
  simp [cells3] at g0
  obtain ⟨x0, e0, p0⟩ := trodI Try.underlying3 g0
  simp at e0; subst e0
  obtain ⟨n1, y1, g1⟩ := hf 1 _ rfl
  simp [cells3] at g1
  obtain ⟨x1, e1, p1⟩ := trodI Try.underlying3 g1
  simp at e1; subst e1
  obtain ⟨n2, y2, g2⟩ := hf 2 _ rfl
  simp [cells22] at g2
  obtain ⟨x2, e2, p2⟩ := trodBy Try.underlying22 Try.underlying5 (by kernel_rfl) g2
  simp at e2; subst e2
  exact ⟨_, _, _, rfl, p0, p1, p2⟩
end Go.Proofs.Yteoafecdlnaecaa
