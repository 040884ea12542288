/- What the cells of the argument types are. Written by gen_rd.py off the translation. No condition. -/
import Derived.Test.YtlpimkmkcfbddaaArgs
namespace Go.Proofs.Ytlpimkmkcfbddaa
open Go.RowKit Go.Deep Go.WideShapes Go.ChangeShapes

theorem cells3 : Try.prog.cellsOf 3 = 1 := by kernel_rfl
theorem cells27 : Try.prog.cellsOf 27 = 5 := by kernel_rfl
theorem len5 {cs : List Value} (h : cs.length = 5) : ∃ c0 c1 c2 c3 c4, cs = [c0, c1, c2, c3, c4] := by
  match cs, h with
  | [c0, c1, c2, c3, c4], _ => exact ⟨_, _, _, _, _, rfl⟩
theorem rd27 {H : Type} {enc : TypeId × Value → H} {w : World} {base : Nat} {spare : Nat → Bool} {held : Bool} (cs : List Value) (n : Nat) (y : DataW H × List MemPlace)
  (h : DataW.trod enc Try.prog w base spare held n 27 cs = some y) : ∃ v0 v1 v2 v3 v4, cs = [v0, v1, v2, v3, v4] ∧ IsI v0 ∧ IsI v1 ∧ IsI v2 ∧ IsI v3 ∧ IsI v4 := by
  obtain ⟨hl, hf⟩ := open_struct Try.underlying27 h
  rw [cells27] at hl
  obtain ⟨c0, c1, c2, c3, c4, rfl⟩ := len5 hl
  obtain ⟨n0, y0, g0⟩ := hf 0 _ rfl
  simp [cells3] at g0
  obtain ⟨x0, e0, p0⟩ := trodI Try.underlying3 g0
  simp at e0; subst e0
  obtain ⟨n1, y1, g1⟩ := hf 1 _ rfl
  simp [cells3] at g1
  obtain ⟨x1, e1, p1⟩ := trodI Try.underlying3 g1
  simp at e1; subst e1
  obtain ⟨n2, y2, g2⟩ := hf 2 _ rfl
  simp [cells3] at g2
  obtain ⟨x2, e2, p2⟩ := trodI Try.underlying3 g2
  simp at e2; subst e2
  obtain ⟨n3, y3, g3⟩ := hf 3 _ rfl
  simp [cells3] at g3
  obtain ⟨x3, e3, p3⟩ := trodI Try.underlying3 g3
  simp at e3; subst e3
  obtain ⟨n4, y4, g4⟩ := hf 4 _ rfl
  simp [cells3] at g4
  obtain ⟨x4, e4, p4⟩ := trodI Try.underlying3 g4
  simp at e4; subst e4
  exact ⟨_, _, _, _, _, rfl, p0, p1, p2, p3, p4⟩
theorem cells61 : Try.prog.cellsOf 61 = 2 := by kernel_rfl
theorem len2 {cs : List Value} (h : cs.length = 2) : ∃ c0 c1, cs = [c0, c1] := by
  match cs, h with
  | [c0, c1], _ => exact ⟨_, _, rfl⟩
theorem rd61 {H : Type} {enc : TypeId × Value → H} {w : World} {base : Nat} {spare : Nat → Bool} {held : Bool} (cs : List Value) (n : Nat) (y : DataW H × List MemPlace)
  (h : DataW.trod enc Try.prog w base spare held n 61 cs = some y) : ∃ v0 v1, cs = [v0, v1] ∧ IsI v0 ∧ IsI v1 := by
  obtain ⟨hl, hf⟩ := open_struct Try.underlying61 h
  rw [cells61] at hl
  obtain ⟨c0, c1, rfl⟩ := len2 hl
  obtain ⟨n0, y0, g0⟩ := hf 0 _ rfl
  simp [cells3] at g0
  obtain ⟨x0, e0, p0⟩ := trodI Try.underlying3 g0
  simp at e0; subst e0
  obtain ⟨n1, y1, g1⟩ := hf 1 _ rfl
  simp [cells3] at g1
  obtain ⟨x1, e1, p1⟩ := trodI Try.underlying3 g1
  simp at e1; subst e1
  exact ⟨_, _, rfl, p0, p1⟩
theorem cells4 : Try.prog.cellsOf 4 = 1 := by kernel_rfl
theorem cells73 : Try.prog.cellsOf 73 = 4 := by kernel_rfl
theorem len4 {cs : List Value} (h : cs.length = 4) : ∃ c0 c1 c2 c3, cs = [c0, c1, c2, c3] := by
  match cs, h with
  | [c0, c1, c2, c3], _ => exact ⟨_, _, _, _, rfl⟩
theorem rd73 {H : Type} {enc : TypeId × Value → H} {w : World} {base : Nat} {spare : Nat → Bool} {held : Bool} (cs : List Value) (n : Nat) (y : DataW H × List MemPlace)
  (h : DataW.trod enc Try.prog w base spare held n 73 cs = some y) : ∃ v0 v1 v2 v3, cs = [v0, v1, v2, v3] ∧ IsI v0 ∧ IsI v1 ∧ IsI v2 ∧ IsB v3 := by
  obtain ⟨hl, hf⟩ := open_struct Try.underlying73 h
  rw [cells73] at hl
  obtain ⟨c0, c1, c2, c3, rfl⟩ := len4 hl
  obtain ⟨n0, y0, g0⟩ := hf 0 _ rfl
  simp [cells3] at g0
  obtain ⟨x0, e0, p0⟩ := trodI Try.underlying3 g0
  simp at e0; subst e0
  obtain ⟨n1, y1, g1⟩ := hf 1 _ rfl
  simp [cells3] at g1
  obtain ⟨x1, e1, p1⟩ := trodI Try.underlying3 g1
  simp at e1; subst e1
  obtain ⟨n2, y2, g2⟩ := hf 2 _ rfl
  simp [cells3] at g2
  obtain ⟨x2, e2, p2⟩ := trodI Try.underlying3 g2
  simp at e2; subst e2
  obtain ⟨n3, y3, g3⟩ := hf 3 _ rfl
  simp [cells4] at g3
  obtain ⟨x3, e3, p3⟩ := trodB Try.underlying4 g3
  simp at e3; subst e3
  exact ⟨_, _, _, _, rfl, p0, p1, p2, p3⟩
theorem cells82 : Try.prog.cellsOf 82 = 6 := by kernel_rfl
theorem len6 {cs : List Value} (h : cs.length = 6) : ∃ c0 c1 c2 c3 c4 c5, cs = [c0, c1, c2, c3, c4, c5] := by
  match cs, h with
  | [c0, c1, c2, c3, c4, c5], _ => exact ⟨_, _, _, _, _, _, rfl⟩
theorem rd82 {H : Type} {enc : TypeId × Value → H} {w : World} {base : Nat} {spare : Nat → Bool} {held : Bool} (cs : List Value) (n : Nat) (y : DataW H × List MemPlace)
  (h : DataW.trod enc Try.prog w base spare held n 82 cs = some y) : ∃ v0 v1 v2 v3 v4 v5, cs = [v0, v1, v2, v3, v4, v5] ∧ IsI v0 ∧ IsI v1 ∧ IsI v2 ∧ IsI v3 ∧ IsI v4 ∧ IsB v5 := by
  obtain ⟨hl, hf⟩ := open_struct Try.underlying82 h
  rw [cells82] at hl
  obtain ⟨c0, c1, c2, c3, c4, c5, rfl⟩ := len6 hl
  obtain ⟨n0, y0, g0⟩ := hf 0 _ rfl
  simp [cells3] at g0
  obtain ⟨x0, e0, p0⟩ := trodI Try.underlying3 g0
  simp at e0; subst e0
  obtain ⟨n1, y1, g1⟩ := hf 1 _ rfl
  simp [cells3] at g1
  obtain ⟨x1, e1, p1⟩ := trodI Try.underlying3 g1
  simp at e1; subst e1
  obtain ⟨n2, y2, g2⟩ := hf 2 _ rfl
  simp [cells73] at g2
  obtain ⟨x2, x3, x4, x5, e2, p2, p3, p4, p5⟩ := rd73 _ _ _ g2
  simp at e2; obtain ⟨rfl, rfl, rfl, rfl⟩ := e2
  exact ⟨_, _, _, _, _, _, rfl, p0, p1, p2, p3, p4, p5⟩
theorem cells36 : Try.prog.cellsOf 36 = 2 := by kernel_rfl
theorem rd36 {H : Type} {enc : TypeId × Value → H} {w : World} {base : Nat} {spare : Nat → Bool} {held : Bool} (cs : List Value) (n : Nat) (y : DataW H × List MemPlace)
  (h : DataW.trod enc Try.prog w base spare held n 36 cs = some y) : ∃ v0 v1, cs = [v0, v1] ∧ IsI v0 ∧ IsI v1 := by
  obtain ⟨hl, hf⟩ := open_arr Try.underlying36 h
  rw [cells36] at hl
  obtain ⟨c0, c1, rfl⟩ := len2 hl
  obtain ⟨n0, y0, g0⟩ := hf 0 (by omega)
  simp [cells3] at g0
  obtain ⟨x0, e0, p0⟩ := trodI Try.underlying3 g0
  simp at e0; subst e0
  obtain ⟨n1, y1, g1⟩ := hf 1 (by omega)
  simp [cells3] at g1
  obtain ⟨x1, e1, p1⟩ := trodI Try.underlying3 g1
  simp at e1; subst e1
  exact ⟨_, _, rfl, p0, p1⟩
end Go.Proofs.Ytlpimkmkcfbddaa
