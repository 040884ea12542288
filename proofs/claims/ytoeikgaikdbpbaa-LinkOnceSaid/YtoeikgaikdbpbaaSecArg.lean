/- Arguments that are bytes, told as the laws want them. No condition. -/
import Derived.Test.YtoeikgaikdbpbaaSecApp
import Derived.Test.YtoeikgaikdbpbaaArgsS
namespace Go.Proofs.Ytoeikgaikdbpbaa
open Go.RowKit

theorem IsBy.read {w : World} {v : Value} (h : IsBy w v) : ∃ (a : Option Addr) (l : List Int) (c : Nat), v = .slice a l.length c ∧ l.length ≤ 9223372036854775807 ∧ ByR w (fun x => x < w.heap.size) a l ∧ ∀ x ∈ l, 0 ≤ x ∧ x ≤ 255 := by
  obtain ⟨a, n, c, x, rfl, h1, h2, hr, hb⟩ := h
  unfold maxLen at h2
  refine ⟨a, (List.range n).map x, c, by simp, by simp; omega, fun k hk => ?_, fun y hy => ?_⟩
  · have hk' : k < n := by simpa using hk
    obtain ⟨b, off, ha, hlt, hc⟩ := hr k hk'
    refine ⟨b, off, ha, hlt, hlt, ?_⟩
    have := hc 0 (by omega)
    simpa using this
  · obtain ⟨k, hk, rfl⟩ := List.mem_map.1 hy
    exact hb k (by simpa using hk)
theorem IsByS.read {w : World} {v : Value} (h : IsByS w v) : ∃ (a : Option Addr) (l : List Int) (c : Nat), v = .slice a l.length c ∧ l.length ≤ 140737488351232 ∧ ByR w (fun x => x < w.heap.size) a l ∧ ∀ x ∈ l, 0 ≤ x ∧ x ≤ 255 := by
  obtain ⟨a, n, c, x, rfl, h1, h2, h3, hr, hb⟩ := h
  refine ⟨a, (List.range n).map x, c, by simp, by simpa [reachBytes] using h3, fun k hk => ?_, fun y hy => ?_⟩
  · have hk' : k < n := by simpa using hk
    obtain ⟨b, off, ha, hlt, hc⟩ := hr k hk'
    refine ⟨b, off, ha, hlt, hlt, ?_⟩
    have := hc 0 (by omega)
    simpa using this
  · obtain ⟨k, hk, rfl⟩ := List.mem_map.1 hy
    exact hb k (by simpa using hk)
def pick6 {α : Type} (a b c d e f : α) : Nat → α
  | 0 => a
  | 1 => b
  | 2 => c
  | 3 => d
  | 4 => e
  | _ => f
end Go.Proofs.Ytoeikgaikdbpbaa
