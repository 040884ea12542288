/- The desk: its queue's and its table's calls, told of the desk. No condition. -/
import Derived.Test.YtlpimkmkcfbddaaDkP
namespace Go.Proofs.Ytlpimkmkcfbddaa
open Go.RowKit

section
variable {w : World} {D : Nat → Prop} {pd tb qp r : Nat} {s : Dp}
theorem DkD.cells (h : DkD w D pd tb qp r s) : w.cell? ⟨pd, 0, none⟩ = some (.pointer (some ⟨tb, 0, none⟩)) ∧ w.cell? ⟨pd, 1, none⟩ = some (.pointer (some ⟨qp, 0, none⟩)) := by
  obtain ⟨S, v, av, hA, _⟩ := h
  exact ⟨blk_cell hA.pt (i := 0) rfl, blk_cell hA.pt (i := 1) rfl⟩
theorem copies_d (h : DkD w D pd tb qp r s) (c p : Int) : Calls Try.prog 26 #[.pointer (some ⟨tb, 0, none⟩), .int .i64 c, .int .i64 p] w (Ret (.int .i64 (mv (s.T.copies c p))) w) := by
  obtain ⟨S, v, av, hA, _⟩ := h
  exact copies_c c p tb s.T w hA.tab
theorem own_d (h : DkD w D pd tb qp r s) (c p : Int) : Calls Try.prog 25 #[.pointer (some ⟨tb, 0, none⟩), .int .i64 c, .int .i64 p] w (Ret (.int .i64 (mv (s.T.owns c p))) w) := by
  obtain ⟨S, v, av, hA, _⟩ := h
  exact own_c c p tb s.T w hA.tab
theorem remove_d (h : DkD w D pd tb qp r s) (hl : s.ws.length ≤ 1000) (c : Int) : Calls Try.prog 50 #[.pointer (some ⟨qp, 0, none⟩), .int .i64 c] w
    (fun e w' => e = .returned (.bool (decide (0 ≤ ofW c s.ws))) ∧ ∃ D1, DkS w w' D D1 pd tb qp r { s with ws := rmW c s.ws }) := by
  obtain ⟨S, v, av, hA, hp, ht, hS, ha, hD⟩ := h
  refine (remove_k hA.q hA.f hl c).mono ?_
  rintro e w' ⟨⟨he, hk⟩, S', _, h2, v', hq, hf⟩
  exact ⟨he, DkD.queue hA hp ht hS ha hD hk hq hf h2⟩
theorem grantT_d (h : DkD w D pd tb qp r s) (c p m o : Int) : Calls Try.prog 22 #[.pointer (some ⟨tb, 0, none⟩), .int .i64 c, .int .i64 p, .int .i64 m, .int .i64 o] w
    (fun e w' => e = .returned (.bool (s.T.okG c p m o)) ∧ DkS w w' D D pd tb qp r { s with T := s.T.grant c p m o }) := by
  obtain ⟨S, v, av, hA, hp, ht, hS, ha, hD⟩ := h
  refine (grant_c c p m o tb s.T w hA.tab).mono ?_
  rintro e w' ⟨⟨he, hk⟩, hT⟩
  exact ⟨he, DkD.table hA hp ht hS ha hD hk hT⟩
end
end Go.Proofs.Ytlpimkmkcfbddaa
