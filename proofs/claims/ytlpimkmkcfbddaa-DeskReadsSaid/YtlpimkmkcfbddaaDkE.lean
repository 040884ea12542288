/- The desk: something is to be told. No condition. -/
import Derived.Test.YtlpimkmkcfbddaaDkD
import Derived.Test.YtlpimkmkcfbddaaDkOrd
namespace Go.Proofs.Ytlpimkmkcfbddaa
open Go.RowKit

theorem step_append_run {w : World} {ops : Array Oper} {o : Oper} {a : Act} {K : Act → World → Prop} {Q : Exit → Act → World → Prop} {E : Prop} (hg : o.guard = none) (s x : Operand) (t ty : TypeId)
    (ho : o.op = Op.call { callee := Callee.builtin Builtin.append, args := #[s, x], argTypes := #[t, t] }) (hty : o.type = ty) (v u : Value) (hv : a.eval s = v) (hx : a.eval x = u) (v' : Value) (w' : World)
    (hr : (Builtin.append_ #[t, t] ty #[v, u]).run Try.prog w = .ok v' w') (h : K (a.put o.dst v') w') : if Region.wanted o (yielded ops a.tmps) = true then Oper.wp Try.prog o a w K Q else E := by
  have hw : Region.wanted o (yielded ops a.tmps) = true := by simp [Region.wanted, hg]
  rw [if_pos hw]
  unfold Oper.wp execOp
  simp only [ho, hty, resolve, invoke, builtin, Sem.run_bind, Sem.run_pure, Result.andThen_ok, List.map_toArray, List.map_cons, List.map_nil, hv, hx, hr]
  exact h
/-- A message's cells. -/
def mcells (x : Ac) : Array Value := #[.int .i64 x.kind, .int .i64 x.page, .int .i64 x.obj, .int .i64 0, .int .i64 x.copy, .int .i64 x.own, .bool x.wr, .slice none 0 0, cz, cz, cz, cz]
theorem acells_one (x : Ac) : ∀ u ∈ acells x, u.oneCell' = true := by
  intro u hu
  simp [acells] at hu
  rcases hu with rfl | rfl | rfl | rfl | rfl | rfl | rfl | rfl | rfl | rfl | rfl | rfl | rfl <;> rfl
theorem src_ac {w : World} {g : Nat} {x : Ac} (h : w.heap[g]? = some (.cells (acells x).toArray 112 (0, 0))) : SrcR w (.slice (some ⟨g, 0, none⟩) 1 1) 112 13 1 (acells x) :=
  .inr ⟨g, 0, 1, _, _, rfl, h, rfl, fun j hj => by rw [Nat.zero_add, List.getElem?_toArray]⟩
/-- The acts' append, run. -/
theorem run_append_ac {w : World} {B n : Nat} {v : Value} {xs : List Value} (hown : w.ownsRow B 112 13 v n xs) {g : Nat} {x : Ac} (h : w.heap[g]? = some (.cells (acells x).toArray 112 (0, 0))) (hn : n ≤ 10000) (hB : B ≤ w.heap.size) :
    ∃ v' w', (Builtin.append_ #[109, 109] 109 #[v, .slice (some ⟨g, 0, none⟩) 1 1]).run Try.prog w = .ok v' w' ∧ w'.ownsRow B 112 13 v' (n + 1) (xs ++ acells x) ∧ w.grownBy w' v.ownBlock ∧ (v'.ownBlock = v.ownBlock ∨ v'.ownBlock = some w.heap.size) := by
  obtain ⟨i1, hi, hz0, hz1, hz2⟩ := info_parts info112
  exact run_append_src 109 109 112 i1 _ 13 152 Try.underlying109 hi hz0 hz1 hz2 rfl (by decide) hown (src_ac h) (acells_one x) (by omega) (by omega) hB
end Go.Proofs.Ytlpimkmkcfbddaa
