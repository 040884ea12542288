/- Once, in order: the code of the switch. No condition. -/
import Derived.Test.YtoeikgaikdbpbaaLkOnS
import Derived.Test.YtoeikgaikdbpbaaLkOrd
namespace Go.Proofs.Ytoeikgaikdbpbaa
open Go.RowKit

def findB (n : Nat) : Code → Option Code
  | .block m c => if m = n then some (.block m c) else findB n c
  | .seq a b => match findB n a with
    | some c => some c
    | none => findB n b
  | .loop c => findB n c
  | .scope c => findB n c
  | .cond _ a b => match findB n a with
    | some c => some c
    | none => findB n b
  | _ => none
/-- 'append(way, packets...)' by its run. -/
theorem wpList_append_way {w : World} {ops : Array Oper} {rest : List Oper} {o : Oper} {a : Act} {Q : Exit → Act → World → Prop} (hg : o.guard = none) (s x : Operand)
    (ho : o.op = Op.call { callee := Callee.builtin Builtin.append, args := #[s, x], argTypes := #[32, 32] }) (hty : o.type = 32) (v u : Value) (hv : a.eval s = v) (hx : a.eval x = u) (v' : Value) (w' : World)
    (hr : (Builtin.append_ #[32, 32] 32 #[v, u]).run Try.prog w = .ok v' w') (h : wpList Try.prog ops Q rest (a.put o.dst v') w') : wpList Try.prog ops Q (o :: rest) a w := by
  refine wpList_plain hg fun K hK => ?_
  unfold Oper.wp execOp
  simp only [ho, hty, resolve, invoke, builtin, Sem.run_bind, Sem.run_pure, Result.andThen_ok, List.map_toArray, List.map_cons, List.map_nil, hv, hx, hr]
  exact hK _ _ h
noncomputable def swC : Code := ((Try.f3.body.bind (findB 2)).getD .skip)
end Go.Proofs.Ytoeikgaikdbpbaa
