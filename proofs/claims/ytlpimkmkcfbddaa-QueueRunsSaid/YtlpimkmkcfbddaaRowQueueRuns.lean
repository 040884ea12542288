/- The row of QueueRuns over its walk: for every input the law returns true, and each argument reads behind the call as it read before. -/
import Derived.Test.YtlpimkmkcfbddaaRows
import Derived.Test.YtlpimkmkcfbddaaLawQueueRuns
import Derived.Test.YtlpimkmkcfbddaaRd
import Derived.WalkKit
import Derived.ProofKit
import Derived.OpenShut
import Derived.ShutString
import Derived.ChangeOld
import Derived.Below
import Derived.SizedLaws
namespace Go.Proofs.Ytlpimkmkcfbddaa.queueRuns
open Go.ChangeShapes Go.WideShapes Go.ChangeAt Go.RowKit
set_option linter.unusedVariables false

theorem own : ownKnob Try.prog.godebug = none := by kernel_rfl
theorem laidOut : laidOutB Try.prog = true := by kernel_rfl
set_option maxRecDepth 100000 in
theorem lifted (os : Os) (started : os.Started) (H : Type) (enc : TypeId × Value → H) :
    ReturnsInHanded {} Try.checked os 16 .any (Rows.queueRunsSpec.pre6 enc Try.prog Try.f16 Rows.queueRunsRow.domain false) (Rows.queueRunsSpec.post enc Try.prog Try.f16 false true false false) := by
  refine returnsInHanded_of_change (C := Try.checked) own started (by kernel_rfl) Try.func16
    (ChangeSpec.witness6 (enc := enc) (C := Try.checked) false ⟨#[], #[.slice none 0 0, .agg #[.int .i64 0, .int .i64 0, .int .i64 0, .int .i64 0, .int .i64 0, .bool false]], []⟩ 8 (by kernel_rfl) (by kernel_rfl) (by kernel_rfl) (by kernel_rfl)) ?_
  intro W base args ds gs before hval0 hW hcnd _
  have hval : ∀ (j : Nat) t v, Try.f16.params[j]? = some t → args[j]? = some v → Value.okWide Try.prog W .any base t v := hval0
  have hW' := hW
  obtain ⟨p, q, hA0, hV, rfl, hfz, hnd⟩ := hW
  have hA : DataW.TrodAll enc Try.prog W 0 (fun _ => true) true Try.f16.params.toList args.toList ds p := hA0
  rw [Try.params16] at hA hval
  obtain ⟨v0, vs0, d0, ds0, p0, q0, hargs, rfl, rfl, h0, r0⟩ := trodAll_cons hA
  obtain ⟨v1, vs1, d1, ds1, p1, q1, rfl, rfl, rfl, h1, r1⟩ := trodAll_cons r0
  obtain ⟨rfl, rfl, rfl⟩ := trodAll_nil r1
  obtain rfl : args = #[v0, v1] := by cases args; simp_all
  obtain ⟨rfl, rfl⟩ := trodVars_none hV
  have k0 := h0
  have lt0 : ∀ x ∈ p0, x.block < W.heap.size := by obtain ⟨m, hm⟩ := k0; exact DataW.trod_lt m _ _ _ hm
  obtain ⟨a0, len0, cap0, e0⟩ := okWide_slice Try.underlying80 (hval 0 80 v0 rfl rfl)
  subst e0
  obtain ⟨fu0, hf0⟩ := h0
  obtain ⟨lc0, cm0, g0, hr0, hq0⟩ := open_rowsQ Try.underlying80 cells82 (by omega) Q6 (fun cs n y hy => by
    obtain ⟨_, _, _, _, _, _, rfl, q0, q1, q2, q3, q4, q5⟩ := rd82 cs n y hy
    exact ⟨q0, q1, q2, q3, q4, q5⟩) hf0
  have k1 := h1
  have lt1 : ∀ x ∈ p1, x.block < W.heap.size := by obtain ⟨m, hm⟩ := k1; exact DataW.trod_lt m _ _ _ hm
  obtain ⟨cs1, e1, hs1, _⟩ : ∃ cs, v1 = .agg cs ∧ cs.size = Try.prog.cellsOf 82 ∧ Row.okWide Try.prog W .any base 82 cs := by
    have := (hval 1 82 v1 rfl rfl)
    unfold Value.okWide at this
    rw [Try.underlying82] at this
    exact this
  subst e1
  obtain ⟨fu1, hf1⟩ := h1
  obtain ⟨x1_0, x1_1, x1_2, x1_3, x1_4, x1_5, ec1, q1_0, q1_1, q1_2, q1_3, q1_4, q1_5⟩ := rd82 _ _ _ hf1
  obtain rfl : cs1 = #[x1_0, x1_1, x1_2, x1_3, x1_4, x1_5] := by apply Array.toList_inj.1; simpa [Value.cells] using ec1
  clear hA0 hval0
  refine (queueRuns_w a0 len0 cap0 g0 x1_0 x1_1 x1_2 x1_3 x1_4 x1_5 W (Nat.le_trans lc0 cm0) hr0 hq0 q1_0 q1_1 q1_2 q1_3 q1_4 q1_5).mono fun e W' ⟨he, hkp⟩ => ?_
  subst he
  have bel : Below W.heap.size W W' := hkp.below (Nat.le_refl _) (fun b _ h => h.elim)
  exact ⟨_, rfl, _, _, _, [], _, [], hW', trodAll_mk1 (shut_bool Try.underlying4 _), (trodAll_cons_mk (Below.trod laidOut (by kernel_rfl) (of_decide_eq_true (by kernel_rfl)) k0 bel lt0) (trodAll_cons_mk (Below.trod laidOut (by kernel_rfl) (of_decide_eq_true (by kernel_rfl)) k1 bel lt1) trodAll_mk0)), rfl, bel.frame _, fun h => by cases h⟩

theorem over : Rows.queueRunsRow.holds Try.pinned (OpenSpec.ofChange Rows.queueRunsSpec) :=
  OpenClaim.holds_of_wide 16 Try.f16 rfl rfl rfl rfl rfl rfl rfl ⟨rfl, rfl, rfl, rfl, rfl⟩ rfl rfl rfl rfl rfl (by kernel_rfl) Try.func16 (by kernel_rfl)
    (of_decide_eq_true (by kernel_rfl)) (by unfold Func.isWrapper; first | (rw [if_pos (by decide +kernel)]; kernel_rfl) | (rw [if_neg (by decide +kernel)]; exact ⟨rfl, rfl⟩))
    (fun os started H enc _ => lifted os started H enc)
end Go.Proofs.Ytlpimkmkcfbddaa.queueRuns
namespace Go.Proofs.Ytlpimkmkcfbddaa
/-- The statement. -/
theorem queueRuns_holds : Rows.QueueRunsSaid := queueRuns.over
#print axioms queueRuns_holds
end Go.Proofs.Ytlpimkmkcfbddaa
