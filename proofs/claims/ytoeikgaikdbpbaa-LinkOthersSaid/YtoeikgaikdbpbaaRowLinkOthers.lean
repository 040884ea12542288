/- The row of LinkOthers over its walk: for every input the law returns true, and each argument reads behind the call as it read before. -/
import Derived.Test.YtoeikgaikdbpbaaRows
import Derived.Test.YtoeikgaikdbpbaaLawLinkOthers
import Derived.Test.YtoeikgaikdbpbaaRd
import Derived.WalkKit
import Derived.ProofKit
import Derived.OpenShut
import Derived.ShutString
import Derived.ChangeOld
import Derived.Below
import Derived.SizedLaws
namespace Go.Proofs.Ytoeikgaikdbpbaa.linkOthers
open Go.ChangeShapes Go.WideShapes Go.ChangeAt Go.RowKit
set_option linter.unusedVariables false

theorem own : ownKnob Try.prog.godebug = none := by kernel_rfl
theorem laidOut : laidOutB Try.prog = true := by kernel_rfl
set_option maxRecDepth 100000 in
theorem lifted (os : Os) (started : os.Started) (H : Type) (enc : TypeId × Value → H) :
    ReturnsInHanded {} Try.checked os 5 .any (Rows.linkOthersSpec.pre6 enc Try.prog Try.f5 Rows.linkOthersRow.domain false) (Rows.linkOthersSpec.post enc Try.prog Try.f5 false true false false) := by
  refine returnsInHanded_of_change_sized (C := Try.checked) own started (by kernel_rfl) Try.func5
    (ChangeSpec.witness6 (enc := enc) (C := Try.checked) false ⟨#[], #[.agg #[.int .i64 0, .int .i64 0, .int .i64 0, .int .i64 0, .int .i64 0, .bool false, .slice none 0 0], .slice none 0 0, .agg #[.int .i64 0, .int .i64 0, .int .i64 0, .int .i64 0, .int .i64 0, .bool false, .slice none 0 0]], []⟩ 8 (by kernel_rfl) (by kernel_rfl) (by kernel_rfl) (by kernel_rfl)) ?_
  intro W base args ds gs before hval0 hW hcnd hsz0 _
  have hsz : (DataW.weightsEach Try.prog (Try.f5.params.toList ++ Rows.linkOthersSpec.plain.varTypes Try.prog) (ds ++ gs)).all (· ≤ reachBytes) = true := hsz0
  rw [Try.params5] at hsz
  have hval : ∀ (j : Nat) t v, Try.f5.params[j]? = some t → args[j]? = some v → Value.okWide Try.prog W .any base t v := hval0
  have hW' := hW
  obtain ⟨p, q, hA0, hV, rfl, hfz, hnd⟩ := hW
  have hA : DataW.TrodAll enc Try.prog W 0 (fun _ => true) true Try.f5.params.toList args.toList ds p := hA0
  rw [Try.params5] at hA hval
  obtain ⟨v0, vs0, d0, ds0, p0, q0, hargs, rfl, rfl, h0, r0⟩ := trodAll_cons hA
  obtain ⟨v1, vs1, d1, ds1, p1, q1, rfl, rfl, rfl, h1, r1⟩ := trodAll_cons r0
  obtain ⟨v2, vs2, d2, ds2, p2, q2, rfl, rfl, rfl, h2, r2⟩ := trodAll_cons r1
  obtain ⟨rfl, rfl, rfl⟩ := trodAll_nil r2
  obtain rfl : args = #[v0, v1, v2] := by cases args; simp_all
  obtain ⟨rfl, rfl⟩ := trodVars_none hV
  have k0 := h0
  have lt0 : ∀ x ∈ p0, x.block < W.heap.size := by obtain ⟨m, hm⟩ := k0; exact DataW.trod_lt m _ _ _ hm
  obtain ⟨cs0, e0, hs0, _⟩ : ∃ cs, v0 = .agg cs ∧ cs.size = Try.prog.cellsOf 24 ∧ Row.okWide Try.prog W .any base 24 cs := by
    have := (hval 0 24 v0 rfl rfl)
    unfold Value.okWide at this
    rw [Try.underlying24] at this
    exact this
  subst e0
  obtain ⟨fu0, hf0⟩ := h0
  obtain ⟨x0_0, x0_1, x0_2, x0_3, x0_4, x0_5, x0_6, ec0, q0_0, q0_1, q0_2, q0_3, q0_4, q0_5, q0_6⟩ := rdS24 _ _ _ hf0 (Sz.arg hsz (j := 0) rfl rfl)
  obtain rfl : cs0 = #[x0_0, x0_1, x0_2, x0_3, x0_4, x0_5, x0_6] := by apply Array.toList_inj.1; simpa [Value.cells] using ec0
  have k1 := h1
  have lt1 : ∀ x ∈ p1, x.block < W.heap.size := by obtain ⟨m, hm⟩ := k1; exact DataW.trod_lt m _ _ _ hm
  obtain ⟨a1, len1, cap1, e1⟩ := okWide_slice Try.underlying42 (hval 1 42 v1 rfl rfl)
  subst e1
  obtain ⟨fu1, hf1⟩ := h1
  obtain ⟨lc1, cm1, _, g1, hr1, hq1⟩ := open_rowsQS Try.underlying42 cells22 (by omega) (Sz.arg hsz (j := 1) rfl rfl) (fun f => IsByS W (f 0)) (fun cs n y hy hyz => by
    obtain ⟨v, rfl, hv⟩ := trodByS Try.underlying22 Try.underlying5 (by kernel_rfl) (by kernel_rfl) hy hyz
    exact hv) hf1
  have k2 := h2
  have lt2 : ∀ x ∈ p2, x.block < W.heap.size := by obtain ⟨m, hm⟩ := k2; exact DataW.trod_lt m _ _ _ hm
  obtain ⟨cs2, e2, hs2, _⟩ : ∃ cs, v2 = .agg cs ∧ cs.size = Try.prog.cellsOf 24 ∧ Row.okWide Try.prog W .any base 24 cs := by
    have := (hval 2 24 v2 rfl rfl)
    unfold Value.okWide at this
    rw [Try.underlying24] at this
    exact this
  subst e2
  obtain ⟨fu2, hf2⟩ := h2
  obtain ⟨x2_0, x2_1, x2_2, x2_3, x2_4, x2_5, x2_6, ec2, q2_0, q2_1, q2_2, q2_3, q2_4, q2_5, q2_6⟩ := rdS24 _ _ _ hf2 (Sz.arg hsz (j := 2) rfl rfl)
  obtain rfl : cs2 = #[x2_0, x2_1, x2_2, x2_3, x2_4, x2_5, x2_6] := by apply Array.toList_inj.1; simpa [Value.cells] using ec2
  clear hA0 hval0
  refine (linkOthers_w x0_0 x0_1 x0_2 x0_3 x0_4 x0_5 x0_6 a1 len1 cap1 g1 x2_0 x2_1 x2_2 x2_3 x2_4 x2_5 x2_6 W q0_0 q0_1 q0_2 q0_3 q0_4 q0_5 q0_6 (Nat.le_trans lc1 cm1) hr1 hq1 q2_0 q2_1 q2_2 q2_3 q2_4 q2_5 q2_6).mono fun e W' ⟨he, hkp⟩ => ?_
  subst he
  have bel : Below W.heap.size W W' := hkp.below (Nat.le_refl _) (fun b _ h => h.elim)
  exact ⟨_, rfl, _, _, _, [], _, [], hW', trodAll_mk1 (shut_bool Try.underlying4 _), (trodAll_cons_mk (Below.trod laidOut (by kernel_rfl) (of_decide_eq_true (by kernel_rfl)) k0 bel lt0) (trodAll_cons_mk (Below.trod laidOut (by kernel_rfl) (of_decide_eq_true (by kernel_rfl)) k1 bel lt1) (trodAll_cons_mk (Below.trod laidOut (by kernel_rfl) (of_decide_eq_true (by kernel_rfl)) k2 bel lt2) trodAll_mk0))), rfl, bel.frame _, fun h => by cases h⟩

theorem over : Rows.linkOthersRow.holds Try.pinned (OpenSpec.ofChange Rows.linkOthersSpec) :=
  OpenClaim.holds_of_wide 5 Try.f5 rfl rfl rfl rfl rfl rfl rfl ⟨rfl, rfl, rfl, rfl, rfl⟩ rfl rfl rfl rfl rfl (by kernel_rfl) Try.func5 (by kernel_rfl)
    (of_decide_eq_true (by kernel_rfl)) (by unfold Func.isWrapper; first | (rw [if_pos (by decide +kernel)]; kernel_rfl) | (rw [if_neg (by decide +kernel)]; exact ⟨rfl, rfl⟩))
    (fun os started H enc _ => lifted os started H enc)
end Go.Proofs.Ytoeikgaikdbpbaa.linkOthers
namespace Go.Proofs.Ytoeikgaikdbpbaa
/-- The statement. -/
theorem linkOthers_holds : Rows.LinkOthersSaid := linkOthers.over
#print axioms linkOthers_holds
end Go.Proofs.Ytoeikgaikdbpbaa
