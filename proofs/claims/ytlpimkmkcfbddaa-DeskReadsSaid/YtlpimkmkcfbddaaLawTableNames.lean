/- TableNames: who isn't there has nothing, and gets nothing: the law answers true. No condition. -/
import Derived.Test.YtlpimkmkcfbddaaTabAlive
namespace Go.Proofs.Ytlpimkmkcfbddaa
open Go.RowKit

theorem OwnI.slice {w : World} {B : Nat} {v : Value} {l : List Int} (h : OwnI w B v l) : ∃ a c, v = .slice a l.length c := by
  obtain ⟨_, h⟩ := h
  rcases h with ⟨rfl, h0⟩ | ⟨g, cap, cur, rfl, _⟩
  · exact ⟨none, 0, by rw [h0]⟩
  · exact ⟨_, _, rfl⟩

set_option maxRecDepth 100000 in
set_option maxHeartbeats 1000000 in
theorem tableNames_w (w : World) : Calls Try.prog 4 #[] w (RetK noB (.bool true) w) := by
  have e1 : TB.zero.okG 4 0 1 0 = false := by decide +kernel
  have e2 : (TB.zero.grant 4 0 1 0).okG 0 6 1 0 = false := by decide +kernel
  have e3 : ((TB.zero.grant 4 0 1 0).grant 0 6 1 0).okG 0 0 16 0 = false := by decide +kernel
  have e4 : (mv (((TB.zero.grant 4 0 1 0).grant 0 6 1 0).grant 0 0 16 0 |>.free 0 0) == 15) = true := by decide +kernel
  have e5 : (((TB.zero.grant 4 0 1 0).grant 0 6 1 0).grant 0 0 16 0 |>.free (-1) 0) = 0#4 := by decide +kernel
  have e6 : (((TB.zero.grant 4 0 1 0).grant 0 6 1 0).grant 0 0 16 0 |>.alone 0 0) = true := by decide +kernel
  have e7 : (((TB.zero.grant 4 0 1 0).grant 0 6 1 0).grant 0 0 16 0 |>.alone 4 0) = false := by decide +kernel
  have e8 : (((TB.zero.grant 4 0 1 0).grant 0 6 1 0).grant 0 0 16 0 |>.holders 0 0 4 true) = [] := by decide +kernel
  go_enter Try.func4, Try.ntmps4
  go_wp2_with fail
  refine (new_c _).mono ?_
  rintro e w1 ⟨rfl, hk1, ht1⟩
  go_wp2_with fail
  refine (tableAlive_c _).mono ?_
  rintro e w1' ⟨rfl, hk1'⟩
  have ht1' := ht1.keep hk1' (noB_not _)
  go_wp2_with fail
  refine (grant_c _ _ _ _ _ _ _ ht1').mono ?_
  rintro e w2 ⟨⟨rfl, hk2⟩, ht2⟩
  go_wp2_with fail
  refine (grant_c _ _ _ _ _ _ _ ht2).mono ?_
  rintro e w3 ⟨⟨rfl, hk3⟩, ht3⟩
  go_wp2_with fail
  refine (grant_c _ _ _ _ _ _ _ ht3).mono ?_
  rintro e w4 ⟨⟨rfl, hk4⟩, ht4⟩
  go_wp2_with fail
  refine (free_c _ _ _ _ _ ht4).mono ?_
  rintro e w5 ⟨rfl, hk5⟩
  have ht5 := ht4.keep hk5 (noB_not _)
  go_wp2_with fail
  refine (free_c _ _ _ _ _ ht5).mono ?_
  rintro e w6 ⟨rfl, hk6⟩
  have ht6 := ht5.keep hk6 (noB_not _)
  go_wp2_with fail
  refine (alone_c _ _ _ _ _ ht6).mono ?_
  rintro e w7 ⟨rfl, hk7⟩
  have ht7 := ht6.keep hk7 (noB_not _)
  go_wp2_with fail
  refine (alone_c _ _ _ _ _ ht7).mono ?_
  rintro e w8 ⟨rfl, hk8⟩
  have ht8 := ht7.keep hk8 (noB_not _)
  go_wp2_with fail
  refine (holders_c _ _ _ _ _ _ _ ht8).mono ?_
  rintro e w9 ⟨v, ⟨rfl, hk9⟩, hown⟩
  rw [e8] at hown
  obtain ⟨a, c, rfl⟩ := hown.slice
  go_wp2_with fail
  go_ret
  refine ⟨rfl, ?_⟩
  have hb : ∀ b, b < w.heap.size → oneB w.heap.size b → noB b := fun b hb h => by unfold oneB at h; omega
  exact ((((((((((hk1.trans_no hk1').trans hk2 hb).trans hk3 hb).trans hk4 hb).trans_no hk5).trans_no hk6).trans_no hk7).trans_no hk8).trans_no hk9))
end Go.Proofs.Ytlpimkmkcfbddaa
