/- The chapter's example of package table answers true. No condition. -/
import Derived.Test.YtlpimkmkcfbddaaTab
namespace Go.Proofs.Ytlpimkmkcfbddaa
open Go.RowKit

theorem eql_ptr_nil (a : Addr) (w : World) : (binOp .eql 24 (.pointer (some a)) (.pointer none)).run Try.prog w = .ok (.bool false) w := by kernel_rfl

set_option maxRecDepth 100000 in
set_option maxHeartbeats 1000000 in
theorem tableAlive_c (w : World) : Calls Try.prog 20 #[] w (RetK noB (.bool true) w) := by
  have e1 : TB.zero.okG 0 2 2 0 = true := by decide +kernel
  have e2 : (TB.zero.grant 0 2 2 0).okG 1 2 0 2 = false := by decide +kernel
  have e3 : ((TB.zero.grant 0 2 2 0).grant 1 2 0 2).okG 1 2 2 0 = true := by decide +kernel
  have e4 : ((((TB.zero.grant 0 2 2 0).grant 1 2 0 2).grant 1 2 2 0).drop 0 2 2 0).okG 1 2 0 2 = true := by decide +kernel
  have e5 : (mv (((((TB.zero.grant 0 2 2 0).grant 1 2 0 2).grant 1 2 2 0).drop 0 2 2 0).grant 1 2 0 2 |>.owns 1 2) == 2) = true := by decide +kernel
  have e6 : (((((TB.zero.grant 0 2 2 0).grant 1 2 0 2).grant 1 2 2 0).drop 0 2 2 0).grant 1 2 0 2).okG 0 2 2 0 = false := by decide +kernel
  have e7 : (mv ((((((TB.zero.grant 0 2 2 0).grant 1 2 0 2).grant 1 2 2 0).drop 0 2 2 0).grant 1 2 0 2).grant 0 2 2 0 |>.free 0 2) == 13) = true := by decide +kernel
  go_enter Try.func20, Try.ntmps20
  go_wp2_with fail
  refine (new_c _).mono ?_
  rintro e w1 ⟨rfl, hk1, ht1⟩
  go_wp2_with fail
  refine (grant_c _ _ _ _ _ _ _ ht1).mono ?_
  rintro e w2 ⟨⟨rfl, hk2⟩, ht2⟩
  go_wp2_with fail
  refine (grant_c _ _ _ _ _ _ _ ht2).mono ?_
  rintro e w3 ⟨⟨rfl, hk3⟩, ht3⟩
  go_wp2_with fail
  refine (grant_c _ _ _ _ _ _ _ ht3).mono ?_
  rintro e w4 ⟨⟨rfl, hk4⟩, ht4⟩
  go_wp2_with fail
  refine (drop_c _ _ _ _ _ _ _ ht4).mono ?_
  rintro e w5 ⟨⟨rfl, hk5⟩, ht5⟩
  go_wp2_with fail
  refine (grant_c _ _ _ _ _ _ _ ht5).mono ?_
  rintro e w6 ⟨⟨rfl, hk6⟩, ht6⟩
  go_wp2_with fail
  refine (own_c _ _ _ _ _ ht6).mono ?_
  rintro e w6' ⟨rfl, rfl⟩
  go_wp2_with fail
  refine (grant_c _ _ _ _ _ _ _ ht6).mono ?_
  rintro e w7 ⟨⟨rfl, hk7⟩, ht7⟩
  go_wp2_with fail
  refine (free_c _ _ _ _ _ ht7).mono ?_
  rintro e w8 ⟨rfl, hk8⟩
  go_wp2_with fail
  go_ret
  refine ⟨rfl, ?_⟩
  have hb : ∀ b, b < w.heap.size → oneB w.heap.size b → noB b := fun b hb h => by unfold oneB at h; omega
  exact ((((((((hk1.trans hk2 hb).trans hk3 hb).trans hk4 hb).trans hk5 hb).trans hk6 hb).trans hk7 hb).trans_no hk8))
end Go.Proofs.Ytlpimkmkcfbddaa
