/- WaitsNames: of nothing there is nothing: the law answers true. No condition. -/
import Derived.Test.YtlpimkmkcfbddaaWaitAlive
namespace Go.Proofs.Ytlpimkmkcfbddaa
open Go.RowKit

theorem cyc_nil (x : Int) : cyc [] x = false := cyc_f (no_into (by simp))
theorem vic_nil : vicN [] 4 = none := by simp [vicN, cyc_nil]
theorem reach_nil (x : Int) : reachL [] x = [] := by
  apply List.eq_nil_iff_forall_not_mem.2
  intro z hz
  exact no_into (by simp) ((reachL_mem _ _ _).1 hz).2
theorem cyc_33 : cyc [(3, 3)] 3 = true := cyc_t (by omega) (by omega) (.one ⟨by simp, by omega, by omega⟩)
theorem cyc_44 : cyc [(4, 4)] 4 = false := by
  cases e : cyc [(4, 4)] 4
  · rfl
  · have := ((cyc_iff _ _).1 e).1.2; omega

set_option maxRecDepth 100000 in
set_option maxHeartbeats 1000000 in
theorem waitsNames_w (w : World) : Calls Try.prog 8 #[] w (RetK noB (.bool true) w) := by
  have he0 : ∀ w : World, EdR w w.heap.size none [] := fun w k hk => absurd hk (by simp)
  have hv := victim_c [] (by decide) none 0 w (he0 w)
  rw [vic_nil] at hv
  simp only [List.length_nil, vicV] at hv
  go_enter Try.func8, Try.ntmps8
  go_wp2_with fail
  refine hv.mono ?_
  rintro e w1 ⟨rfl, hk1⟩
  clear hv
  go_wp2_with fail
  refine (waitsAlive_c _).mono ?_
  rintro e w2 ⟨rfl, hk2⟩
  have hr := reach_c [] (by decide) none 0 0 w2 (he0 w2)
  rw [reach_nil] at hr
  simp only [List.length_nil] at hr
  go_wp2_with fail
  refine hr.mono ?_
  rintro e w3 ⟨v, ⟨rfl, hk3⟩, ho⟩
  obtain ⟨a, c, rfl⟩ := ho.slice
  clear hr
  have hk123 := (hk1.trans_no hk2).trans_no hk3
  have he3 : EdR (w3.alloc (.cells #[.int .i64 3, .int .i64 3] 61)) (w3.alloc (.cells #[.int .i64 3, .int .i64 3] 61)).heap.size (some ⟨w3.heap.size, 0, none⟩) [(3, 3)] := by
    refine EdB.edr ⟨_, heap_alloc_new _ _, by decide, fun k hk => ?_⟩ (by rw [alloc_size]; omega)
    match k, hk with
    | 0, _ => exact ⟨rfl, rfl⟩
  have h3 := cycle_c [(3, 3)] (by decide) _ 1 3 _ he3
  rw [cyc_33] at h3
  simp only [show ([(3, 3)] : List (Int × Int)).length = 1 from rfl] at h3
  go_wp2_with fail
  refine h3.mono ?_
  rintro e w4 ⟨rfl, hk4⟩
  have hk1234 := (hk123.alloc (.cells #[.int .i64 3, .int .i64 3] 61)).trans_no hk4
  clear h3 he3
  have he4 : EdR (w4.alloc (.cells #[.int .i64 4, .int .i64 4] 61)) (w4.alloc (.cells #[.int .i64 4, .int .i64 4] 61)).heap.size (some ⟨w4.heap.size, 0, none⟩) [(4, 4)] := by
    refine EdB.edr ⟨_, heap_alloc_new _ _, by decide, fun k hk => ?_⟩ (by rw [alloc_size]; omega)
    match k, hk with
    | 0, _ => exact ⟨rfl, rfl⟩
  have h4 := cycle_c [(4, 4)] (by decide) _ 1 4 _ he4
  rw [cyc_44] at h4
  simp only [show ([(4, 4)] : List (Int × Int)).length = 1 from rfl] at h4
  go_wp2_with fail
  refine h4.mono ?_
  rintro e w5 ⟨rfl, hk5⟩
  have hk := (hk1234.alloc (.cells #[.int .i64 4, .int .i64 4] 61)).trans_no hk5
  clear h4 he4
  go_wp2_with fail
  go_ret
  exact ⟨rfl, hk⟩
end Go.Proofs.Ytlpimkmkcfbddaa
