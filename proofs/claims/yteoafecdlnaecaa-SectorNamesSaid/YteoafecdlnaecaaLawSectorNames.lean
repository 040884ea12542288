/- SectorNames: the error and the limit have their numbers: the law answers true. No condition. -/
import Derived.Test.YteoafecdlnaecaaSecAlive
namespace Go.Proofs.Yteoafecdlnaecaa
open Go.RowKit

set_option maxRecDepth 100000 in
set_option maxHeartbeats 4000000 in
theorem sectorNames_w (w : World) : Calls Try.prog 3 #[] w (RetK noB (.bool true) w) := by
  have e1 : newN 1 = 1 := by decide
  have e2 : newN 99 = 6 := by decide
  have e3 : newN (-1) = 0 := by decide
  go_enter Try.func3, Try.ntmps3
  go_wp2_with fail
  refine (new_c 1 (by omega) w).mono ?_
  rintro e w1 ⟨rfl, hk1, hd1⟩
  rw [e1] at hd1
  have hr := read_c hd1 1
  rw [show inD 1 1 = false by decide] at hr
  simp only [Bool.false_eq_true, if_false] at hr
  go_wp2_with fail
  refine hr.mono ?_
  rintro e w2 ⟨a2, c2, ⟨rfl, hk2⟩, _⟩
  clear hr
  go_wp2_with fail
  refine (sectorAlive_c _).mono ?_
  rintro e w3 ⟨rfl, hk3⟩
  go_wp2_with fail
  refine (new_c 99 (by omega) w3).mono ?_
  rintro e w4 ⟨rfl, hk4, hd4⟩
  rw [e2] at hd4
  go_wp2_with fail
  refine (len_c hd4).mono ?_
  rintro e w5 ⟨rfl, rfl⟩
  go_wp2_with fail
  refine (new_c (-1) (by omega) w4).mono ?_
  rintro e w6 ⟨rfl, hk6, hd6⟩
  rw [e3] at hd6
  go_wp2_with fail
  refine (len_c hd6).mono ?_
  rintro e w7 ⟨rfl, rfl⟩
  go_wp2_with fail
  go_ret
  exact ⟨rfl, (((hk1.trans_no hk2).trans_no hk3).trans_no hk4).trans_no hk6⟩
end Go.Proofs.Yteoafecdlnaecaa
