/- DeskNames: the error has its number; who writes alone has all of the page: the law answers true. No condition. -/
import Derived.Test.YtlpimkmkcfbddaaDkOw
namespace Go.Proofs.Ytlpimkmkcfbddaa
open Go.RowKit

theorem wants_n {w0 w : World} {pd tb qp r : Nat} {s : Dp} (h : DkN w0 w pd tb qp r s) (hw : s.ws = []) : Calls Try.prog 73 #[.pointer (some ⟨pd, 0, none⟩)] w (fun e w' => ∃ a n, e = .returned (.slice a 0 n) ∧ Keeps noB w w') := by
  refine (wants_d h.choose_spec.2.1 (by rw [hw]; decide)).mono ?_
  rintro e w' ⟨v', ⟨rfl, hk⟩, a, n, rfl, _⟩
  rw [hw]
  exact ⟨a, n, rfl, hk⟩
theorem edges_n {w0 w : World} {pd tb qp r : Nat} {s : Dp} (h : DkN w0 w pd tb qp r s) (hw : s.ws = []) : Calls Try.prog 76 #[.pointer (some ⟨pd, 0, none⟩)] w (fun e w' => ∃ a n, e = .returned (.slice a 0 n) ∧ Keeps noB w w') := by
  have he : edgesP s = [] := by unfold edgesP; rw [hw]; rfl
  refine (edges_d h.choose_spec.2.1 (by rw [hw]; decide)).mono ?_
  rintro e w' ⟨a, n, rfl, hk, _⟩
  rw [he]
  exact ⟨a, n, rfl, hk⟩
theorem owns_n7 {w0 w : World} {pd tb qp r g : Nat} (h : DkN w0 w pd tb qp r (calm u7)) (hg : w.heap[g]? = some (.cells #[.int .i64 1, .int .i64 0, .complex .f64 0 0] 116 (0, 0))) :
    Calls Try.prog 75 #[.pointer (some ⟨pd, 0, none⟩), .int .i64 3, .slice (some ⟨g, 0, none⟩) 1 1] w (RetK noB (.bool true) w) :=
  owns_all h.choose_spec.2.1 3 1 hg (by rw [o7]; rfl)
theorem owns_m7 {w0 w : World} {pd tb qp r g : Nat} (h : DkN w0 w pd tb qp r (calm u7)) (hg : w.heap[g]? = some (.cells #[.int .i64 2, .int .i64 0, .complex .f64 0 0] 116 (0, 0))) :
    Calls Try.prog 75 #[.pointer (some ⟨pd, 0, none⟩), .int .i64 3, .slice (some ⟨g, 0, none⟩) 1 1] w (RetK noB (.bool false) w) :=
  owns_no h.choose_spec.2.1 3 2 hg (by rw [n7]; rfl)
set_option maxRecDepth 100000 in
set_option maxHeartbeats 16000000 in
theorem deskNames_w (w : World) : Calls Try.prog 19 #[] w (RetK noB (.bool true) w) := by
  have hsc := run_store_cz
  have HW := Lib.hid w7
  go_enter Try.func19, Try.ntmps19
  go_wp2_with (first
    | (go_at_call 70; refine (new_n _).mono ?_; rintro e w1 ⟨pd, tb, qp, r, rfl, hn⟩; have H0 := Lib.hid hn; clear hn)
    | (go_at_call 74; refine (ask_t _).mono ?_; rintro e wq ⟨rfl, hkq⟩; replace H0 := Lib.hid (H0.out.no hkq); clear hkq)
    | (go_at_call 72; refine (h7_n H0.out).mono ?_; rintro e w2 ⟨a2, c2, rfl, hn, hr⟩; have H1 := Lib.hid (And.intro hn hr); clear hn hr H0)
    | (go_at_call 69; refine (deskAlive_c _).mono ?_; rintro e w3 ⟨rfl, hk3⟩; obtain ⟨g3, rfl, y0, y1, y5, y6⟩ := (H1.out.2.no hk3).one; have H2 := Lib.hid (H1.out.1.no hk3); clear hk3 H1)
    | (go_at_call 75; refine (owns_n7 (H2.out.no ((Keeps.refl _ _).alloc _)) (heap_alloc_new _ _)).mono ?_; rintro e w4 ⟨rfl, hk4⟩; have H3 := Lib.hid ((H2.out.no ((Keeps.refl _ _).alloc _)).no hk4); clear H2 hk4)
    | (go_at_call 75; refine (owns_m7 (H3.out.no ((Keeps.refl _ _).alloc _)) (heap_alloc_new _ _)).mono ?_; rintro e w5 ⟨rfl, hk5⟩; have H4 := Lib.hid ((H3.out.no ((Keeps.refl _ _).alloc _)).no hk5); clear H3 hk5)
    | (go_at_call 73; refine (wants_n H4.out HW.out).mono ?_; rintro e w6 ⟨a6, n6, rfl, hk6⟩; have H5 := Lib.hid (H4.out.no hk6); clear H4 hk6)
    | (go_at_call 76; refine (edges_n H5.out HW.out).mono ?_; rintro e w7 ⟨a7, n7, rfl, hk7⟩; have H6 := Lib.hid (H5.out.no hk7); clear H5 hk7))
  go_ret
  exact ⟨rfl, H6.out.kp⟩
end Go.Proofs.Ytlpimkmkcfbddaa
