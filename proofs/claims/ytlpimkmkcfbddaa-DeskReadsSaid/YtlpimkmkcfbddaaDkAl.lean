/- The desk: the chapter's example is so. No condition. -/
import Derived.Test.YtlpimkmkcfbddaaDkZ
namespace Go.Proofs.Ytlpimkmkcfbddaa
open Go.RowKit

theorem run_store_cz (a : Addr) (m : Mode) (w : World) : (store a (.complex .f64 0 0) m).run Try.prog w = stored Try.prog w a (.complex .f64 0 0) m := run_store Try.prog w a _ m rfl
theorem ask_d (b : Bool) (k : Int) (hk : k = if b then 1 else 0) (w : World) : Calls Try.prog 74 #[.bool b] w (RetK noB (.agg #[.int .i64 k, .int .i64 1, .int .i64 2, .int .i64 0, .int .i64 0, .int .i64 0, .bool false, .slice none 0 0, .complex .f64 0 0, .complex .f64 0 0, .complex .f64 0 0, .complex .f64 0 0]) w) := by
  have hsc := run_store_cz
  cases b
  · have hk0 : k = 0 := hk
    subst hk0
    clear hk
    go_enter Try.func74, Try.ntmps74
    go_wp2_with fail
    refine bodyPost_ret (results_cell_row (fn := Try.f74) Try.results74 _ _ w.heap.size 107 _ (0, 0) _ rfl (heap_alloc_new _ _) Try.underlying107 rfl (by kernel_rfl)) rfl ?_
    exact ⟨rfl, (Keeps.refl _ _).alloc _⟩
  · have hk0 : k = 1 := hk
    subst hk0
    clear hk
    go_enter Try.func74, Try.ntmps74
    go_wp2_with fail
    refine bodyPost_ret (results_cell_row (fn := Try.f74) Try.results74 _ _ w.heap.size 107 _ (0, 0) _ rfl (heap_alloc_new _ _) Try.underlying107 rfl (by kernel_rfl)) rfl ?_
    exact ⟨rfl, (Keeps.refl _ _).alloc _⟩
abbrev msgv (k p o y w : Int) (b : Bool) : Value := .agg #[.int .i64 k, .int .i64 p, .int .i64 o, .int .i64 0, .int .i64 y, .int .i64 w, .bool b, .slice none 0 0, .complex .f64 0 0, .complex .f64 0 0, .complex .f64 0 0, .complex .f64 0 0]
theorem ask_f (w : World) : Calls Try.prog 74 #[.bool false] w (RetK noB (msgv 0 1 2 0 0 false) w) := ask_d false 0 rfl w
theorem ask_t (w : World) : Calls Try.prog 74 #[.bool true] w (RetK noB (msgv 1 1 2 0 0 false) w) := ask_d true 1 rfl w
/-- A desk that is new since w0. -/
def DkN (w0 w : World) (pd tb qp r : Nat) (s : Dp) : Prop := ∃ D, Keeps noB w0 w ∧ DkD w D pd tb qp r s ∧ ∀ y, D y → w0.heap.size ≤ y
section
variable {w0 w : World} {pd tb qp r : Nat} {s u : Dp}
theorem DkN.no {w1 : World} (h : DkN w0 w pd tb qp r s) (hk : Keeps noB w w1) : DkN w0 w1 pd tb qp r s := by
  obtain ⟨D, h1, h2, h3⟩ := h
  exact ⟨D, h1.trans_no hk, h2.no hk, h3⟩
theorem DkN.kp (h : DkN w0 w pd tb qp r s) : Keeps noB w0 w := h.choose_spec.1
theorem DkN.go {args : Array Value} {n : Nat} (h : DkN w0 w pd tb qp r s) (hc : ∀ D, DkD w D pd tb qp r s → Calls Try.prog 72 args w (SetTo w D pd tb qp r u)) (hn : u.al.length = n) :
    Calls Try.prog 72 args w (fun e w' => ∃ a c, e = .returned (.slice a n c) ∧ DkN w0 w' pd tb qp r (calm u) ∧ AcR w' (.slice a n c) u.al) := by
  obtain ⟨D, h1, h2, h3⟩ := h
  refine (hc D h2).mono ?_
  rintro e w' ⟨a, c, D1, rfl, hs, hr⟩
  rw [hn] at hr ⊢
  refine ⟨a, c, rfl, ⟨D1, h1.trans hs.kp (fun y hy hD => absurd (h3 y hD) (by omega)), hs.at_, fun y hy => ?_⟩, hr⟩
  rcases hs.dn y hy with h | h
  · exact h3 y h
  · exact Nat.le_trans h1.size h
theorem AcR.one {a : Option Addr} {c : Nat} {x : Ac} (h : AcR w (.slice a 1 c) [x]) : ∃ g, a = some ⟨g, 0, none⟩ ∧ w.cell? ⟨g, 0, none⟩ = some (.int .i64 x.c) ∧ w.cell? ⟨g, 1, none⟩ = some (.int .i64 x.kind) ∧ w.cell? ⟨g, 5, none⟩ = some (.int .i64 x.copy) ∧ w.cell? ⟨g, 6, none⟩ = some (.int .i64 x.own) := by
  obtain ⟨h0, h⟩ := h
  rcases h with ⟨h1, h2⟩ | ⟨g, cap, cur, h1, _, hb, _, _, _, ht⟩
  · cases h2
  · cases h1
    have hl : lcells [x] = acells x := by simp [lcells]
    rw [hl] at ht
    have hc : ∀ j, j < 13 → cur[j]? = (acells x)[j]? := fun j hj => by
      rw [← ht, List.getElem?_take, if_pos (by simpa using hj), Array.getElem?_toList]
    exact ⟨g, rfl, blk_cell hb (hc 0 (by omega)), blk_cell hb (hc 1 (by omega)), blk_cell hb (hc 5 (by omega)), blk_cell hb (hc 6 (by omega))⟩
theorem owns_n (h : DkN w0 w pd tb qp r s) (c p : Int) : Calls Try.prog 25 #[.pointer (some ⟨tb, 0, none⟩), .int .i64 c, .int .i64 p] w (Ret (.int .i64 (mv (s.T.owns c p))) w) := own_d h.choose_spec.2.1 c p
theorem copies_n (h : DkN w0 w pd tb qp r s) (c p : Int) : Calls Try.prog 26 #[.pointer (some ⟨tb, 0, none⟩), .int .i64 c, .int .i64 p] w (Ret (.int .i64 (mv (s.T.copies c p))) w) := copies_d h.choose_spec.2.1 c p
theorem cell_n (h : DkN w0 w pd tb qp r s) : w.cell? ⟨pd, 0, none⟩ = some (.pointer (some ⟨tb, 0, none⟩)) := h.choose_spec.2.1.cells.1
theorem new_n (w : World) : Calls Try.prog 70 #[] w (fun e w' => ∃ pd tb qp r, e = .returned (.pointer (some ⟨pd, 0, none⟩)) ∧ DkN w w' pd tb qp r dk0) :=
  (new_d w).mono (fun _ _ ⟨pd, tb, qp, r, D, h1, h2, h3, h4⟩ => ⟨pd, tb, qp, r, h1, D, h2, h3, h4⟩)
theorem h1_n (h : DkN w0 w pd tb qp r dk0) : Calls Try.prog 72 #[.pointer (some ⟨pd, 0, none⟩), .int .i64 0, msgv 0 1 2 0 0 false] w (fun e w' => ∃ a c, e = .returned (.slice a 1 c) ∧ DkN w0 w' pd tb qp r (calm u1) ∧ AcR w' (.slice a 1 c) u1.al) :=
  h.go (fun D h => handle_read h (by decide +kernel) 0 1 2 0 0 s1) a1
theorem h2_n (h : DkN w0 w pd tb qp r (calm u1)) : Calls Try.prog 72 #[.pointer (some ⟨pd, 0, none⟩), .int .i64 1, msgv 0 1 2 0 0 false] w (fun e w' => ∃ a c, e = .returned (.slice a 1 c) ∧ DkN w0 w' pd tb qp r (calm u2) ∧ AcR w' (.slice a 1 c) u2.al) :=
  h.go (fun D h => handle_read h (by decide +kernel) 1 1 2 0 0 s2) a2
theorem h3_n (h : DkN w0 w pd tb qp r (calm u2)) : Calls Try.prog 72 #[.pointer (some ⟨pd, 0, none⟩), .int .i64 0, msgv 1 1 2 0 0 false] w (fun e w' => ∃ a c, e = .returned (.slice a 1 c) ∧ DkN w0 w' pd tb qp r (calm u3) ∧ AcR w' (.slice a 1 c) u3.al) :=
  h.go (fun D h => handle_write h (by decide +kernel) 0 1 2 0 0 s3) a3
theorem h4_n (h : DkN w0 w pd tb qp r (calm u3)) : Calls Try.prog 72 #[.pointer (some ⟨pd, 0, none⟩), .int .i64 1, msgv 1 1 2 0 0 false] w (fun e w' => ∃ a c, e = .returned (.slice a 0 c) ∧ DkN w0 w' pd tb qp r (calm u4) ∧ AcR w' (.slice a 0 c) u4.al) :=
  h.go (fun D h => handle_write h (by decide +kernel) 1 1 2 0 0 s4) a4
theorem h5_n (h : DkN w0 w pd tb qp r (calm u4)) : Calls Try.prog 72 #[.pointer (some ⟨pd, 0, none⟩), .int .i64 1, msgv 4 1 2 0 0 true] w (fun e w' => ∃ a c, e = .returned (.slice a 1 c) ∧ DkN w0 w' pd tb qp r (calm u5) ∧ AcR w' (.slice a 1 c) [⟨1, 8, 0, 0, 151, 0, false⟩]) := by
  rw [← a5]
  exact h.go (fun D h => handle_busy h 1 1 2 0 0 s5) (by rw [a5]; rfl)
theorem h6_n (h : DkN w0 w pd tb qp r (calm u5)) : Calls Try.prog 72 #[.pointer (some ⟨pd, 0, none⟩), .int .i64 1, msgv 3 1 0 4 0 false] w (fun e w' => ∃ a c, e = .returned (.slice a 1 c) ∧ DkN w0 w' pd tb qp r (calm u6) ∧ AcR w' (.slice a 1 c) [⟨0, 5, 1, 0, 15, 4, false⟩]) := by
  rw [← a6]
  exact h.go (fun D h => handle_release h 1 1 0 4 0 s6) (by rw [a6]; rfl)
theorem h7_n (h : DkN w0 w pd tb qp r dk0) : Calls Try.prog 72 #[.pointer (some ⟨pd, 0, none⟩), .int .i64 3, msgv 1 1 2 0 0 false] w (fun e w' => ∃ a c, e = .returned (.slice a 1 c) ∧ DkN w0 w' pd tb qp r (calm u7) ∧ AcR w' (.slice a 1 c) [⟨3, 5, 1, 0, 15, 15, false⟩]) := by
  rw [← a7]
  exact h.go (fun D h => handle_write h (by decide +kernel) 3 1 2 0 0 s7) (by rw [a7]; rfl)
end
set_option maxRecDepth 100000 in
set_option maxHeartbeats 16000000 in
theorem deskAlive_c (w : World) : Calls Try.prog 69 #[] w (RetK noB (.bool true) w) := by
  have HO := Lib.hid (show mv ((calm u6).T.owns 0 1) = 4 by rw [o6]; rfl)
  have HC := Lib.hid (show mv ((calm u6).T.copies 1 1) = 11 by rw [c6]; rfl)
  go_enter Try.func69, Try.ntmps69
  go_wp2_with (first
    | (go_at_call 70; refine (new_n _).mono ?_; rintro e w1 ⟨pd, tb, qp, r, rfl, hn⟩; have H0 := Lib.hid hn; clear hn)
    | (go_at_call 74; first | refine (ask_f _).mono ?_ | refine (ask_t _).mono ?_
       rintro e wq ⟨rfl, hkq⟩
       first | replace H0 := Lib.hid (H0.out.no hkq) | replace H1 := Lib.hid (H1.out.no hkq) | replace H2 := Lib.hid (H2.out.no hkq) | replace H3 := Lib.hid (H3.out.no hkq)
       clear hkq)
    | (go_at_call 72; refine (h1_n H0.out).mono ?_; rintro e w2 ⟨a2, c2, rfl, hn, _⟩; have H1 := Lib.hid hn; clear hn H0)
    | (go_at_call 72; refine (h2_n H1.out).mono ?_; rintro e w3 ⟨a3, c3, rfl, hn, _⟩; have H2 := Lib.hid hn; clear hn H1)
    | (go_at_call 72; refine (h3_n H2.out).mono ?_; rintro e w4 ⟨a4, c4, rfl, hn, _⟩; have H3 := Lib.hid hn; clear hn H2)
    | (go_at_call 72; refine (h4_n H3.out).mono ?_; rintro e w5 ⟨a5, c5, rfl, hn, _⟩; have H4 := Lib.hid hn; clear hn H3)
    | (go_at_call 72; refine (h5_n H4.out).mono ?_; rintro e w6 ⟨a6, c6, rfl, hn, hr⟩; obtain ⟨g6, rfl, y0, y1, y5, y6⟩ := hr.one; have H5 := Lib.hid hn; clear hn H4 hr)
    | (go_at_call 72; refine (h6_n H5.out).mono ?_; rintro e w7 ⟨a7, c7, rfl, hn, hr⟩; clear y0 y1 y5 y6; obtain ⟨g7, rfl, y0, y1, y5, y6⟩ := hr.one; have y7 := cell_n hn; have H6 := Lib.hid hn; clear hn H5 hr)
    | (go_at_call 25; refine (owns_n H6.out 0 1).mono ?_; rintro e w8 ⟨rfl, rfl⟩; rw [HO.out])
    | (go_at_call 26; refine (copies_n H6.out 1 1).mono ?_; rintro e w8 ⟨rfl, rfl⟩; rw [HC.out]))
  go_ret
  exact ⟨rfl, H6.out.kp⟩
end Go.Proofs.Ytlpimkmkcfbddaa
