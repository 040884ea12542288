/- The document's queue: what is reserved. No condition. -/
import Derived.Test.YtlpimkmkcfbddaaQrI
import Derived.Test.YtlpimkmkcfbddaaTrP
import Derived.Test.YtlpimkmkcfbddaaQueFairP
namespace Go.Proofs.Ytlpimkmkcfbddaa
open Go.RowKit

def rsv (c pg : Int) (k : Nat) (x : Wt) : Bool := x.c != c && (x.p == pg && (x.o == (k : Int) && x.w))
def rsvB (c pg : Int) (k : Nat) (ws : List Wt) : Bool := ws.any (rsv c pg k)
theorem rsvB_step (c pg : Int) (k : Nat) (l : List Wt) (x : Wt) : rsvB c pg k (l ++ [x]) = (rsvB c pg k l || rsv c pg k x) := by simp [rsvB]
theorem bt_lsb : ∀ (x : BitVec 4) (k : Nat), k < 4 → bt x k = x.getLsbD k := by decide +kernel
theorem rsv_bit {c pg : Int} {ws : List Wt} (ho : ∀ x, x ∈ ws → 0 ≤ x.o ∧ x.o < 4) {k : Nat} (hk : k < 4) : rsvB c pg k ws = bt (resM c pg ws) k := by
  rw [bt_lsb _ _ hk]
  unfold resM rsvB
  rw [resM_bit _ _ _ hk]
  simp only [BitVec.getLsbD_zero, Bool.false_or]
  rw [Bool.eq_iff_iff, List.any_eq_true, List.any_eq_true]
  constructor
  · rintro ⟨x, hx, h⟩
    have := ho x hx
    refine ⟨x, hx, ?_⟩
    simp [rsv] at h
    simp [resP]
    exact ⟨⟨h.1, h.2.1, h.2.2.2⟩, by omega⟩
  · rintro ⟨x, hx, h⟩
    have := ho x hx
    refine ⟨x, hx, ?_⟩
    simp [resP] at h
    simp [rsv]
    exact ⟨h.1.1, h.1.2.1, by omega, h.1.2.2⟩
theorem pw_cells {k : Nat} (h : k < 4) : (#[Value.int .i64 1, .int .i64 2, .int .i64 4, .int .i64 8] : Array Value)[k]? = some (.int .i64 (pw k)) := by
  rcases (show k = 0 ∨ k = 1 ∨ k = 2 ∨ k = 3 by omega) with rfl | rfl | rfl | rfl <;> rfl
set_option maxRecDepth 100000 in
set_option maxHeartbeats 8000000 in
theorem reserved_q {w : World} {va vb : Value} {ws : List Wt} {l : List (Kc × Bool)} (h : RQ w va vb ws l) (hl : ws.length ≤ 900) (c pg : Int) (ho : ∀ x, x ∈ ws → 0 ≤ x.o ∧ x.o < 4) : Calls Try.prog 68 #[.agg #[va, vb], .int .i64 c, .int .i64 pg] w (RetK noB (.int .i64 (mv (resM c pg ws))) w) := by
  obtain ⟨a, n, b, d, rfl, rfl⟩ := h.slices
  obtain ⟨hk0, hs0, hb0, hb2⟩ := two_alloc w (.cells #[.slice a ws.length n, .slice b l.length d] 85) (.cells #[.int .i64 1, .int .i64 2, .int .i64 4, .int .i64 8] 37)
  obtain ⟨w0, hw0⟩ : ∃ w0, w0 = (w.alloc (.cells #[.slice a ws.length n, .slice b l.length d] 85)).alloc (.cells #[.int .i64 1, .int .i64 2, .int .i64 4, .int .i64 8] 37) := ⟨_, rfl⟩
  rw [← hw0] at hk0 hs0 hb0 hb2
  have h0 := h.no hk0
  have H := Lib.hid (And.intro h0 (And.intro hk0 (And.intro hb0 (And.intro hb2 hs0))))
  obtain ⟨M, hM⟩ : ∃ m, m = resM c pg ws := ⟨_, rfl⟩
  rw [← hM]
  have hbit := fun k hk => rsv_bit (c := c) (pg := pg) ho (k := k) hk
  rw [← hM] at hbit
  have HB := Lib.hid hbit
  clear h h0 hk0 hb0 hb2 hs0 hbit hM ho
  go_enter Try.func68, Try.ntmps68
  go_upto_region 3 with fail
  rw [← hw0]
  clear hw0
  go_wp2_with fail
  go_loopw [7, 9] (fun u i wr => ∃ k : Nat, k ≤ 4 ∧ i = .int .i64 k ∧ u = .int .i64 (lowv M k) ∧ Keeps noB w0 wr) (fun _ i _ => 4 - (intOf i).toNat)
  case atStart => exact ⟨0, by omega, rfl, by rw [lowv_0], Keeps.refl _ _⟩
  case round =>
    obtain ⟨k, hk, rfl, rfl, hkp⟩ := hrel
    by_cases hlt : k < 4
    · have y0 := blk_cell (hkp.blk H.out.2.2.1 (noB_not _)) (i := 0) rfl
      have hlv := lowv_le M k
      have hpw := pw_s hlt
      have HLP := Lib.hid (And.intro hlv hpw.2)
      clear hlv hpw
      go_wp2_with fail
      clear y0
      go_loopw [10, 21] (fun u i wx => ∃ j : Nat, j ≤ ws.length ∧ i = .int .i64 j ∧ u = .bool (rsvB c pg k (ws.take j)) ∧ Keeps noB w0 wx) (fun _ i _ => ws.length - (intOf i).toNat)
      case atStart => exact ⟨0, by omega, rfl, rfl, hkp⟩
      case round =>
        clear hkp
        rename World => wx
        obtain ⟨j, hj, rfl, rfl, hkp⟩ := hrel
        by_cases hlj : j < ws.length
        · obtain ⟨g, rfl, c0, c1, c2, c3⟩ := (H.out.1.no hkp).wat hlj
          have htk : ws.take (j + 1) = ws.take j ++ [ws[j]] := List.take_succ_eq_append_getElem hlj
          obtain ⟨y, hy⟩ : ∃ y, y = ws[j] := ⟨_, rfl⟩
          rw [← hy] at c0 c1 c2 c3 htk
          obtain ⟨yc, yp, yo, yw⟩ := y
          simp only at c0 c1 c2 c3
          have kB : Keeps noB wx (wx.alloc (.cells #[.int .i64 yc, .int .i64 yp, .int .i64 yo, .bool yw] 73)) := (Keeps.refl _ _).alloc _
          have KB := Lib.hid (hkp.trans_no kB)
          have hst := rsvB_step c pg k (ws.take j) ⟨yc, yp, yo, yw⟩
          rw [← htk] at hst
          unfold rsv at hst
          simp only at hst
          have HST := Lib.hid hst
          clear hst htk hy kB
          generalize rsvB c pg k (ws.take j) = bb at *
          cases bb
          rotate_left
          · go_wp2_with fail
            exact ⟨⟨j + 1, by omega, by go_num, by rw [HST.out]; rfl, KB.out⟩, by simp [intOf]; omega⟩
          · cases e1 : (yc != c)
            · have hr := HST.out
              rw [e1] at hr
              go_wp2_with fail
              exact ⟨⟨j + 1, by omega, by go_num, by rw [hr]; rfl, KB.out⟩, by simp [intOf]; omega⟩
            · cases e2 : (yp == pg)
              · have hr := HST.out
                rw [e1, e2] at hr
                go_wp2_with fail
                exact ⟨⟨j + 1, by omega, by go_num, by rw [hr]; rfl, KB.out⟩, by simp [intOf]; omega⟩
              · cases e3 : (yo == (k : Int))
                · have hr := HST.out
                  rw [e1, e2, e3] at hr
                  go_wp2_with fail
                  exact ⟨⟨j + 1, by omega, by go_num, by rw [hr]; rfl, KB.out⟩, by simp [intOf]; omega⟩
                · have hr := HST.out
                  rw [e1, e2, e3] at hr
                  go_wp2_with fail
                  exact ⟨⟨j + 1, by omega, by go_num, by rw [hr]; rfl, KB.out⟩, by simp [intOf]; omega⟩
        · have : j = ws.length := by omega
          subst this
          rw [List.take_length]
          rw [HB.out k hlt]
          have hb2 := hkp.blk H.out.2.2.2.1 (noB_not _)
          have p0 := blk_cell hb2 (pw_cells hlt)
          have ik : (0 : Int) ≤ (k : Int) := by omega
          have ik4 : (k : Int) < 4 := by omega
          have hl1 := HLP.out
          have hwr : IntKind.i64.wrap (lowv M k + pw k) = lowv M k + pw k := by rw [IntKind.wrap_i64]; omega
          clear hl1 hb2
          cases e : bt M k
          · have hv := lowv_f hlt e
            have HV := Lib.hid hv
            clear hv p0 hwr
            go_wp2_with fail
            exact ⟨⟨k + 1, by omega, by go_num, by rw [HV.out], hkp⟩, by simp [intOf]; omega⟩
          · have hv := lowv_t hlt e
            have HV := Lib.hid hv
            clear hv
            go_wp2_with fail
            exact ⟨⟨k + 1, by omega, by go_num, by rw [HV.out], hkp⟩, by simp [intOf]; omega⟩
    · have : k = 4 := by omega
      subst this
      rw [lowv_4]
      go_wp2_with fail
      go_ret
      exact ⟨rfl, H.out.2.1.trans_no hkp⟩
end Go.Proofs.Ytlpimkmkcfbddaa
