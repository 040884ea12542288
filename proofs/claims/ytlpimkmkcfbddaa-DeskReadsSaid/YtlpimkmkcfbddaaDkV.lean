/- The desk: all that can be granted is. No condition. -/
import Derived.Test.YtlpimkmkcfbddaaDkU
import Derived.ScopeJumps
namespace Go.Proofs.Ytlpimkmkcfbddaa
open Go.RowKit

/-- A desk within bounds. -/
structure OkD (s : Dp) : Prop where
  n : s.ws.length ≤ 100
  o : ∀ x, x ∈ s.ws → 0 ≤ x.o ∧ x.o < 4
  a : s.al.length ≤ 8000
/-- Who must give way is told. -/
def failP (s : Dp) (v : Nat) : Dp := { s with ws := rmW v s.ws, al := s.al ++ [⟨v, 8, 0, 0, 151, 0, false⟩] }
/-- A desk is settled. -/
inductive Settles : Dp → Dp → Prop where
  | stop {s t : Dp} : OkD s → passP s s.ws = (t, false) → OkD t → vicN (edgesP t) 4 = none → Settles s t
  | pass {s t u : Dp} : OkD s → passP s s.ws = (t, true) → t.ws.length < s.ws.length → Settles t u → Settles s u
  | fail {s t u : Dp} {v : Nat} : OkD s → passP s s.ws = (t, false) → OkD t → vicN (edgesP t) 4 = some v → (failP t v).ws.length < s.ws.length → Settles (failP t v) u → Settles s u
/-- How many want something, in memory. -/
def lenQ (qp : Nat) (w : World) : Nat := match w.cell? ⟨qp, 0, none⟩ with
  | some (.slice _ n _) => n
  | _ => 0
section
variable {w : World} {D : Nat → Prop} {pd tb qp r : Nat} {s : Dp}
theorem DkD.len (h : DkD w D pd tb qp r s) : lenQ qp w = s.ws.length := by
  obtain ⟨S, v, av, hA, _⟩ := h
  obtain ⟨a, n, rfl, _⟩ := hA.q.wants
  unfold lenQ
  rw [blk_cell hA.q.ptr (i := 0) (v := .slice a s.ws.length n) rfl]
/-- What is told, in memory. -/
def AcR (w : World) (v : Value) (al : List Ac) : Prop := w.ownsRow 0 112 13 v al.length (lcells al)
theorem AcR.no {w1 : World} {v : Value} {al : List Ac} (h : AcR w v al) (hk : Keeps noB w w1) : AcR w1 v al := own_keep_no h hk
theorem DkD.take (h : DkD w D pd tb qp r s) : ∃ a c, w.cell? ⟨pd, 2, none⟩ = some (.slice a s.al.length c) ∧ w.frozen? ⟨pd, 2, none⟩ = false ∧
    DkS w (w.setCell ⟨pd, 2, none⟩ (.slice none 0 0)) D D pd tb qp r { s with al := [] } ∧ AcR (w.setCell ⟨pd, 2, none⟩ (.slice none 0 0)) (.slice a s.al.length c) s.al := by
  obtain ⟨S, v, av, hA, hp, ht, hS, ha, hD⟩ := h
  obtain ⟨a, c, rfl⟩ := row_slice hA.ac
  have k := (Keeps.refl (oneB pd) w).set1 2 (.slice none 0 0)
  have hpb : ∀ k, (Value.slice a s.al.length c).ownBlock = some k → k ≠ pd := fun k hk e => by
    subst e
    obtain ⟨_, h2⟩ := hA.ac
    rcases h2 with ⟨e2, _⟩ | ⟨g, c, cs, e2, _, hb, _⟩
    · rw [e2] at hk; simp [Value.ownBlock] at hk
    · rw [e2] at hk; simp [Value.ownBlock] at hk
      subst hk
      have := hA.pt
      rw [hb] at this
      simp at this
  refine ⟨a, c, blk_cell hA.pt (i := 2) rfl, blk_free hA.pt 2, ⟨k.mono (fun y _ hy => by unfold oneB at hy; subst hy; exact hp), fun _ h => h, fun _ h => .inl h, S, v, .slice none 0 0, ⟨heap_setCell_same _ _ _ _ hA.pt, k.blk hA.tab (fun e => hA.ne e.symm), hA.q.keep k (fun y hy e => hA.np (e ▸ hy)), ?_, ⟨rfl, .inl ⟨rfl, rfl⟩⟩, hA.np, hA.nt, fun k hk => by simp [Value.ownBlock] at hk, hA.ne⟩, hp, ht, hS, fun k hk => by simp [Value.ownBlock] at hk, fun y hy => by rw [setCell_size]; exact hD y hy⟩, ?_⟩
  · exact hA.f.imp (fun hf => ⟨own_keep hf.1 k (fun k _ _ e h => hA.np (h ▸ hf.2 k e)), hf.2⟩) id
  · exact own_keep hA.ac k (fun k _ _ e h => hpb k e h)
end
theorem pass_e {w : World} {D : Nat → Prop} {pd tb qp r : Nat} {s t : Dp} {b : Bool} (h : DkD w D pd tb qp r s) (ok : OkD s) (hp : passP s s.ws = (t, b)) :
    Calls Try.prog 110 #[.pointer (some ⟨pd, 0, none⟩)] w (fun e w' => e = .returned (.bool b) ∧ ∃ D1, DkS w w' D D1 pd tb qp r t) := by
  have hC := pass_d h ok.n ok.o ok.a
  rw [hp] at hC
  exact hC.mono (fun e w' h => h.step)
theorem edges_lt {s : Dp} (h : OkD s) : (edgesP s).length ≤ 9223372036854775807 := by
  have h1 := edgs_le s s.ws
  have h2 : (4 + s.ws.length) * s.ws.length ≤ 104 * 100 := Nat.mul_le_mul (by have := h.n; omega) h.n
  have h3 : edgesP s = s.ws.flatMap (edgP s) := rfl
  rw [h3]
  omega
theorem vic_e {s : Dp} (ok : OkD s) {o : Option Nat} (hv : vicN (edgesP s) 4 = o) (w : World) (a : Option Addr) (c : Nat) (he : EdR w w.heap.size a (edgesP s)) : Calls Try.prog 39 #[.slice a (edgesP s).length c] w (RetK noB (vicV o) w) := by
  have hC := victim_c (edgesP s) (edges_lt ok) a c w he
  rw [hv] at hC
  exact hC
theorem scope_label {P : Program} {a : Act} {w : World} {Q : Exit → Act → World → Prop} {l : Nat} {body : Code} (J : Act → World → Prop) (μ : Act → World → Nat) (hf : findLabel ((Code.label l).seq body) l = some (Code.skip.seq body)) (hJ : J a w)
    (pass : ∀ a w, J a w → body.wp P (Exit.jump l (fun a' w' => J a' w' ∧ μ a' w' < μ a w) Q) a w) : (Code.scope ((Code.label l).seq body)).wp P Q a w := by
  refine wp_scope_jumps l J μ hf (wp_seq (wp_label ?_)) (fun a w h => wp_seq (wp_skip ?_))
  · exact Code.wp_mono (fun e a w h => by cases e <;> first | exact h | exact ⟨h.1, h.2.1⟩) (pass a w hJ)
  · exact pass a w h

/-- Where settling stands. -/
structure StAt (w wr : World) (D Dk : Nat → Prop) (pd tb qp r : Nat) (sk u : Dp) : Prop where
  st : DkS w wr D Dk pd tb qp r sk
  go : Settles sk u
set_option maxRecDepth 100000 in
set_option maxHeartbeats 16000000 in
theorem settle_d {w : World} {D : Nat → Prop} {pd tb qp r : Nat} {s u : Dp} (h : DkD w D pd tb qp r s) (hs : Settles s u) :
    Calls Try.prog 102 #[.pointer (some ⟨pd, 0, none⟩)] w (fun e w' => ∃ a c D1, e = .returned (.slice a u.al.length c) ∧ DkS w w' D D1 pd tb qp r { u with al := [] } ∧ AcR w' (.slice a u.al.length c) u.al) := by
  have H0 := Lib.hid (And.intro h hs)
  clear h hs
  go_enter Try.func102, Try.ntmps102
  go_wp2_with fail
  refine scope_label (fun a' w' => ∃ (u1 u3 u4 u5 u6 u7 u8 u9 u10 u11 u12 u13 u14 u15 u16 u17 u18 u19 u20 u21 u22 u23 u24 u25 u26 u27 u28 u29 u30 u31 u32 : Value), a' = { tmps := #[.pointer (some ⟨pd, 0, none⟩), u1, .slice none 0 0, u3, u4, u5, u6, u7, u8, u9, u10, u11, u12, u13, u14, u15, u16, u17, u18, u19, u20, u21, u22, u23, u24, u25, u26, u27, u28, u29, u30, u31, u32], defers := [] } ∧ ∃ sk Dk, StAt w w' D Dk pd tb qp r sk u) (fun _ w' => lenQ qp w') rfl ⟨_, _, _, _, _, _, _, _, _, _, _, _, _, _, _, _, _, _, _, _, _, _, _, _, _, _, _, _, _, _, _, rfl, s, D, DkS.refl H0.out.1, H0.out.2⟩ ?_
  rintro a' w' ⟨u1, u3, u4, u5, u6, u7, u8, u9, u10, u11, u12, u13, u14, u15, u16, u17, u18, u19, u20, u21, u22, u23, u24, u25, u26, u27, u28, u29, u30, u31, u32, rfl, sk, Dk, hk⟩
  have HK := Lib.hid hk
  clear hk
  go_wp2_with fail
  go_loopw [7] (fun _ wr => ∃ sj Dj, StAt w wr D Dj pd tb qp r sj u ∧ sj.ws.length ≤ sk.ws.length) (fun _ wr => lenQ qp wr)
  case atStart => exact ⟨sk, Dk, HK.out, Nat.le_refl _⟩
  case round =>
    obtain ⟨sj, Dj, hj, hle⟩ := hrel
    have HJ := Lib.hid (And.intro hj hle)
    clear hj hle
    cases HJ.out.1.go with
    | pass h1 h2 h3 h4 =>
      have hC := pass_e HJ.out.1.st.at_ h1 h2
      have H4 := Lib.hid (And.intro h3 h4)
      clear h1 h2 h3 h4
      go_wp2_with (go_at_call 110; refine hC.mono ?_; rintro e w2 ⟨rfl, D2, hs2⟩)
      exact ⟨⟨_, D2, ⟨HJ.out.1.st.trans hs2, H4.out.2⟩, by have := HJ.out.2; have := H4.out.1; omega⟩, by rw [hs2.at_.len, HJ.out.1.st.at_.len]; exact H4.out.1⟩
    | stop h1 h2 h3 h4 =>
      have hC := pass_e HJ.out.1.st.at_ h1 h2
      have H39 := Lib.hid (vic_e h3 h4)
      have H3 := Lib.hid h3
      clear h1 h2 h3 h4
      obtain ⟨n, hn⟩ : ∃ n, n = (edgesP u).length := ⟨_, rfl⟩
      rw [← hn] at H39
      have HN := Lib.hid hn
      clear hn
      go_wp2_with (first | (go_at_call 110; refine hC.mono ?_; rintro e w2 ⟨rfl, D2, hs2⟩; have hC76 := edges_d hs2.at_ H3.out.n; rw [← HN.out] at hC76; have HS2 := Lib.hid hs2; clear hs2) | (go_at_call 76; refine hC76.mono ?_; rintro e w3 ⟨a3, c3, rfl, hk3, he3⟩; have HE3 := Lib.hid he3; clear he3) | (go_at_call 39; refine (H39.out _ _ _ HE3.out).mono ?_; rintro e w4 ⟨rfl, hk4⟩; unfold vicV; obtain ⟨a5, c5, y5, f5, hs5, hr5⟩ := (HS2.out.at_.no (hk3.trans_no hk4)).take; have H5 := Lib.hid (And.intro hs5 hr5); clear hs5 hr5))
      simp only [Exit.jump]
      go_ret
      exact ⟨a5, c5, D2, rfl, (HJ.out.1.st.trans (HS2.out.no (hk3.trans_no hk4))).trans H5.out.1, H5.out.2⟩
    | fail h1 h2 h3 h4 h5 h6 =>
      rename_i t v
      have hC := pass_e HJ.out.1.st.at_ h1 h2
      have H39 := Lib.hid (vic_e h3 h4)
      have H3 := Lib.hid (And.intro h3 (And.intro h5 h6))
      clear h1 h2 h3 h4 h5 h6
      obtain ⟨n, hn⟩ : ∃ n, n = (edgesP t).length := ⟨_, rfl⟩
      rw [← hn] at H39
      have HN := Lib.hid hn
      clear hn
      go_wp2_with (first | (go_at_call 110; refine hC.mono ?_; rintro e w2 ⟨rfl, D2, hs2⟩; have hC76 := edges_d hs2.at_ H3.out.1.n; rw [← HN.out] at hC76; have HS2 := Lib.hid hs2; clear hs2) | (go_at_call 76; refine hC76.mono ?_; rintro e w3 ⟨a3, c3, rfl, hk3, he3⟩; have HE3 := Lib.hid he3; clear he3) | (go_at_call 39; refine (H39.out _ _ _ HE3.out).mono ?_; rintro e w4 ⟨rfl, hk4⟩; unfold vicV; have y5 := ((HS2.out.at_.no (hk3.trans_no hk4)).cells).2; have hC50 := remove_d (HS2.out.at_.no (hk3.trans_no hk4)) (Nat.le_trans H3.out.1.n (by decide)) v) | (go_at_call 50; refine hC50.mono ?_; rintro e w5 ⟨rfl, D5, hs5⟩; have hC111 := send_d hs5.at_ (Nat.le_trans H3.out.1.a (by decide)) v 8 0 0 151 0 false; have HS5 := Lib.hid hs5; clear hs5) | (go_at_call 111; refine hC111.mono ?_; rintro e w6 hto; obtain ⟨rfl, D6, hs6⟩ := hto.step))
      go_step3
      refine ⟨rfl, ⟨_, _, _, _, _, _, _, _, _, _, _, _, _, _, _, _, _, _, _, _, _, _, _, _, _, _, _, _, _, _, _, rfl, failP t v, D6, ((HJ.out.1.st.trans (HS2.out.no (hk3.trans_no hk4))).trans HS5.out).trans hs6, H3.out.2.2⟩, ?_⟩
      rw [hs6.at_.len, HK.out.st.at_.len]
      exact Nat.lt_of_lt_of_le H3.out.2.1 HJ.out.2
end Go.Proofs.Ytlpimkmkcfbddaa
