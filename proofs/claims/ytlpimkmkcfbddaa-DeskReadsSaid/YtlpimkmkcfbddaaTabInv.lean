/- Who owns is alone, whatever is done with a table: the plain law. No condition. -/
import Derived.Test.YtlpimkmkcfbddaaTabPure
namespace Go.Proofs.Ytlpimkmkcfbddaa
open Go.RowKit

/-- What is owned is a copy, and of nobody else. -/
def TB.Inv (T : TB) : Prop := (∀ c p, T.ow c p &&& ~~~(T.co c p) = 0#4) ∧ ∀ c d p, c < 4 → d < 4 → c ≠ d → T.ow c p &&& T.co d p = 0#4

theorem or_and_zero (a b x : BitVec 4) : (a ||| b) &&& x = 0#4 → a &&& x = 0#4 ∧ b &&& x = 0#4 := by
  intro h0
  refine ⟨?_, ?_⟩ <;> (apply BitVec.eq_of_getLsbD_eq; intro i hi; have q0 := congrArg (fun x => x.getLsbD i) h0; simp [hi] at q0 ⊢; grind)
theorem zero_or_zero (a b x y : BitVec 4) : (a &&& x) ||| (b &&& y) = 0#4 → a &&& x = 0#4 ∧ b &&& y = 0#4 := by
  intro h0
  refine ⟨?_, ?_⟩ <;> (apply BitVec.eq_of_getLsbD_eq; intro i hi; have q0 := congrArg (fun x => x.getLsbD i) h0; simp [hi] at q0 ⊢; grind)
theorem and_or_zero (a x y : BitVec 4) : a &&& (x ||| y) = 0#4 → a &&& x = 0#4 ∧ a &&& y = 0#4 := by
  intro h0
  refine ⟨?_, ?_⟩ <;> (apply BitVec.eq_of_getLsbD_eq; intro i hi; have q0 := congrArg (fun x => x.getLsbD i) h0; simp [hi] at q0 ⊢; grind)

theorem oth_zero (f : Nat → Nat → BitVec 4) (c p : Nat) (x : BitVec 4) : ∀ n, oth f c p n &&& x = 0#4 → ∀ d, d < n → d ≠ c → f d p &&& x = 0#4 := by
  intro n
  induction n with
  | zero => intro _ d hd; omega
  | succ k ih =>
    intro h d hd hne
    unfold oth at h
    by_cases hk : k = c
    · rw [if_pos hk] at h
      exact ih h d (by omega) hne
    · rw [if_neg hk] at h
      obtain ⟨h1, h2⟩ := or_and_zero _ _ _ h
      by_cases e : d = k
      · subst e; exact h2
      · exact ih h1 d (by omega) hne

theorem TB.clash_not {T : TB} {c p : Nat} {m o : BitVec 4} (h : T.clash c p m o = false) : ∀ d, d < 4 → d ≠ c → T.ow d p &&& (m ||| o) = 0#4 ∧ T.co d p &&& o = 0#4 := by
  intro d hd hne
  unfold TB.clash at h
  have h' : (T.oO c p &&& (m ||| o)) ||| (T.oC c p &&& o) = 0#4 := by simpa using h
  obtain ⟨h1, h2⟩ := zero_or_zero _ _ _ _ h'
  exact ⟨oth_zero _ _ _ _ 4 h1 d hd hne, oth_zero _ _ _ _ 4 h2 d hd hne⟩

theorem TB.Inv.zero : TB.zero.Inv := ⟨fun _ _ => by simp [TB.zero], fun _ _ _ _ _ _ => by simp [TB.zero]⟩

theorem g1 (a b m o : BitVec 4) : a &&& ~~~b = 0#4 → (a ||| o) &&& ~~~(b ||| (m ||| o)) = 0#4 := by
  intro h
  apply BitVec.eq_of_getLsbD_eq
  intro i hi
  have h2 := congrArg (fun x => x.getLsbD i) h
  simp [hi] at h2 ⊢
  grind
theorem g2 (a b o : BitVec 4) : a &&& b = 0#4 → b &&& o = 0#4 → (a ||| o) &&& b = 0#4 := by
  intro h0 h1
  (apply BitVec.eq_of_getLsbD_eq; intro i hi; have q0 := congrArg (fun x => x.getLsbD i) h0; have q1 := congrArg (fun x => x.getLsbD i) h1; simp [hi] at q0 q1 ⊢; grind)
theorem g3 (a b x : BitVec 4) : a &&& b = 0#4 → a &&& x = 0#4 → a &&& (b ||| x) = 0#4 := by
  intro h0 h1
  (apply BitVec.eq_of_getLsbD_eq; intro i hi; have q0 := congrArg (fun x => x.getLsbD i) h0; have q1 := congrArg (fun x => x.getLsbD i) h1; simp [hi] at q0 q1 ⊢; grind)
theorem d1 (a b m o : BitVec 4) : a &&& ~~~b = 0#4 → (a &&& ~~~(m ||| o)) &&& ~~~(b &&& ~~~m) = 0#4 := by
  intro h
  apply BitVec.eq_of_getLsbD_eq
  intro i hi
  have h2 := congrArg (fun x => x.getLsbD i) h
  simp [hi] at h2 ⊢
  grind
theorem d2 (a b x : BitVec 4) : a &&& b = 0#4 → (a &&& x) &&& b = 0#4 := by
  intro h0
  (apply BitVec.eq_of_getLsbD_eq; intro i hi; have q0 := congrArg (fun x => x.getLsbD i) h0; simp [hi] at q0 ⊢; grind)
theorem d3 (a b x : BitVec 4) : a &&& b = 0#4 → a &&& (b &&& x) = 0#4 := by
  intro h0
  (apply BitVec.eq_of_getLsbD_eq; intro i hi; have q0 := congrArg (fun x => x.getLsbD i) h0; simp [hi] at q0 ⊢; grind)

theorem TB.Inv.grant' {T : TB} (h : T.Inv) {c p : Nat} {m o : BitVec 4} (hc : T.clash c p m o = false) : (T.grant' c p m o).Inv := by
  have hx := TB.clash_not hc
  refine ⟨fun a b => ?_, fun a d b ha hd hne => ?_⟩
  · unfold TB.grant' TB.setO TB.setC
    simp only []
    by_cases e : a = c ∧ b = p
    · rw [if_pos e, if_pos e]; obtain ⟨rfl, rfl⟩ := e; exact g1 _ _ _ _ (h.1 _ _)
    · rw [if_neg e, if_neg e]; exact h.1 _ _
  · unfold TB.grant' TB.setO TB.setC
    simp only []
    by_cases e : a = c ∧ b = p
    · rw [if_pos e, if_neg (by omega)]; obtain ⟨rfl, rfl⟩ := e
      exact g2 _ _ _ (h.2 _ _ _ ha hd hne) (hx d hd (by omega)).2
    · rw [if_neg e]
      by_cases e2 : d = c ∧ b = p
      · rw [if_pos e2]; obtain ⟨rfl, rfl⟩ := e2
        exact g3 _ _ _ (h.2 _ _ _ ha hd hne) (hx a ha hne).1
      · rw [if_neg e2]; exact h.2 _ _ _ ha hd hne
theorem TB.Inv.grant {T : TB} (h : T.Inv) (c p m o : Int) : (T.grant c p m o).Inv := by
  unfold TB.grant
  by_cases e : T.okG c p m o = true
  · rw [if_pos e]
    unfold TB.okG at e
    simp at e
    exact h.grant' e.2
  · rw [if_neg e]; exact h
theorem TB.Inv.drop {T : TB} (h : T.Inv) (c p m o : Int) : (T.drop c p m o).Inv := by
  unfold TB.drop
  by_cases e : (inT c p && okM m o) = true
  · rw [if_pos e]
    unfold TB.drop' TB.setO TB.setC
    refine ⟨fun a b => ?_, fun a d b ha hd hne => ?_⟩
    · simp only []
      by_cases e : a = c.toNat ∧ b = p.toNat
      · rw [if_pos e, if_pos e]; obtain ⟨rfl, rfl⟩ := e; exact d1 _ _ _ _ (h.1 _ _)
      · rw [if_neg e, if_neg e]; exact h.1 _ _
    · simp only []
      have hh := h.2 a d b ha hd hne
      by_cases e : a = c.toNat ∧ b = p.toNat
      · rw [if_pos e, if_neg (by omega)]; obtain ⟨rfl, rfl⟩ := e; exact d2 _ _ _ hh
      · rw [if_neg e]
        by_cases e2 : d = c.toNat ∧ b = p.toNat
        · rw [if_pos e2]; obtain ⟨rfl, rfl⟩ := e2; exact d3 _ _ _ hh
        · rw [if_neg e2]; exact hh
  · rw [if_neg e]; exact h
theorem TB.Inv.clr {T : TB} (h : T.Inv) (c : Int) : (T.clr c).Inv := by
  unfold TB.clr
  by_cases e : inT c 0 = true
  · rw [if_pos e]
    unfold TB.clear
    refine ⟨fun a b => ?_, fun a d b ha hd hne => ?_⟩
    · simp only []
      by_cases e : a = c.toNat
      · rw [if_pos e, if_pos e]; decide
      · rw [if_neg e, if_neg e]; exact h.1 _ _
    · simp only []
      by_cases e : a = c.toNat
      · rw [if_pos e]; simp
      · rw [if_neg e]
        by_cases e2 : d = c.toNat
        · rw [if_pos e2]; simp
        · rw [if_neg e2]; exact h.2 _ _ _ ha hd hne
  · rw [if_neg e]; exact h
end Go.Proofs.Ytlpimkmkcfbddaa
