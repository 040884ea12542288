/- Plain laws on rings. No condition. -/
import Derived.Test.YtlpimkmkcfbddaaWaitApp
namespace Go.Proofs.Ytlpimkmkcfbddaa

/-- The edges of a ring: each to the next, the last to the first. -/
def ringE (r : List Int) : Nat → List (Int × Int)
  | 0 => []
  | k + 1 => ringE r k ++ [(r.getD k 0, if k + 1 < r.length then r.getD (k + 1) 0 else r.getD 0 0)]
theorem ringE_len (r : List Int) : ∀ k, (ringE r k).length = k := by
  intro k
  induction k with
  | zero => rfl
  | succ k ih => simp [ringE, ih]
def nxt (r : List Int) (i : Nat) : Int := if i + 1 < r.length then r.getD (i + 1) 0 else r.getD 0 0
theorem ringE_mem (r : List Int) (x y : Int) : ∀ n, (x, y) ∈ ringE r n ↔ ∃ i, i < n ∧ x = r.getD i 0 ∧ y = nxt r i := by
  intro n
  induction n with
  | zero => simp [ringE]
  | succ k ih =>
    rw [ringE, List.mem_append, ih, List.mem_singleton, Prod.mk.injEq]
    constructor
    · rintro (⟨i, h1, h2, h3⟩ | ⟨h1, h2⟩)
      · exact ⟨i, by omega, h2, h3⟩
      · exact ⟨k, by omega, h1, h2⟩
    · rintro ⟨i, h1, h2, h3⟩
      by_cases e : i = k
      · subst e; exact .inr ⟨h2, h3⟩
      · exact .inl ⟨i, by omega, h2, h3⟩
theorem ringE_get (r : List Int) (n : Nat) : ∀ (i : Nat) (h : i < (ringE r n).length), (ringE r n)[i] = (r.getD i 0, nxt r i) := by
  induction n with
  | zero => intro i h; exact absurd h (by simp [ringE])
  | succ k ih =>
    intro i h
    simp only [ringE]
    rw [List.getElem_append]
    split
    · exact ih i _
    · rename_i hn
      rw [ringE_len] at hn
      have : i = k := by rw [ringE_len] at h; omega
      subst this
      simp [nxt]

/-- A ring: some of the four, each once. -/
structure Ring (r : List Int) : Prop where
  pos : 0 < r.length
  le : ∀ i, i < r.length → 0 ≤ r.getD i 0 ∧ r.getD i 0 < 4
  inj : ∀ i j, i < r.length → j < r.length → r.getD i 0 = r.getD j 0 → i = j

theorem Ring.ed {r : List Int} (h : Ring r) {i : Nat} (hi : i < r.length) : Ed (ringE r r.length) (r.getD i 0) (nxt r i) := by
  refine ⟨(ringE_mem r _ _ _).2 ⟨i, hi, rfl, rfl⟩, ?_⟩
  unfold nxt
  split
  · exact h.le _ (by assumption)
  · exact h.le 0 h.pos
theorem Ring.toFirst {r : List Int} (h : Ring r) : ∀ d i : Nat, i + d + 1 = r.length → Rch (ringE r r.length) (r.getD i 0) (r.getD 0 0) := by
  intro d
  induction d with
  | zero =>
    intro i hi
    have := h.ed (i := i) (by omega)
    unfold nxt at this
    rw [if_neg (by omega)] at this
    exact .one this
  | succ d ih =>
    intro i hi
    have := h.ed (i := i) (by omega)
    unfold nxt at this
    rw [if_pos (by omega)] at this
    exact .more this (ih (i + 1) (by omega))
theorem Ring.fromFirst {r : List Int} (h : Ring r) : ∀ i : Nat, i + 1 < r.length → Rch (ringE r r.length) (r.getD 0 0) (r.getD (i + 1) 0) := by
  intro i
  induction i with
  | zero =>
    intro hi
    have := h.ed (i := 0) (by omega)
    unfold nxt at this
    rw [if_pos (by omega)] at this
    exact .one this
  | succ i ih =>
    intro hi
    have := h.ed (i := i + 1) (by omega)
    unfold nxt at this
    rw [if_pos (by omega)] at this
    exact (ih (by omega)).trans (.one this)
theorem Ring.self {r : List Int} (h : Ring r) {i : Nat} (hi : i < r.length) : Rch (ringE r r.length) (r.getD i 0) (r.getD i 0) := by
  have h1 := h.toFirst (r.length - 1 - i) i (by omega)
  rcases Nat.eq_zero_or_pos i with h0 | h0
  · subst h0; exact h1
  · obtain ⟨j, rfl⟩ : ∃ j, i = j + 1 := ⟨i - 1, by omega⟩
    exact h1.trans (h.fromFirst j hi)
theorem Ring.cycl {r : List Int} (h : Ring r) (x : Int) : cyc (ringE r r.length) x = true ↔ ∃ i, i < r.length ∧ x = r.getD i 0 := by
  rw [cyc_iff]
  constructor
  · rintro ⟨_, hr⟩
    obtain ⟨z, he, _⟩ := hr.out
    obtain ⟨i, h1, h2, _⟩ := (ringE_mem r _ _ _).1 he.1
    exact ⟨i, h1, h2⟩
  · rintro ⟨i, hi, rfl⟩
    exact ⟨h.le i hi, h.self hi⟩

/-- With one link missing: the place behind it counts. -/
theorem Ring.broken {r : List Int} (h : Ring r) {m : Nat} (hm : m < r.length) (x : Int) : cyc ((ringE r r.length).take m ++ (ringE r r.length).drop (m + 1)) x = false := by
  have hmem : ∀ a b, (a, b) ∈ (ringE r r.length).take m ++ (ringE r r.length).drop (m + 1) → ∃ i, i < r.length ∧ i ≠ m ∧ a = r.getD i 0 ∧ b = nxt r i := by
    intro a b hab
    rcases List.mem_append.1 hab with h1 | h1
    · obtain ⟨i, hi, he⟩ := List.mem_iff_getElem.1 h1
      rw [List.getElem_take, ringE_get] at he
      rw [List.length_take, ringE_len] at hi
      simp only [Prod.mk.injEq] at he
      exact ⟨i, by omega, by omega, he.1.symm, he.2.symm⟩
    · obtain ⟨i, hi, he⟩ := List.mem_iff_getElem.1 h1
      rw [List.getElem_drop, ringE_get] at he
      rw [List.length_drop, ringE_len] at hi
      simp only [Prod.mk.injEq] at he
      exact ⟨m + 1 + i, by omega, by omega, he.1.symm, he.2.symm⟩
  -- how far behind the missing link
  let f : Nat → Nat := fun i => if m < i then i - m - 1 else i + r.length - m - 1
  have key : ∀ a b, Rch ((ringE r r.length).take m ++ (ringE r r.length).drop (m + 1)) a b → ∃ i j, i < r.length ∧ j < r.length ∧ a = r.getD i 0 ∧ b = r.getD j 0 ∧ f i < f j := by
    have step : ∀ a b, (a, b) ∈ (ringE r r.length).take m ++ (ringE r r.length).drop (m + 1) → ∃ i j, i < r.length ∧ j < r.length ∧ a = r.getD i 0 ∧ b = r.getD j 0 ∧ f i < f j := by
      intro a b hab
      obtain ⟨i, h1, h2, h3, h4⟩ := hmem a b hab
      unfold nxt at h4
      by_cases e : i + 1 < r.length
      · rw [if_pos e] at h4
        refine ⟨i, i + 1, h1, e, h3, h4, ?_⟩
        show (if m < i then i - m - 1 else i + r.length - m - 1) < (if m < i + 1 then i + 1 - m - 1 else i + 1 + r.length - m - 1)
        by_cases e2 : m < i
        · rw [if_pos e2, if_pos (by omega)]; omega
        · rw [if_neg e2, if_neg (by omega)]; omega
      · rw [if_neg e] at h4
        refine ⟨i, 0, h1, h.pos, h3, h4, ?_⟩
        show (if m < i then i - m - 1 else i + r.length - m - 1) < (if m < 0 then 0 - m - 1 else 0 + r.length - m - 1)
        rw [if_pos (by omega), if_neg (by omega)]; omega
    intro a b hr
    induction hr with
    | one e => exact step _ _ e.1
    | more e _ ih =>
      obtain ⟨i, j, h1, h2, h3, h4, h5⟩ := step _ _ e.1
      obtain ⟨i', j', g1, g2, g3, g4, g5⟩ := ih
      have : j = i' := h.inj j i' h2 g1 (by rw [← h4, ← g3])
      subst this
      exact ⟨i, j', h1, g2, h3, g4, by omega⟩
  refine cyc_f fun hr => ?_
  obtain ⟨i, j, h1, h2, h3, h4, h5⟩ := key _ _ hr
  have : i = j := h.inj i j h1 h2 (by rw [← h3, ← h4])
  subst this
  omega
theorem Ring.vic {r : List Int} (h : Ring r) {most : Int} (hge : ∀ i, i < r.length → r.getD i 0 ≤ most) (hin : ∃ i, i < r.length ∧ most = r.getD i 0) : ∃ v : Nat, vicN (ringE r r.length) 4 = some v ∧ most = v := by
  obtain ⟨i, hi, he⟩ := hin
  have hle := h.le i hi
  have hcm : Go.Proofs.Ytlpimkmkcfbddaa.cyc (ringE r r.length) ((most.toNat : Nat) : Int) = true := (h.cycl _).2 ⟨i, hi, by omega⟩
  cases hv : vicN (ringE r r.length) 4 with
  | none =>
    have := vicN_none hv most.toNat (by omega)
    rw [hcm] at this; cases this
  | some v =>
    obtain ⟨h1, h2, h3⟩ := vicN_some hv
    obtain ⟨j, hj, hjv⟩ := (h.cycl _).1 h2
    have := hge j hj
    refine ⟨v, rfl, ?_⟩
    rcases Int.lt_trichotomy most v with h5 | h5 | h5
    · omega
    · exact h5
    · have := h3 most.toNat (by omega) (by omega)
      rw [hcm] at this; cases this
end Go.Proofs.Ytlpimkmkcfbddaa
