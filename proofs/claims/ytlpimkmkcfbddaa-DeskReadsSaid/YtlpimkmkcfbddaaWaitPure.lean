/- Plain laws on edges: who can be come to. No condition. -/
import Derived.Test.YtlpimkmkcfbddaaBase
namespace Go.Proofs.Ytlpimkmkcfbddaa

/-- An edge to a client that is there. -/
def Ed (l : List (Int × Int)) (x y : Int) : Prop := (x, y) ∈ l ∧ 0 ≤ y ∧ y < 4

/-- To come from one to another along edges. -/
inductive Rch (l : List (Int × Int)) : Int → Int → Prop
  | one {x y : Int} : Ed l x y → Rch l x y
  | more {x y z : Int} : Ed l x y → Rch l y z → Rch l x z

theorem Rch.trans {l : List (Int × Int)} {x y z : Int} (h : Rch l x y) (k : Rch l y z) : Rch l x z := by
  induction h with
  | one e => exact .more e k
  | more e _ ih => exact .more e (ih k)
theorem Rch.into {l : List (Int × Int)} {x y : Int} (h : Rch l x y) : ∃ z, (x = z ∨ Rch l x z) ∧ Ed l z y := by
  induction h with
  | one e => exact ⟨_, .inl rfl, e⟩
  | more e _ ih =>
    obtain ⟨z, h1, h2⟩ := ih
    rcases h1 with rfl | h1
    · exact ⟨_, .inr (.one e), h2⟩
    · exact ⟨z, .inr (.more e h1), h2⟩
theorem Rch.out {l : List (Int × Int)} {x y : Int} (h : Rch l x y) : ∃ z, Ed l x z ∧ (z = y ∨ Rch l z y) := by
  cases h with
  | one e => exact ⟨_, e, .inl rfl⟩
  | more e h => exact ⟨_, e, .inr h⟩
theorem Rch.le {l : List (Int × Int)} {x y : Int} (h : Rch l x y) : 0 ≤ y ∧ y < 4 := by
  obtain ⟨_, _, h⟩ := h.into
  exact h.2
theorem Rch.mono {l m : List (Int × Int)} (hlm : ∀ e, e ∈ l → e ∈ m) {x y : Int} (h : Rch l x y) : Rch m x y := by
  induction h with
  | one e => exact .one ⟨hlm _ e.1, e.2⟩
  | more e _ ih => exact .more ⟨hlm _ e.1, e.2⟩ ih

/-- Which of the four were seen. -/
def upd (s : Nat → Bool) (y : Nat) (k : Nat) : Bool := if k = y then true else s k
def miss (s : Nat → Bool) : Nat := (if s 0 then 0 else 1) + (if s 1 then 0 else 1) + (if s 2 then 0 else 1) + (if s 3 then 0 else 1)
theorem miss_upd {s : Nat → Bool} {y : Nat} (hy : y < 4) (h : s y = false) : miss (upd s y) + 1 = miss s := by
  match y, hy with
  | 0, _ => simp [miss, upd, h]; omega
  | 1, _ => simp [miss, upd, h]; omega
  | 2, _ => simp [miss, upd, h]; omega
  | 3, _ => simp [miss, upd, h]
theorem miss_le {s t : Nat → Bool} (h : ∀ y, y < 4 → s y = true → t y = true) : miss t ≤ miss s := by
  have h0 := h 0 (by omega)
  have h1 := h 1 (by omega)
  have h2 := h 2 (by omega)
  have h3 := h 3 (by omega)
  unfold miss
  cases e0 : s 0 <;> cases e1 : s 1 <;> cases e2 : s 2 <;> cases e3 : s 3 <;> simp_all <;> (repeat' split) <;> omega

theorem take_one {α : Type} {l : List α} {k : Nat} {e : α} (hk : k < l.length) (h : e ∈ l.take (k + 1)) : e ∈ l.take k ∨ e = l[k] := by
  have : l.take (k + 1) = l.take k ++ [l[k]] := by simp
  rw [this, List.mem_append, List.mem_singleton] at h
  exact h
/-- What following the first k edges brings. -/
structure Seen (l : List (Int × Int)) (s : Nat → Bool) (x : Int) (s' : Nat → Bool) (k : Nat) : Prop where
  old : ∀ y, y < 4 → s y = true → s' y = true
  new : ∀ y : Nat, y < 4 → s' y = true → s y = true ∨ Rch l x y
  shut : ∀ y : Nat, y < 4 → s' y = true → s y = false → ∀ z : Nat, z < 4 → ((y : Int), (z : Int)) ∈ l → s' z = true
  next : ∀ z : Nat, z < 4 → (x, (z : Int)) ∈ l.take k → s' z = true

theorem Seen.start (l : List (Int × Int)) (s : Nat → Bool) (x : Int) : Seen l s x s 0 :=
  ⟨fun _ _ h => h, fun _ _ h => .inl h, fun _ _ h1 h2 => (by rw [h1] at h2; cases h2), fun z _ h => (by simp at h)⟩
theorem Seen.skip {l : List (Int × Int)} {s s' : Nat → Bool} {x : Int} {k : Nat} (h : Seen l s x s' k) (hk : k < l.length) (hs : ∀ z : Nat, z < 4 → l[k] = (x, (z : Int)) → s' z = true) : Seen l s x s' (k + 1) :=
  ⟨h.old, h.new, h.shut, fun z hz hm => by
    rcases take_one hk hm with hm | hm
    · exact h.next z hz hm
    · exact hs z hz hm.symm⟩
theorem Seen.step {l : List (Int × Int)} {s s' s2 : Nat → Bool} {x : Int} {y k : Nat} (h : Seen l s x s' k) (hk : k < l.length) (he : l[k] = (x, (y : Int))) (hy : y < 4) (hn : s' y = false)
    (h2 : Seen l (upd s' y) y s2 l.length) : Seen l s x s2 (k + 1) := by
  have up : ∀ z, z < 4 → s' z = true → s2 z = true := fun z hz hs => h2.old z hz (by unfold upd; split; rfl; exact hs)
  have hyy : s2 y = true := h2.old y hy (by simp [upd])
  have hed : Ed l x y := ⟨by rw [← he]; exact List.getElem_mem hk, by omega, by omega⟩
  refine ⟨fun z hz hs => up z hz (h.old z hz hs), fun z hz hs => ?_, fun z hz hs hf u hu hm => ?_, fun z hz hm => ?_⟩
  · rcases h2.new z hz hs with h3 | h3
    · by_cases e : z = y
      · subst e; exact .inr (.one hed)
      · simp [upd, e] at h3; exact h.new z hz h3
    · exact .inr (.more hed h3)
  · by_cases e : z = y
    · subst e
      exact h2.next u hu (by rw [List.take_length]; exact hm)
    · cases e3 : s' z
      · exact h2.shut z hz hs (by simp [upd, e, e3]) u hu hm
      · exact up u hu (h.shut z hz e3 hf u hu hm)
  · rcases take_one hk hm with hm | hm
    · exact up z hz (h.next z hz hm)
    · rw [he] at hm
      simp at hm
      have : z = y := by omega
      subst this; exact hyy
theorem Seen.iff {l : List (Int × Int)} {s' : Nat → Bool} {x : Int} (h : Seen l (fun _ => false) x s' l.length) (z : Nat) (hz : z < 4) : s' z = true ↔ Rch l x z := by
  constructor
  · intro hs
    rcases h.new z hz hs with h1 | h1
    · cases h1
    · exact h1
  · intro hr
    have key : ∀ (a b : Int), Rch l a b → ∀ y u : Nat, a = y → b = u → y < 4 → u < 4 → s' y = true → s' u = true := by
      intro a b hab
      induction hab with
      | one e =>
        rintro y u rfl rfl hy hu hs
        exact h.shut y hy hs rfl u hu e.1
      | more e _ ih =>
        rintro y u rfl rfl hy hu hs
        obtain ⟨v, hv⟩ := Int.eq_ofNat_of_zero_le e.2.1
        have hv4 : v < 4 := by have := e.2.2; omega
        exact ih v u hv rfl hv4 hu (h.shut y hy hs rfl v hv4 (by rw [← hv]; exact e.1))
    obtain ⟨w, e, h2⟩ := hr.out
    obtain ⟨v, rfl⟩ := Int.eq_ofNat_of_zero_le e.2.1
    have hv4 : v < 4 := by have := e.2.2; omega
    have hv := h.next v hv4 (by rw [List.take_length]; exact e.1)
    rcases h2 with h2 | h2
    · have : v = z := by omega
      subst this; exact hv
    · exact key _ _ h2 v z rfl rfl hv4 hz hv

/-- Whom one comes to, of the first n. -/
noncomputable def rchB (l : List (Int × Int)) (x y : Int) : Bool := @decide (Rch l x y) (Classical.propDecidable _)
theorem rchB_iff (l : List (Int × Int)) (x y : Int) : rchB l x y = true ↔ Rch l x y := by
  exact @decide_eq_true_iff _ (Classical.propDecidable _)
noncomputable def rchN (l : List (Int × Int)) (x : Int) : Nat → List Int
  | 0 => []
  | n + 1 => if rchB l x (n : Int) then rchN l x n ++ [(n : Int)] else rchN l x n
noncomputable def reachL (l : List (Int × Int)) (x : Int) : List Int := if decide (0 ≤ x ∧ x < 4) then rchN l x 4 else []
theorem rchN_mem (l : List (Int × Int)) (x z : Int) : ∀ n, z ∈ rchN l x n ↔ ∃ k : Nat, z = k ∧ k < n ∧ Rch l x z := by
  intro n
  induction n with
  | zero => simp [rchN]
  | succ m ih =>
    unfold rchN
    cases e : rchB l x (m : Int)
    · rw [if_neg (by simp), ih]
      constructor
      · rintro ⟨k, h1, h2, h3⟩; exact ⟨k, h1, by omega, h3⟩
      · rintro ⟨k, h1, h2, h3⟩
        refine ⟨k, h1, ?_, h3⟩
        have : k ≠ m := by
          rintro rfl
          rw [h1, ← rchB_iff, e] at h3; cases h3
        omega
    · rw [if_pos rfl, List.mem_append, ih, List.mem_singleton]
      constructor
      · rintro (⟨k, h1, h2, h3⟩ | h)
        · exact ⟨k, h1, by omega, h3⟩
        · exact ⟨m, h, by omega, by rw [h]; exact (rchB_iff _ _ _).1 e⟩
      · rintro ⟨k, h1, h2, h3⟩
        by_cases ek : k = m
        · subst ek; exact .inr h1
        · exact .inl ⟨k, h1, by omega, h3⟩
theorem rchN_le (l : List (Int × Int)) (x : Int) : ∀ n, (rchN l x n).length ≤ n := by
  intro n
  induction n with
  | zero => simp [rchN]
  | succ m ih =>
    unfold rchN
    split
    · simp; omega
    · omega
theorem reachL_mem (l : List (Int × Int)) (x z : Int) : z ∈ reachL l x ↔ (0 ≤ x ∧ x < 4) ∧ Rch l x z := by
  unfold reachL
  by_cases h : 0 ≤ x ∧ x < 4
  · rw [if_pos (by simpa using h), rchN_mem]
    constructor
    · rintro ⟨k, _, _, h3⟩; exact ⟨h, h3⟩
    · rintro ⟨_, h3⟩
      have := h3.le
      exact ⟨z.toNat, by omega, by omega, h3⟩
  · rw [if_neg (by simpa using h)]
    simp [h]
theorem reachL_le (l : List (Int × Int)) (x : Int) : (reachL l x).length ≤ 4 := by
  unfold reachL
  split
  · exact rchN_le _ _ _
  · simp
theorem reachL_out {l : List (Int × Int)} {x : Int} (h : ¬ (0 ≤ x ∧ x < 4)) : reachL l x = [] := by
  unfold reachL; rw [if_neg (by simpa using h)]

/-- Does one wait for itself? -/
noncomputable def cyc (l : List (Int × Int)) (x : Int) : Bool := rchB l x x && decide (0 ≤ x ∧ x < 4)
theorem cyc_iff (l : List (Int × Int)) (x : Int) : cyc l x = true ↔ (0 ≤ x ∧ x < 4) ∧ Rch l x x := by
  unfold cyc; rw [Bool.and_eq_true, rchB_iff, decide_eq_true_iff]; exact And.comm
theorem cyc_mem (l : List (Int × Int)) (x : Int) : cyc l x = true ↔ x ∈ reachL l x := by rw [cyc_iff, reachL_mem]

/-- Who gives way: the greatest that waits for itself, of those under n. -/
noncomputable def vicN (l : List (Int × Int)) : Nat → Option Nat
  | 0 => none
  | n + 1 => if cyc l n then some n else vicN l n
theorem vicN_none {l : List (Int × Int)} : ∀ {n : Nat}, vicN l n = none → ∀ k, k < n → cyc l k = false := by
  intro n
  induction n with
  | zero => intro _ k hk; omega
  | succ m ih =>
    intro h k hk
    unfold vicN at h
    by_cases e : cyc l m = true
    · rw [if_pos e] at h; cases h
    · rw [if_neg e] at h
      by_cases ek : k = m
      · subst ek; simpa using e
      · exact ih h k (by omega)
theorem vicN_some {l : List (Int × Int)} : ∀ {n v : Nat}, vicN l n = some v → v < n ∧ cyc l v = true ∧ ∀ k, v < k → k < n → cyc l k = false := by
  intro n
  induction n with
  | zero => intro v h; cases h
  | succ m ih =>
    intro v h
    unfold vicN at h
    by_cases e : cyc l m = true
    · rw [if_pos e] at h
      cases h
      exact ⟨by omega, e, fun k h1 h2 => by omega⟩
    · rw [if_neg e] at h
      obtain ⟨h1, h2, h3⟩ := ih h
      refine ⟨by omega, h2, fun k h4 h5 => ?_⟩
      by_cases ek : k = m
      · subst ek; simpa using e
      · exact h3 k h4 (by omega)

/-- What is left if one doesn't wait. -/
def without (l : List (Int × Int)) (c : Int) : List (Int × Int) := l.filter fun e => !(e.1 == c)
end Go.Proofs.Ytlpimkmkcfbddaa
