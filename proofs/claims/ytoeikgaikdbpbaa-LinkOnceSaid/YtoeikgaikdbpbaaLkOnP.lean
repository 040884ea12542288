/- Once, in order: plain law of two ends and what lies between. No condition. -/
import Derived.Test.YtoeikgaikdbpbaaLkEx
namespace Go.Proofs.Ytoeikgaikdbpbaa
open Go.RowKit

def upd {α : Type} (f : Nat → α) (i : Nat) (x : α) (k : Nat) : α := if k = i then x else f k
theorem upd_at {α : Type} (f : Nat → α) (i : Nat) (x : α) : upd f i x i = x := by unfold upd; rw [if_pos rfl]
theorem upd_ne {α : Type} (f : Nat → α) {i k : Nat} (x : α) (h : k ≠ i) : upd f i x k = f k := by unfold upd; rw [if_neg h]
theorem upd_id {α : Type} (f : Nat → α) (i : Nat) : upd f i (f i) = f := by funext k; unfold upd; split; subst_vars; rfl; rfl
/-- A packet on its way from the end of number j. -/
structure OkQ (j : Nat) (I O : List (List Int)) (q : Pq) : Prop where
  v : q.v = decide (j = 1)
  k : q.k ≤ O.length
  s : -9223372036854775808 ≤ q.s ∧ q.s ≤ 9223372036854775807
  l : q.l.length ≤ 700
  body : 1 ≤ q.s → ∃ m : Nat, q.s = m + 1 ∧ I[m]? = some q.l
structure Onc (K : Nat → Lk) (I O : Nat → List (List Int)) (kn : Nat → Nat) (W : List Pq) : Prop where
  rel : ∀ j, j < 2 → ∃ c e b, Rel (K j) ⟨c, e, b, decide (j = 1), I j, kn j, (O j).length⟩ (kn j)
  knl : ∀ j, j < 2 → kn j ≤ (O (1 - j)).length
  pre : ∀ j, j < 2 → ∀ (i : Nat) x, (O j)[i]? = some x → (I (1 - j))[i]? = some x
  way : ∀ q ∈ W, ∃ j, j < 2 ∧ OkQ j (I j) (O j) q
theorem Onc.new (c e b : Int) (K : Nat → Lk) (h0 : K 0 = newLk c e b false) (h1 : K 1 = newLk c e b true) : Onc K (fun _ => []) (fun _ => []) (fun _ => 0) [] := by
  refine ⟨fun j hj => ⟨c, e, b, ?_⟩, fun _ _ => Nat.le_refl _, fun j _ i x h => by simp at h, fun q hq => by simp at hq⟩
  rcases (show j = 0 ∨ j = 1 by omega) with rfl | rfl
  · rw [h0]; exact Rel.new c e b false
  · rw [h1]; exact Rel.new c e b true
theorem Onc.len {K : Nat → Lk} {I O : Nat → List (List Int)} {kn : Nat → Nat} {W : List Pq} (h : Onc K I O kn W) {j : Nat} (hj : j < 2) : (O j).length ≤ (I (1 - j)).length := by
  rcases Nat.lt_or_ge (I (1 - j)).length (O j).length with g | g
  · have h1 := h.pre j hj (I (1 - j)).length ((O j)[(I (1 - j)).length]) (List.getElem?_eq_getElem g)
    rw [List.getElem?_eq_none (Nat.le_refl _)] at h1
    simp at h1
  · exact g
theorem Onc.sub {K : Nat → Lk} {I O : Nat → List (List Int)} {kn : Nat → Nat} {W W' : List Pq} (h : Onc K I O kn W) (hW : ∀ q ∈ W', q ∈ W) : Onc K I O kn W' := ⟨h.rel, h.knl, h.pre, fun q hq => h.way q (hW q hq)⟩
theorem Onc.push {K : Nat → Lk} {I O : Nat → List (List Int)} {kn : Nat → Nat} {W : List Pq} (h : Onc K I O kn W) {j : Nat} (hj : j < 2) (l : List Int) (t : It) (h1 : t.s = (K j).sent + 1) (h2 : t.l = l) (h0 : pushE (K j) l = 0) :
    Onc (upd K j ((K j).add t)) (upd I j (I j ++ [l])) O kn W := by
  have hI : ∀ (i : Nat) x, (I j)[i]? = some x → (I j ++ [l])[i]? = some x := fun i x hx => by
    have := (List.getElem?_eq_some_iff.1 hx).1
    rw [List.getElem?_append_left this]; exact hx
  refine ⟨fun i hi => ?_, h.knl, fun i hi m x hx => ?_, fun q hq => ?_⟩
  · by_cases e : i = j
    · subst e
      obtain ⟨c, e, b, hr⟩ := h.rel i hi
      have hp := hr.push l t h1 h2
      rw [if_pos h0] at hp
      unfold Rl.push at hp
      rw [← hr.pushE, if_pos h0] at hp
      rw [upd_at, upd_at]
      exact ⟨c, e, b, hp⟩
    · rw [upd_ne _ _ e, upd_ne _ _ e]; exact h.rel i hi
  · have := h.pre i hi m x hx
    by_cases e : 1 - i = j
    · rw [e, upd_at]; rw [e] at this; exact hI _ _ this
    · rw [upd_ne _ _ e]; exact this
  · obtain ⟨i, hi, g⟩ := h.way q hq
    refine ⟨i, hi, ?_⟩
    by_cases e : i = j
    · subst e
      rw [upd_at]
      exact ⟨g.v, g.k, g.s, g.l, fun h1 => by obtain ⟨m, hm, hx⟩ := g.body h1; exact ⟨m, hm, hI _ _ hx⟩⟩
    · rw [upd_ne _ _ e]; exact g
theorem Onc.pack {K : Nat → Lk} {I O : Nat → List (List Int)} {kn : Nat → Nat} {W : List Pq} (h : Onc K I O kn W) {j : Nat} (hj : j < 2) (hb : ∀ x ∈ (K j).pks, x.2.length ≤ 700) (hs : (K j).sent ≤ 16777215) : Onc K I O kn (W ++ (K j).pks.map (exQ (K j))) := by
  refine ⟨h.rel, h.knl, h.pre, fun q hq => ?_⟩
  rcases List.mem_append.1 hq with hq | hq
  · exact h.way q hq
  · obtain ⟨x, hx, rfl⟩ := List.mem_map.1 hq
    obtain ⟨c, e, b, hr⟩ := h.rel j hj
    have hl := hb x hx
    have hsent := hr.sent
    have hle := hr.le
    simp only at hsent hle
    refine ⟨j, hj, hr.v, by show (K j).heard ≤ _; rw [hr.heard]; exact Int.le_refl _, ?_, hl, ?_⟩
    · rw [hr.pks] at hx
      unfold Rl.pks at hx
      show -9223372036854775808 ≤ x.1 ∧ x.1 ≤ 9223372036854775807
      split at hx
      · simp at hx; subst hx; simp
      · have := rpks_lo hx; simp only at this; omega
    · intro h1
      have h1' : 1 ≤ x.1 := h1
      rw [hr.pks] at hx
      unfold Rl.pks at hx
      split at hx
      · simp at hx; subst hx; simp at h1'
      · unfold rpks at hx
        obtain ⟨m, hm, rfl⟩ := List.mem_map.1 hx
        have hm' : m < (I j).length - kn j := by simpa using hm
        refine ⟨kn j + m, rfl, ?_⟩
        show (I j)[kn j + m]? = some ((I j).getD (kn j + m) [])
        rw [List.getElem?_eq_getElem (by omega), List.getD_eq_getElem?_getD, List.getElem?_eq_getElem (by omega)]
        rfl
theorem Onc.got {K : Nat → Lk} {I O : Nat → List (List Int)} {kn : Nat → Nat} {W : List Pq} (h : Onc K I O kn W) {q : Pq} (hq : q ∈ W) {t : Nat} (ht : t < 2) (hv : q.v = decide (t = 0)) :
    ∃ kn', Onc (upd K t ((K t).got q)) I (upd O t (if (K t).takes q then O t ++ [q.l] else O t)) kn' W := by
  obtain ⟨j, hj, g⟩ := h.way q hq
  have hjt : j = 1 - t := by
    have := g.v
    rw [hv] at this
    simp at this
    omega
  have htj : 1 - j = t := by omega
  obtain ⟨c, e, b, hr⟩ := h.rel t ht
  have htk := hr.takes q
  by_cases hm : (K t).mine q = true
  · obtain ⟨k', hr'⟩ := hr.got q
    have hm2 := hm
    rw [hr.mine] at hm2
    unfold Rl.got at hr'
    rw [if_pos hm2] at hr'
    have hk' := hr'.known
    simp only at hr' hk'
    unfold Rl.takes at htk
    rw [hm2] at htk
    simp only [Bool.true_and] at htk
    have hO : ∀ (i : Nat) x, (O t)[i]? = some x → (if (K t).takes q then O t ++ [q.l] else O t)[i]? = some x := fun i x hx => by
      have := (List.getElem?_eq_some_iff.1 hx).1
      split
      · rw [List.getElem?_append_left this]; exact hx
      · exact hx
    have hOl : (O t).length ≤ (if (K t).takes q then O t ++ [q.l] else O t).length := by split <;> simp
    have hg : (if 1 ≤ q.s ∧ q.s - 1 = ((O t).length : Int) then q.s else ((O t).length : Int)) = ((if (K t).takes q then O t ++ [q.l] else O t).length : Int) := by
      by_cases e : 1 ≤ q.s ∧ q.s - 1 = ((O t).length : Int)
      · rw [if_pos e, if_pos (by rw [htk]; exact decide_eq_true e)]; simp; omega
      · rw [if_neg e, if_neg (by rw [htk]; simpa using e)]
    rw [hg] at hr'
    have hkt := h.knl t ht
    have hgk := g.k
    rw [hjt] at hgk
    refine ⟨upd kn t k', fun i hi => ?_, fun i hi => ?_, fun i hi m x hx => ?_, fun p hp => ?_⟩
    · by_cases e : i = t
      · subst e
        rw [upd_at, upd_at, upd_at]
        rw [hk'] at hr'
        exact ⟨c, _, b, hr'⟩
      · rw [upd_ne _ _ e, upd_ne _ _ e, upd_ne _ _ e]; exact h.rel i hi
    · by_cases e : i = t
      · subst e
        rw [upd_at, upd_ne _ _ (by omega)]
        split at hk' <;> omega
      · rw [upd_ne _ _ e]
        have := h.knl i hi
        rw [show 1 - i = t by omega] at this ⊢
        rw [upd_at]
        omega
    · by_cases e : i = t
      · subst e
        rw [upd_at] at hx
        split at hx
        · rename_i hk
          rw [htk] at hk
          obtain ⟨e1, e2⟩ := of_decide_eq_true hk
          by_cases e3 : m < (O i).length
          · rw [List.getElem?_append_left e3] at hx
            exact h.pre i hi m x hx
          · rw [List.getElem?_append_right (by omega)] at hx
            have e4 : m = (O i).length := by
              have := (List.getElem?_eq_some_iff.1 hx).1
              simp at this; omega
            subst e4
            simp at hx
            subst hx
            obtain ⟨m', hm', hb⟩ := g.body e1
            rw [show (O i).length = m' by omega, ← hjt]
            exact hb
        · exact h.pre i hi m x hx
      · rw [upd_ne _ _ e] at hx; exact h.pre i hi m x hx
    · obtain ⟨i, hi, g'⟩ := h.way p hp
      refine ⟨i, hi, ?_⟩
      by_cases e : i = t
      · subst e
        rw [upd_at]
        exact ⟨g'.v, by have := g'.k; omega, g'.s, g'.l, g'.body⟩
      · rw [upd_ne _ _ e]; exact g'
  · have hg : (K t).got q = K t := by unfold Lk.got; rw [if_neg hm]
    have htk2 : (K t).takes q = false := by unfold Lk.takes; simp [hm]
    rw [hg, htk2]
    simp only [Bool.false_eq_true, if_false]
    rw [upd_id, upd_id]
    exact ⟨kn, h⟩
end Go.Proofs.Ytoeikgaikdbpbaa
