/- Items in a block of their own. No condition. -/
import Derived.Test.YtoeikgaikdbpbaaSecApp
namespace Go.Proofs.Ytoeikgaikdbpbaa
open Go.RowKit

/-- An item: its number, and its bytes with the slice that holds them. -/
structure It where
  s : Int
  a : Option Addr
  c : Nat
  l : List Int
def icells (L : List It) : List Value := L.flatMap fun e => [.int .i64 e.s, .slice e.a e.l.length e.c]
theorem icells_len (L : List It) : (icells L).length = L.length * 2 := by
  induction L with
  | nil => rfl
  | cons e t ih => simp [icells] at ih ⊢; omega
theorem icells_at : ∀ (L : List It) (k : Nat) (h : k < L.length), (icells L)[k * 2]? = some (.int .i64 L[k].s) ∧ (icells L)[k * 2 + 1]? = some (.slice L[k].a L[k].l.length L[k].c)
  | [], k, h => absurd h (Nat.not_lt_zero _)
  | e :: t, 0, _ => ⟨rfl, rfl⟩
  | e :: t, k + 1, h => by
    have := icells_at t k (by simpa using h)
    show (_ :: _ :: icells t)[(k + 1) * 2]? = _ ∧ (_ :: _ :: icells t)[(k + 1) * 2 + 1]? = _
    rw [show (k + 1) * 2 = k * 2 + 1 + 1 by omega]
    simpa using this
theorem icells_append (L M : List It) : icells (L ++ M) = icells L ++ icells M := by simp [icells]
theorem icells_eq {L : List It} {cs : Array Value} (_ : L.length * 2 ≤ cs.size) (h : ∀ k (h : k < L.length), cs[k * 2]? = some (.int .i64 L[k].s) ∧ cs[k * 2 + 1]? = some (.slice L[k].a L[k].l.length L[k].c)) : cs.toList.take (L.length * 2) = icells L := by
  apply List.ext_getElem?
  intro j
  by_cases hj : j < L.length * 2
  · rw [List.getElem?_take, if_pos hj, Array.getElem?_toList]
    have hk : j / 2 < L.length := by omega
    obtain ⟨h1, h2⟩ := h (j / 2) hk
    obtain ⟨g1, g2⟩ := icells_at L (j / 2) hk
    rcases Nat.mod_two_eq_zero_or_one j with e | e
    · have ej : j / 2 * 2 = j := by omega
      rw [ej] at h1 g1
      rw [h1, g1]
    · have ej : j / 2 * 2 + 1 = j := by omega
      rw [ej] at h2 g2
      rw [h2, g2]
  · rw [List.getElem?_eq_none (by rw [List.length_take]; omega), List.getElem?_eq_none (by rw [icells_len]; exact Nat.le_of_not_lt hj)]

/-- A block with room for c items. -/
def ItB (w : World) (g c : Nat) (L : List It) : Prop :=
  ∃ cs, w.heap[g]? = some (.cells cs 63 (0, 0)) ∧ cs.size = c * 2 ∧ L.length ≤ c ∧ ∀ k (h : k < L.length), cs[k * 2]? = some (.int .i64 L[k].s) ∧ cs[k * 2 + 1]? = some (.slice L[k].a L[k].l.length L[k].c)
theorem ItB.lt {w : World} {g c : Nat} {L : List It} (h : ItB w g c L) : g < w.heap.size := by
  obtain ⟨cs, hb, _⟩ := h; exact lt_of_blk hb
theorem ItB.keep {w w1 : World} {g c : Nat} {L : List It} {F : Nat → Prop} (h : ItB w g c L) (hk : Keeps F w w1) (hF : ¬ F g) : ItB w1 g c L := by
  obtain ⟨cs, hb, h1, h2⟩ := h
  exact ⟨cs, hk.blk hb hF, h1, h2⟩
theorem ItB.cell {w : World} {g c : Nat} {L : List It} (h : ItB w g c L) {k : Nat} (hk : k < L.length) : w.cell? ⟨g, k * 2, none⟩ = some (.int .i64 L[k].s) ∧ w.cell? ⟨g, k * 2 + 1, none⟩ = some (.slice L[k].a L[k].l.length L[k].c) := by
  obtain ⟨cs, hb, _, h1, h2⟩ := h
  exact ⟨blk_cell hb (h2 k hk).1, blk_cell hb (h2 k hk).2⟩
theorem ItB.free {w : World} {g c : Nat} {L : List It} (h : ItB w g c L) (i : Nat) : w.frozen? ⟨g, i, none⟩ = false := by
  obtain ⟨cs, hb, _⟩ := h; exact blk_free hb i
theorem ItB.set {w : World} {g c : Nat} {L : List It} (h : ItB w g c L) {i : Nat} (_hi : i < L.length) (e : It) : ItB ((w.setCell ⟨g, i * 2, none⟩ (.int .i64 e.s)).setCell ⟨g, i * 2 + 1, none⟩ (.slice e.a e.l.length e.c)) g c (L.set i e) := by
  obtain ⟨cs, hb, h0, h1, h2⟩ := h
  refine ⟨_, heap_setCell_same _ _ _ _ (heap_setCell_same _ _ _ _ hb), by simpa using h0, by simpa using h1, fun k hk => ?_⟩
  have hk' : k < L.length := by simpa using hk
  obtain ⟨h3, h4⟩ := h2 k hk'
  rw [List.getElem_set]
  simp only [Array.getElem?_setIfInBounds, Array.size_setIfInBounds]
  by_cases e : i = k
  · subst e
    constructor
    · rw [if_neg (by omega), if_pos rfl, if_pos (by omega), if_pos rfl]
    · rw [if_pos rfl, if_pos (by omega), if_pos rfl]
  · constructor
    · rw [if_neg (by omega), if_neg (by omega), if_neg e]; exact h3
    · rw [if_neg (by omega), if_neg (by omega), if_neg e]; exact h4
theorem ItB.take {w : World} {g c : Nat} {L : List It} (h : ItB w g c L) (n : Nat) : ItB w g c (L.take n) := by
  obtain ⟨cs, hb, h0, h1, h2⟩ := h
  refine ⟨cs, hb, h0, by rw [List.length_take]; omega, fun k hk => ?_⟩
  have := h2 k (by rw [List.length_take] at hk; omega)
  rw [List.getElem_take]; exact this

/-- A slice of items in a block of S (or nil). -/
def ItO (w : World) (S : Nat → Prop) (v : Value) (L : List It) : Prop :=
  (v = .slice none 0 0 ∧ L = []) ∨ ∃ g c, v = .slice (some ⟨g, 0, none⟩) L.length c ∧ S g ∧ c ≤ maxLen ∧ ItB w g c L
theorem ItO.keep {w w1 : World} {S : Nat → Prop} {v : Value} {L : List It} {F : Nat → Prop} (h : ItO w S v L) (hk : Keeps F w w1) (hF : ∀ x, S x → ¬ F x) : ItO w1 S v L := by
  rcases h with h | ⟨g, c, rfl, hS, hc, hb⟩
  · exact .inl h
  · exact .inr ⟨g, c, rfl, hS, hc, hb.keep hk (hF g hS)⟩
theorem ItO.mono {w : World} {S S' : Nat → Prop} {v : Value} {L : List It} (h : ItO w S v L) (hS : ∀ x, S x → x < w.heap.size → S' x) : ItO w S' v L := by
  rcases h with h | ⟨g, c, rfl, hs, hc, hb⟩
  · exact .inl h
  · exact .inr ⟨g, c, rfl, hS g hs hb.lt, hc, hb⟩
theorem ItO.own {w : World} {S : Nat → Prop} {v : Value} {L : List It} (h : ItO w S v L) : w.ownsRow 0 63 2 v L.length (icells L) := by
  refine ⟨icells_len L, ?_⟩
  rcases h with ⟨rfl, rfl⟩ | ⟨g, c, rfl, hS, hc, cs, hb, h0, h1, h2⟩
  · exact .inl ⟨rfl, rfl⟩
  · exact .inr ⟨g, c, cs, rfl, Nat.zero_le _, hb, h1, hc, h0, icells_eq (by omega) h2⟩
theorem ItO.of_own {w : World} {B : Nat} {v : Value} {L : List It} (h : w.ownsRow B 63 2 v L.length (icells L)) : ItO w (fun x => v.ownBlock = some x) v L := by
  obtain ⟨_, h⟩ := h
  rcases h with ⟨rfl, h0⟩ | ⟨g, c, cs, rfl, hB, hb, h1, hc, h0, ht⟩
  · exact .inl ⟨rfl, List.length_eq_zero_iff.1 h0⟩
  · refine .inr ⟨g, c, rfl, rfl, hc, cs, hb, h0, h1, fun k hk => ?_⟩
    obtain ⟨g1, g2⟩ := icells_at L k hk
    rw [← ht, List.getElem?_take, if_pos (by omega), Array.getElem?_toList] at g1 g2
    exact ⟨g1, g2⟩
theorem ItO.slice {w : World} {S : Nat → Prop} {v : Value} {L : List It} (h : ItO w S v L) : ∃ a c, v = .slice a L.length c := by
  rcases h with ⟨rfl, rfl⟩ | ⟨g, c, rfl, _⟩
  · exact ⟨none, 0, rfl⟩
  · exact ⟨_, _, rfl⟩
end Go.Proofs.Ytoeikgaikdbpbaa
