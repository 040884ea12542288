/- Edges in a block of their own. No condition. -/
import Derived.Test.YtlpimkmkcfbddaaWaitCyc
import Derived.Lib.SliceRun
namespace Go.Proofs.Ytlpimkmkcfbddaa
open Go.RowKit

def ecells (l : List (Int × Int)) : List Value := l.flatMap fun e => [.int .i64 e.1, .int .i64 e.2]
theorem ecells_len (l : List (Int × Int)) : (ecells l).length = l.length * 2 := by
  induction l with
  | nil => rfl
  | cons e t ih => simp [ecells] at ih ⊢; omega
theorem ecells_at : ∀ (l : List (Int × Int)) (k : Nat) (h : k < l.length), (ecells l)[k * 2]? = some (.int .i64 l[k].1) ∧ (ecells l)[k * 2 + 1]? = some (.int .i64 l[k].2)
  | [], k, h => absurd h (Nat.not_lt_zero _)
  | e :: t, 0, _ => ⟨rfl, rfl⟩
  | e :: t, k + 1, h => by
    have := ecells_at t k (by simpa using h)
    show (_ :: _ :: ecells t)[(k + 1) * 2]? = _ ∧ (_ :: _ :: ecells t)[(k + 1) * 2 + 1]? = _
    rw [show (k + 1) * 2 = k * 2 + 1 + 1 by omega]
    simpa using this
theorem ecells_one (l : List (Int × Int)) : ∀ u ∈ ecells l, u.oneCell' = true := by
  intro u hu
  unfold ecells at hu
  rw [List.mem_flatMap] at hu
  obtain ⟨e, _, he⟩ := hu
  simp at he
  rcases he with rfl | rfl <;> rfl
theorem ecells_append (l m : List (Int × Int)) : ecells (l ++ m) = ecells l ++ ecells m := by simp [ecells]

/-- A block of edges. -/
def EdB (w : World) (g : Nat) (l : List (Int × Int)) : Prop :=
  ∃ cs, w.heap[g]? = some (.cells cs 61 (0, 0)) ∧ l.length * 2 ≤ cs.size ∧ ∀ k (h : k < l.length), cs[k * 2]? = some (.int .i64 l[k].1) ∧ cs[k * 2 + 1]? = some (.int .i64 l[k].2)
theorem EdB.lt {w : World} {g : Nat} {l : List (Int × Int)} (h : EdB w g l) : g < w.heap.size := by
  obtain ⟨cs, hb, _⟩ := h; exact lt_of_blk hb
theorem EdB.keep {w w1 : World} {g : Nat} {l : List (Int × Int)} {F : Nat → Prop} (h : EdB w g l) (hk : Keeps F w w1) (hF : ¬ F g) : EdB w1 g l := by
  obtain ⟨cs, hb, h1, h2⟩ := h
  exact ⟨cs, hk.blk hb hF, h1, h2⟩
theorem EdB.edr {w : World} {g B : Nat} {l : List (Int × Int)} (h : EdB w g l) (hB : g < B) : EdR w B (some ⟨g, 0, none⟩) l := by
  obtain ⟨cs, hb, h1, h2⟩ := h
  intro k hk
  refine ⟨g, 0, rfl, hB, lt_of_blk hb, ?_, ?_⟩
  · rw [Nat.zero_add]; exact blk_cell hb (h2 k hk).1
  · rw [Nat.zero_add]; exact blk_cell hb (h2 k hk).2
theorem EdB.free {w : World} {g : Nat} {l : List (Int × Int)} (h : EdB w g l) (i : Nat) : w.frozen? ⟨g, i, none⟩ = false := by
  obtain ⟨cs, hb, _⟩ := h; exact blk_free hb i
theorem EdB.set {w : World} {g : Nat} {l : List (Int × Int)} (h : EdB w g l) {i : Nat} (_hi : i < l.length) (u v : Int) : EdB ((w.setCell ⟨g, i * 2, none⟩ (.int .i64 u)).setCell ⟨g, i * 2 + 1, none⟩ (.int .i64 v)) g (l.set i (u, v)) := by
  obtain ⟨cs, hb, h1, h2⟩ := h
  refine ⟨_, heap_setCell_same _ _ _ _ (heap_setCell_same _ _ _ _ hb), by simpa using h1, fun k hk => ?_⟩
  have hk' : k < l.length := by simpa using hk
  obtain ⟨h3, h4⟩ := h2 k hk'
  rw [List.getElem_set]
  simp only [Array.getElem?_setIfInBounds, Array.size_setIfInBounds]
  by_cases e : i = k
  · subst e
    constructor
    · rw [if_neg (by omega), if_pos rfl, if_pos (by omega), if_pos rfl]
    · rw [if_pos rfl, if_pos (by omega), if_pos rfl]
  · constructor
    · rw [if_neg (by omega), if_neg (by omega), if_neg e]; exact h3
    · rw [if_neg (by omega), if_neg (by omega), if_neg e]; exact h4
theorem EdB.take {w : World} {g : Nat} {l : List (Int × Int)} (h : EdB w g l) (n : Nat) : EdB w g (l.take n) := by
  obtain ⟨cs, hb, h1, h2⟩ := h
  refine ⟨cs, hb, by rw [List.length_take]; omega, fun k hk => ?_⟩
  have := h2 k (by rw [List.length_take] at hk; omega)
  rw [List.getElem_take]; exact this
theorem EdB.of_row {w : World} {B : Nat} {v : Value} {l : List (Int × Int)} (h : w.ownsRow B 61 2 v l.length (ecells l)) (hv : v ≠ .slice none 0 0) :
    ∃ g c, v = .slice (some ⟨g, 0, none⟩) l.length c ∧ B ≤ g ∧ l.length ≤ c ∧ c ≤ maxLen ∧ EdB w g l := by
  obtain ⟨_, h⟩ := h
  rcases h with ⟨h, _⟩ | ⟨g, cap, cur, hv', hb, hg, hn, hm, hs, ht⟩
  · exact absurd h hv
  · refine ⟨g, cap, hv', hb, hn, hm, cur, hg, by omega, fun k hk => ?_⟩
    obtain ⟨h1, h2⟩ := ecells_at l k hk
    rw [← ht, List.getElem?_take, if_pos (by omega), Array.getElem?_toList] at h1 h2
    exact ⟨h1, h2⟩
theorem EdB.of_own {w : World} {B c : Nat} {a : Option Addr} {l : List (Int × Int)} (h : w.ownsRow B 61 2 (.slice a l.length c) l.length (ecells l)) (ha : a ≠ none) :
    ∃ g, a = some ⟨g, 0, none⟩ ∧ B ≤ g ∧ l.length ≤ c ∧ c ≤ maxLen ∧ EdB w g l := by
  obtain ⟨_, h⟩ := h
  rcases h with ⟨h, _⟩ | ⟨g, cap, cur, hv, hb, hg, hn, hm, hs, ht⟩
  · simp at h; exact absurd h.1 ha
  · simp at hv
    obtain ⟨rfl, rfl⟩ := hv
    refine ⟨g, rfl, hb, hn, hm, cur, hg, by omega, fun k hk => ?_⟩
    obtain ⟨h1, h2⟩ := ecells_at l k hk
    rw [← ht, List.getElem?_take, if_pos (by omega), Array.getElem?_toList] at h1 h2
    exact ⟨h1, h2⟩

theorem EdR.news {w : World} {B : Nat} {ad : Addr} {l : List (Int × Int)} (h : EdR w B (some ad) l) : ∀ j u, (ecells l)[j]? = some u → w.cell? (ad.add j) = some u := by
  intro j u hj
  have hjl : j < (ecells l).length := (List.getElem?_eq_some_iff.1 hj).1
  rw [ecells_len] at hjl
  obtain ⟨b, off, ha, _, _, h1, h2⟩ := h (j / 2) (by omega)
  simp at ha
  subst ha
  obtain ⟨g1, g2⟩ := ecells_at l (j / 2) (by omega)
  have hadd : (⟨b, off, none⟩ : Addr).add j = ⟨b, off + j, none⟩ := by unfold Addr.add; split <;> simp_all
  rw [hadd]
  rcases Nat.mod_two_eq_zero_or_one j with e | e
  · rw [show j / 2 * 2 = j by omega] at g1 h1
    rw [hj] at g1
    cases g1; exact h1
  · rw [show j / 2 * 2 + 1 = j by omega] at g2
    rw [show off + j / 2 * 2 + 1 = off + j by omega] at h2
    rw [hj] at g2
    cases g2; exact h2
theorem info61 : (Try.prog.info? 61).map (fun i => (i.zero, i.size, i.bytes)) = some (some (.agg #[.int .i64 0, .int .i64 0]), 2, 16) := by kernel_rfl
end Go.Proofs.Ytlpimkmkcfbddaa
