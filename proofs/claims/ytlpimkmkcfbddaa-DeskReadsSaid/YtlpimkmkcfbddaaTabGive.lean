/- Plain laws on tables for TableGives. No condition. -/
import Derived.Test.YtlpimkmkcfbddaaTabMore
import Derived.Test.YtlpimkmkcfbddaaLawTableNames
namespace Go.Proofs.Ytlpimkmkcfbddaa
open Go.RowKit

theorem free_ok : ∀ x : BitVec 4, ((x &&& (~~~x ||| 0#4)) ||| 0#4 != 0#4) = false := by decide +kernel
theorem TB.okG_free (T : TB) {c p : Nat} (hc : c < 4) (hp : p < 6) : T.okG c p (mv (T.free c p)) 0 = true := by
  have hf : T.free c p = ~~~(T.oO c p) := by unfold TB.free; rw [inT_nat hc hp]; rfl
  unfold TB.okG
  have h0 : mk4 0 = 0#4 := rfl
  rw [inT_nat hc hp, show okM (mv (T.free c p)) 0 = true from okM_mv _ 0#4, mk4_mv, h0, hf]
  simp only [Int.toNat_natCast]
  unfold TB.clash
  rw [show T.oC c p &&& 0#4 = 0#4 by simp, free_ok]
  rfl
theorem holdN_congr (T S : TB) (c p j : Nat) (h : ∀ k, k ≠ c → S.co k p = T.co k p) : ∀ n, S.holdN c p j true n = T.holdN c p j true n := by
  intro n
  induction n with
  | zero => rfl
  | succ m ih =>
    unfold TB.holdN
    rw [ih]
    by_cases e : m = c
    · rw [if_neg (fun h => h.1 e), if_neg (fun h => h.1 e)]
    · simp only [if_true, h m e]
theorem TB.holders_le (T : TB) {c p j : Nat} (hc : c < 4) (hp : p < 6) (hj : j < 4) : (T.holders c p j true).length ≤ 4 := by
  rw [TB.holders_nat T hc hp hj]; exact holdN_le _ _ _ _ _ _
theorem TB.holders_congr (T S : TB) {c p j : Nat} (hc : c < 4) (hp : p < 6) (hj : j < 4) (h : ∀ k, k ≠ c → S.co k p = T.co k p) : S.holders c p j true = T.holders c p j true := by
  rw [TB.holders_nat S hc hp hj, TB.holders_nat T hc hp hj]
  exact holdN_congr T S c p j h 4
theorem TB.holders_mem (T : TB) {c p j : Nat} (hc : c < 4) (hp : p < 6) (hj : j < 4) (x : Int) : x ∈ T.holders c p j true ↔ ∃ k : Nat, x = k ∧ k < 4 ∧ k ≠ c ∧ (T.co k p).getLsbD j = true := by
  rw [TB.holders_nat T hc hp hj, holdN_mem]
  simp
theorem TB.drop_bit (T : TB) {k p j : Nat} (hk : k < 4) (hp : p < 6) : (∀ a, (T.drop k p (mv (bit4 j)) 0).co a p = if a = k then T.co k p &&& ~~~(bit4 j) else T.co a p) := by
  intro a
  unfold TB.drop
  rw [inT_nat hk hp, show okM (mv (bit4 j)) 0 = true from okM_mv _ 0#4, mk4_mv]
  simp only [Bool.and_self, if_true, Int.toNat_natCast]
  unfold TB.drop' TB.setO TB.setC
  simp only [and_true]
/-- What is left to drop: whoever still has the object stands further behind. -/
def LeftD (S : TB) (c p j : Nat) (L : List Int) (i : Nat) : Prop := ∀ k : Nat, k < 4 → k ≠ c → (S.co k p).getLsbD j = true → (k : Int) ∈ L.drop i
theorem LeftD.step {S : TB} {c p j : Nat} {L : List Int} {i : Nat} (h : LeftD S c p j L i) {kk : Nat} (hkk : kk < 4) (hp : p < 6) (hj : j < 4) (hi : i < L.length) (he : L.getD i 0 = (kk : Int)) :
    LeftD (S.drop kk p (mv (bit4 j)) 0) c p j L (i + 1) := by
  intro k hk hne hb
  rw [TB.drop_bit S hkk hp] at hb
  by_cases e : k = kk
  · rw [if_pos e] at hb
    rw [bit_drop _ j hj] at hb
    cases hb
  · rw [if_neg e] at hb
    have := h k hk hne hb
    rw [List.drop_eq_getElem_cons hi] at this
    rcases List.mem_cons.1 this with h1 | h1
    · rw [List.getD_eq_getElem?_getD, List.getElem?_eq_getElem hi] at he
      simp at he
      omega
    · exact h1
theorem LeftD.start (T S : TB) {c p j : Nat} (hc : c < 4) (hp : p < 6) (hj : j < 4) (h : ∀ k, k ≠ c → S.co k p = T.co k p) : LeftD S c p j (T.holders c p j true) 0 := by
  intro k hk hne hb
  rw [List.drop_zero, TB.holders_mem T hc hp hj]
  rw [h k hne] at hb
  exact ⟨k, rfl, hk, hne, hb⟩
theorem LeftD.done {S : TB} {c p j : Nat} {L : List Int} (h : LeftD S c p j L L.length) : (S.oC c p).getLsbD j = false := by
  cases e : (S.oC c p).getLsbD j
  · rfl
  · obtain ⟨k, h1, h2, h3⟩ := (oth_bit _ _ _ _ 4).1 e
    have := h k h1 h2 h3
    rw [List.drop_length] at this
    cases this
theorem TB.own_bit (S : TB) {c p j : Nat} (hc : c < 4) (hp : p < 6) (hj : j < 4) (h : S.okG c p 0 (mv (bit4 j)) = true) : ((S.grant c p 0 (mv (bit4 j))).owns c p).getLsbD j = true := by
  rw [TB.owns_nat _ hc hp]
  unfold TB.grant
  rw [if_pos h, mk4_mv]
  unfold TB.grant' TB.setO TB.setC
  simp only [Int.toNat_natCast, and_self, if_true]
  exact bit_self _ j hj

theorem OwnI.cell {w : World} {B : Nat} {a : Option Addr} {n c : Nat} {l : List Int} (h : OwnI w B (.slice a n c) l) {i : Nat} (hi : i < l.length) :
    ∃ g, a = some ⟨g, 0, none⟩ ∧ B ≤ g ∧ g < w.heap.size ∧ w.cell? ⟨g, i, none⟩ = some (.int .i64 (l.getD i 0)) := by
  obtain ⟨_, h⟩ := h
  rcases h with ⟨_, h0⟩ | ⟨g, cap, cur, hv, hb, hg, _, _, _, ht⟩
  · omega
  · simp at hv
    refine ⟨g, hv.1, hb, lt_of_blk hg, blk_cell hg ?_⟩
    have h1 : (cur.toList.take (l.length * 1))[i]? = (l.map (Value.int .i64))[i]? := by rw [ht]
    rw [List.getElem?_take, if_pos (by omega)] at h1
    rw [Array.getElem?_toList] at h1
    rw [h1, List.getElem?_map, List.getElem?_eq_getElem hi, List.getD_eq_getElem?_getD, List.getElem?_eq_getElem hi]
    rfl
theorem OwnI.keep {w w1 : World} {B : Nat} {v : Value} {l : List Int} {F : Nat → Prop} (h : OwnI w B v l) (hk : Keeps F w w1) (hF : ∀ k, B ≤ k → ¬ F k) : OwnI w1 B v l := own_keep h hk (fun k hb _ _ => hF k hb)

/-- The array of what each client had of one page, so far. -/
def wcell4 (T : TB) (p m : Nat) : Array Value := (Array.range 4).map fun i => .int .i64 (if i < m then mv (T.co i p) else 0)
theorem wcell4_at (T : TB) (p m i : Nat) (h : i < 4) : (wcell4 T p m)[i]? = some (.int .i64 (if i < m then mv (T.co i p) else 0)) := by
  unfold wcell4; simp [h]
theorem wcell4_size (T : TB) (p m : Nat) : (wcell4 T p m).size = 4 := by unfold wcell4; simp
theorem wcell4_set (T : TB) {c p : Nat} (hc : c < 4) : (wcell4 T p c).setIfInBounds c (.int .i64 (mv (T.co c p))) = wcell4 T p (c + 1) := by
  apply Array.ext_getElem?
  intro j
  rw [Array.getElem?_setIfInBounds]
  by_cases h : c = j
  · subst h
    rw [if_pos rfl, if_pos (by rw [wcell4_size]; omega), wcell4_at _ _ _ _ (by omega), if_pos (by omega)]
  · rw [if_neg h]
    by_cases hj : j < 4
    · rw [wcell4_at _ _ _ _ hj, wcell4_at _ _ _ _ hj]
      by_cases e : j < c
      · rw [if_pos e, if_pos (by omega)]
      · rw [if_neg e, if_neg (by omega)]
    · rw [Array.getElem?_eq_none (by rw [wcell4_size]; omega), Array.getElem?_eq_none (by rw [wcell4_size]; omega)]
theorem wcell4_full (T : TB) {c p : Nat} (hc : c < 4) : (wcell4 T p 4)[c]? = some (.int .i64 (mv (T.co c p))) := by
  rw [wcell4_at _ _ _ _ hc, if_pos hc]
end Go.Proofs.Ytlpimkmkcfbddaa
