/- QueueFair: the plain law: who is ahead, what is reserved. No condition. -/
import Derived.Test.YtlpimkmkcfbddaaQueOneP
namespace Go.Proofs.Ytlpimkmkcfbddaa
open Go.RowKit

theorem nodup_sub : ∀ (l m : List Int), l.Nodup → (∀ x, x ∈ l → x ∈ m) → l.length ≤ m.length
  | [], _, _, _ => Nat.zero_le _
  | x :: t, m, h, hs => by
    rw [List.nodup_cons] at h
    have hx : x ∈ m := hs x (by simp)
    have ih := nodup_sub t (m.erase x) h.2 (fun y hy => by
      have hne : y ≠ x := fun e => h.1 (e ▸ hy)
      exact (List.mem_erase_of_ne hne).2 (hs y (by simp [hy])))
    rw [List.length_erase_of_mem hx] at ih
    have := List.length_pos_of_mem hx
    simp only [List.length_cons]
    omega
theorem rightB_mem {x : Wt} (h : rightB x = true) : (0 ≤ x.c ∧ x.c < 4) ∧ (0 ≤ x.p ∧ x.p < 6) ∧ (0 ≤ x.o ∧ x.o < 4) := by
  unfold rightB at h
  simp only [decide_eq_true_eq] at h
  omega
theorem WOk.len {ws : List Wt} (h : WOk ws) : ws.length ≤ 4 := by
  have := nodup_sub (ws.map (·.c)) [0, 1, 2, 3] h.2 (fun c hc => by
    obtain ⟨x, hx, rfl⟩ := List.mem_map.1 hc
    have := (rightB_mem (h.1 x hx)).1
    have h4 : x.c = 0 ∨ x.c = 1 ∨ x.c = 2 ∨ x.c = 3 := by omega
    simpa using h4)
  simpa using this
theorem WOk.inj {ws : List Wt} (h : WOk ws) {i k : Nat} (hi : i < ws.length) (hk : k < ws.length) (e : ws[i].c = ws[k].c) : i = k := by
  have hn := List.pairwise_iff_getElem.1 h.2
  rcases Nat.lt_trichotomy i k with hlt | heq | hlt
  · exact absurd (by rw [List.getElem_map, List.getElem_map]; exact e) (hn i k (by simpa using hi) (by simpa using hk) hlt)
  · exact heq
  · exact absurd (by rw [List.getElem_map, List.getElem_map]; exact e.symm) (hn k i (by simpa using hk) (by simpa using hi) hlt)
theorem WOk.of_at {ws : List Wt} (h : WOk ws) {k : Nat} (hk : k < ws.length) : ofW ws[k].c ws = k :=
  ofW_some hk (fun x hx => by
    obtain ⟨i, hi, rfl⟩ := List.getElem_of_mem hx
    rw [List.length_take] at hi
    rw [List.getElem_take]
    rw [beq_eq_false_iff_ne]
    intro e
    have := h.inj (by omega) hk e
    omega) (by simp)
theorem aheadL_len (x : Wt) (ws : List Wt) : (aheadL x ws).length ≤ ws.length := by
  unfold aheadL
  rw [List.length_map]
  refine Nat.le_trans (List.length_filter_le _ _) ?_
  split
  · rw [List.length_take]; omega
  · exact Nat.le_refl _
def crossX (a b : Wt) : Bool := a.p == b.p && (a.o == b.o && (a.w || b.w))
theorem WOk.ahead {ws : List Wt} (h : WOk ws) {k : Nat} (hk : k < ws.length) : aheadL ws[k] ws = ahd ws[k] (ws.take k) := by
  unfold aheadL ahd
  rw [h.of_at hk, if_pos (by omega)]
  rfl
theorem WOk.ahead_any {ws : List Wt} (h : WOk ws) {i k : Nat} (hi : i < ws.length) (hk : k < ws.length) : (aheadL ws[k] ws).any (fun c => c == ws[i].c) = (decide (i < k) && crossX ws[i] ws[k]) := by
  rw [h.ahead hk, Bool.eq_iff_iff, List.any_eq_true, Bool.and_eq_true, decide_eq_true_iff]
  unfold ahd
  constructor
  · rintro ⟨c, hc, e⟩
    obtain ⟨y, hy, rfl⟩ := List.mem_map.1 hc
    obtain ⟨hy, hcr⟩ := List.mem_filter.1 hy
    obtain ⟨j, hj, rfl⟩ := List.getElem_of_mem hy
    rw [List.length_take] at hj
    rw [List.getElem_take] at hcr e
    have hji := h.inj (i := j) (k := i) (by omega) hi (by simpa using e)
    subst hji
    refine ⟨by omega, ?_⟩
    unfold crossB at hcr
    unfold crossX
    simp only [Bool.and_eq_true] at hcr ⊢
    exact ⟨hcr.1, hcr.2.1, hcr.2.2.2⟩
  · rintro ⟨hlt, hcr⟩
    refine ⟨ws[i].c, List.mem_map.2 ⟨ws[i], List.mem_filter.2 ⟨?_, ?_⟩, rfl⟩, by simp⟩
    · rw [List.mem_take_iff_getElem]; exact ⟨i, by omega, rfl⟩
    · unfold crossX at hcr
      unfold crossB
      simp only [Bool.and_eq_true] at hcr ⊢
      exact ⟨hcr.1, hcr.2.1, by simp only [bne_iff_ne, ne_eq]; intro e; have := h.inj hi hk e; omega, hcr.2.2⟩
theorem sh_bit (m : BitVec 4) (n j : Nat) (hj : j < 4) : (m ||| (1#4 <<< n)).getLsbD j = (m.getLsbD j || j == n) := by
  rw [BitVec.getLsbD_or, BitVec.getLsbD_shiftLeft]
  congr 1
  rw [Bool.eq_iff_iff]
  simp [hj]
  omega
theorem resM_bit (c pg : Int) (j : Nat) (hj : j < 4) : ∀ (ws : List Wt) (m : BitVec 4), (ws.foldl (fun m x => if resP c pg x then m ||| (1#4 <<< x.o.toNat) else m) m).getLsbD j = (m.getLsbD j || ws.any (fun x => resP c pg x && j == x.o.toNat))
  | [], m => by simp
  | x :: t, m => by
    rw [List.foldl_cons, resM_bit c pg j hj t]
    cases hx : resP c pg x
    · simp [hx]
    · simp only [hx, if_true, sh_bit m _ j hj, List.any_cons, Bool.true_and, Bool.or_assoc]
theorem WOk.res {ws : List Wt} (h : WOk ws) {i k : Nat} (hi : i < ws.length) (hk : k < ws.length) (hne : i ≠ k) (hp : ws[i].p = ws[k].p) (hw : ws[i].w = true) {j : Nat} (hj : ws[i].o = (j : Int)) :
    (resM ws[k].c ws[k].p ws).getLsbD j = true := by
  have hr := rightB_mem (h.1 ws[i] (List.getElem_mem hi))
  unfold resM
  rw [resM_bit _ _ j (by omega), Bool.or_eq_true, List.any_eq_true]
  right
  refine ⟨ws[i], List.getElem_mem hi, ?_⟩
  unfold resP
  simp only [Bool.and_eq_true, bne_iff_ne, ne_eq, beq_iff_eq]
  exact ⟨⟨fun e => hne (h.inj hi hk e), hp, hw⟩, by omega⟩
end Go.Proofs.Ytlpimkmkcfbddaa
