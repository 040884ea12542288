/- Plain laws on tables: what a grant of one object asks, and what it changes. No condition. -/
import Derived.Test.YtlpimkmkcfbddaaTabInv
import Derived.Test.YtlpimkmkcfbddaaTab
namespace Go.Proofs.Ytlpimkmkcfbddaa
open Go.RowKit

def bit4 (j : Nat) : BitVec 4 := 1#4 <<< j
theorem mk4_bit {j : Nat} (h : j < 4) : mk4 (2 ^ j) = bit4 j := by
  match j, h with
  | 0, _ => rfl
  | 1, _ => rfl
  | 2, _ => rfl
  | 3, _ => rfl
theorem mv_bit {j : Nat} (h : j < 4) : (2 ^ j : Int) = mv (bit4 j) := by
  match j, h with
  | 0, _ => rfl
  | 1, _ => rfl
  | 2, _ => rfl
  | 3, _ => rfl
theorem clash_bit : ∀ x y : BitVec 4, ∀ j, j < 4 → ((x &&& (0#4 ||| bit4 j)) ||| (y &&& bit4 j) != 0#4) = (x.getLsbD j || y.getLsbD j) := by decide +kernel
theorem bit_self : ∀ x : BitVec 4, ∀ j, j < 4 → (x ||| bit4 j).getLsbD j = true := by decide +kernel
theorem bit_drop : ∀ x : BitVec 4, ∀ j, j < 4 → (x &&& ~~~(bit4 j)).getLsbD j = false := by decide +kernel
theorem sub_bit : ∀ x y : BitVec 4, x &&& ~~~y = 0#4 → ∀ j, j < 4 → x.getLsbD j = true → y.getLsbD j = true := by decide +kernel

theorem oth_bit (f : Nat → Nat → BitVec 4) (c p j : Nat) : ∀ n, (oth f c p n).getLsbD j = true ↔ ∃ k, k < n ∧ k ≠ c ∧ (f k p).getLsbD j = true := by
  intro n
  induction n with
  | zero => simp [oth]
  | succ m ih =>
    unfold oth
    by_cases h : m = c
    · rw [if_pos h, ih]
      constructor
      · rintro ⟨k, h1, h2, h3⟩; exact ⟨k, by omega, h2, h3⟩
      · rintro ⟨k, h1, h2, h3⟩; exact ⟨k, by omega, h2, h3⟩
    · rw [if_neg h]
      simp only [BitVec.getLsbD_or, Bool.or_eq_true, ih]
      constructor
      · rintro (⟨k, h1, h2, h3⟩ | h3)
        · exact ⟨k, by omega, h2, h3⟩
        · exact ⟨m, by omega, h, h3⟩
      · rintro ⟨k, h1, h2, h3⟩
        by_cases e : k = m
        · subst e; exact .inr h3
        · exact .inl ⟨k, by omega, h2, h3⟩
theorem oth_congr (f g : Nat → Nat → BitVec 4) (c p : Nat) (h : ∀ k, k ≠ c → f k p = g k p) : ∀ n, oth f c p n = oth g c p n := by
  intro n
  induction n with
  | zero => rfl
  | succ m ih =>
    unfold oth
    by_cases e : m = c
    · rw [if_pos e, if_pos e, ih]
    · rw [if_neg e, if_neg e, ih, h m e]
theorem holdN_mem (T : TB) (c p j : Nat) (wb : Bool) (n : Nat) (x : Int) : x ∈ T.holdN c p j wb n ↔ ∃ k : Nat, x = k ∧ k < n ∧ k ≠ c ∧ (if wb then T.co k p else T.ow k p).getLsbD j = true := by
  induction n with
  | zero => simp [TB.holdN]
  | succ m ih =>
    unfold TB.holdN
    by_cases e : m ≠ c ∧ (if wb then T.co m p else T.ow m p).getLsbD j = true
    · rw [if_pos e, List.mem_append, ih, List.mem_singleton]
      constructor
      · rintro (⟨k, h1, h2, h3⟩ | h)
        · exact ⟨k, h1, by omega, h3⟩
        · exact ⟨m, h, by omega, e⟩
      · rintro ⟨k, h1, h2, h3⟩
        by_cases ek : k = m
        · subst ek; exact .inr h1
        · exact .inl ⟨k, h1, by omega, h3⟩
    · rw [if_neg e, ih]
      constructor
      · rintro ⟨k, h1, h2, h3⟩; exact ⟨k, h1, by omega, h3⟩
      · rintro ⟨k, h1, h2, h3⟩
        by_cases ek : k = m
        · subst ek; exact absurd h3 e
        · exact ⟨k, h1, by omega, h3⟩
theorem TB.holders_nat (T : TB) {c p j : Nat} (hc : c < 4) (hp : p < 6) (hj : j < 4) (wb : Bool) : T.holders c p j wb = T.holdN c p j wb 4 := by
  unfold TB.holders
  rw [inT_nat hc hp, show inO (j : Int) = true by unfold inO; simp; omega]
  rfl
theorem TB.clash_oC {T : TB} (hT : T.Inv) {c p j : Nat} (hj : j < 4) : T.clash c p 0#4 (bit4 j) = (T.oC c p).getLsbD j := by
  unfold TB.clash
  rw [clash_bit _ _ j hj]
  cases h : (T.oO c p).getLsbD j
  · rfl
  · obtain ⟨k, h1, h2, h3⟩ := (oth_bit _ _ _ _ 4).1 h
    have := sub_bit _ _ (hT.1 k p) j hj h3
    exact ((oth_bit T.co c p j 4).2 ⟨k, h1, h2, this⟩).symm
theorem TB.okG_bit {T : TB} (hT : T.Inv) {c p j : Nat} (hc : c < 4) (hp : p < 6) (hj : j < 4) : T.okG c p 0 (mv (bit4 j)) = !(T.oC c p).getLsbD j := by
  unfold TB.okG
  have h0 : mk4 0 = 0#4 := rfl
  rw [inT_nat hc hp, show okM 0 (mv (bit4 j)) = true from okM_mv 0#4 _, mk4_mv, h0]
  simp only [Int.toNat_natCast]
  rw [TB.clash_oC hT hj]
  rfl
theorem TB.holders_nil (T : TB) {c p j : Nat} (hc : c < 4) (hp : p < 6) (hj : j < 4) : ((T.holders c p j true).length = 0) ↔ (T.oC c p).getLsbD j = false := by
  rw [TB.holders_nat T hc hp hj]
  constructor
  · intro h
    cases e : (T.oC c p).getLsbD j
    · rfl
    · obtain ⟨k, h1, h2, h3⟩ := (oth_bit _ _ _ _ 4).1 e
      have : ((k : Nat) : Int) ∈ T.holdN c p j true 4 := (holdN_mem T c p j true 4 k).2 ⟨k, rfl, h1, h2, h3⟩
      rw [List.length_eq_zero_iff.1 h] at this
      exact absurd this (by simp)
  · intro h
    rw [List.length_eq_zero_iff]
    apply List.eq_nil_iff_forall_not_mem.2
    intro x hx
    obtain ⟨k, h1, h2, h3, h4⟩ := (holdN_mem T c p j true 4 x).1 hx
    have := (oth_bit T.co c p j 4).2 ⟨k, h2, h3, h4⟩
    unfold TB.oC at h
    rw [h] at this
    cases this
theorem TB.okG_holders {T : TB} (hT : T.Inv) {c p j : Nat} (hc : c < 4) (hp : p < 6) (hj : j < 4) : T.okG c p 0 (mv (bit4 j)) = decide ((T.holders c p j true).length = 0) := by
  rw [TB.okG_bit hT hc hp hj]
  cases e : (T.oC c p).getLsbD j
  · rw [decide_eq_true ((TB.holders_nil T hc hp hj).2 e)]; rfl
  · rw [decide_eq_false (fun h => by rw [(TB.holders_nil T hc hp hj).1 h] at e; cases e)]; rfl

/-- A grant changes what one client has of one page. -/
theorem TB.grant_other (T : TB) (c p m o : Int) (a q : Nat) (h : a ≠ c.toNat ∨ q ≠ p.toNat) : (T.grant c p m o).co a q = T.co a q ∧ (T.grant c p m o).ow a q = T.ow a q := by
  unfold TB.grant
  by_cases e : T.okG c p m o = true
  · rw [if_pos e]
    unfold TB.grant' TB.setO TB.setC
    simp only []
    rw [if_neg (by omega), if_neg (by omega)]
    exact ⟨rfl, rfl⟩
  · rw [if_neg e]; exact ⟨rfl, rfl⟩
theorem TB.copies_nat (T : TB) {c p : Nat} (hc : c < 4) (hp : p < 6) : T.copies c p = T.co c p := by
  unfold TB.copies; rw [inT_nat hc hp]; rfl
theorem TB.owns_nat (T : TB) {c p : Nat} (hc : c < 4) (hp : p < 6) : T.owns c p = T.ow c p := by
  unfold TB.owns; rw [inT_nat hc hp]; rfl

/-- The array of what each client had of each page, so far. -/
def tbcells (T : TB) (m : Nat) : Array Value := (Array.range 24).map fun i => .int .i64 (if i < m then mv (T.co (i / 6) (i % 6)) else 0)
theorem tbcells_at (T : TB) (m i : Nat) (h : i < 24) : (tbcells T m)[i]? = some (.int .i64 (if i < m then mv (T.co (i / 6) (i % 6)) else 0)) := by
  unfold tbcells; simp [h]
theorem tbcells_size (T : TB) (m : Nat) : (tbcells T m).size = 24 := by unfold tbcells; simp
theorem tbcells_set (T : TB) {c p : Nat} (hc : c < 4) (hp : p < 6) : (tbcells T (c * 6 + p)).setIfInBounds (c * 6 + p) (.int .i64 (mv (T.co c p))) = tbcells T (c * 6 + p + 1) := by
  apply Array.ext_getElem?
  intro j
  rw [Array.getElem?_setIfInBounds]
  by_cases h : c * 6 + p = j
  · subst h
    rw [if_pos rfl, if_pos (by rw [tbcells_size]; omega), tbcells_at _ _ _ (by omega), if_pos (by omega), show (c * 6 + p) / 6 = c by omega, show (c * 6 + p) % 6 = p by omega]
  · rw [if_neg h]
    by_cases hj : j < 24
    · rw [tbcells_at _ _ _ hj, tbcells_at _ _ _ hj]
      by_cases e : j < c * 6 + p
      · rw [if_pos e, if_pos (by omega)]
      · rw [if_neg e, if_neg (by omega)]
    · rw [Array.getElem?_eq_none (by rw [tbcells_size]; omega), Array.getElem?_eq_none (by rw [tbcells_size]; omega)]
theorem tbcells_full (T : TB) {c p : Nat} (hc : c < 4) (hp : p < 6) : (tbcells T 24)[c * 6 + p]? = some (.int .i64 (mv (T.co c p))) := by
  rw [tbcells_at _ _ _ (by omega), if_pos (by omega), show (c * 6 + p) / 6 = c by omega, show (c * 6 + p) % 6 = p by omega]

/-- Calls that leave the world alone, in a statement whose order is open. -/
theorem quiet_ret {P : Program} {f : FuncId} {args : Array Value} {w : World} {n : Nat} {v : Value}
    (h : Calls P f args (w.drewN n) (Ret v (w.drewN n))) : Calls P f args (w.drewN n) fun e w'' => e = .returned v ∧ ∃ m, w'' = w.drewN m :=
  h.mono fun _ _ ⟨he, hw⟩ => ⟨he, n, hw.symm⟩
theorem TabAt.drewN {w : World} {b : Nat} {T : TB} (h : TabAt w b T) (n : Nat) : TabAt (w.drewN n) b T := h
end Go.Proofs.Ytlpimkmkcfbddaa
