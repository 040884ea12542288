/- A bit of a number, told two ways. No condition. -/
import Derived.Test.YteoafecdlnaecaaSecApp
namespace Go.Proofs.Yteoafecdlnaecaa
open Go.RowKit

theorem wrap_zero {n : Nat} (h : n < 18446744073709551616) : (IntKind.i64.wrap n = 0) ↔ n = 0 := by
  rw [IntKind.wrap_i64]; omega
theorem wrap_small {n : Nat} (h : n < 2) : IntKind.i64.wrap n = n := by
  rw [IntKind.wrap_i64]; omega
theorem ofInt_div (keep : Int) (h1 : -9223372036854775808 ≤ keep) (h2 : keep ≤ 9223372036854775807) (i : Nat) : BitVec.ofInt 64 (keep / 2 ^ i) = (BitVec.ofInt 64 keep).sshiftRight i := by
  apply BitVec.eq_of_toInt_eq
  rw [BitVec.toInt_sshiftRight, BitVec.toInt_ofInt, BitVec.toInt_ofInt]
  have hk : keep.bmod (2 ^ 64) = keep := by rw [Int.bmod_def]; omega
  rw [hk, Int.shiftRight_eq_div_pow]
  have hp : (0 : Int) < 2 ^ i := Int.pow_pos (by decide)
  have a1 : keep / 2 ^ i ≤ 9223372036854775807 := by
    by_cases hs : 0 ≤ keep
    · exact Int.le_trans (Int.ediv_le_self _ hs) h2
    · have := Int.ediv_neg_of_neg_of_pos (by omega : keep < 0) hp
      omega
  have a2 : -9223372036854775808 ≤ keep / 2 ^ i := by
    by_cases hs : 0 ≤ keep
    · have := Int.ediv_nonneg hs (Int.le_of_lt hp); omega
    · apply (Int.le_ediv_iff_mul_le hp).2
      have : (1 : Int) ≤ 2 ^ i := hp
      have : -9223372036854775808 * (2 : Int) ^ i ≤ -9223372036854775808 * 1 := Int.mul_le_mul_of_nonpos_left (by omega) (by omega)
      omega
  have : (((2 ^ i : Nat) : Int)) = 2 ^ i := by simp
  rw [this, Int.bmod_def]
  omega

theorem pick_bit (keep : Int) (h1 : -9223372036854775808 ≤ keep) (h2 : keep ≤ 9223372036854775807) (i : Nat) (hi : i < 6) : pickK keep i = (BitVec.ofInt 64 keep).getLsbD i := by
  show (IntKind.i64.wrap ((BitVec.ofInt 64 (keep / 2 ^ i) &&& BitVec.ofInt 64 1).toNat : Int) == 1) = _
  rw [ofInt_div keep h1 h2 i]
  have hb : ((BitVec.ofInt 64 keep).sshiftRight i &&& BitVec.ofInt 64 1).toNat = if (BitVec.ofInt 64 keep).getLsbD i then 1 else 0 := by
    have : (BitVec.ofInt 64 keep).sshiftRight i &&& BitVec.ofInt 64 1 = if (BitVec.ofInt 64 keep).getLsbD i then 1#64 else 0#64 := by
      apply BitVec.eq_of_getLsbD_eq
      intro j hj
      rw [BitVec.getLsbD_and, BitVec.getLsbD_sshiftRight]
      have h1j : (BitVec.ofInt 64 1).getLsbD j = decide (j = 0) := by
        show (1#64).getLsbD j = _
        rw [BitVec.getLsbD_one]; simp
      rw [h1j]
      by_cases e : j = 0
      · subst e
        simp only [decide_true, Bool.and_true, Nat.add_zero, show ¬ (64 ≤ 0) by omega, decide_false, Bool.not_false, Bool.true_and]
        rw [if_pos (by omega)]
        cases (BitVec.ofInt 64 keep).getLsbD i <;> simp
      · simp only [e, decide_false, Bool.and_false]
        cases (BitVec.ofInt 64 keep).getLsbD i
        · simp
        · simp; omega
    rw [this]; split <;> rfl
  rw [hb]
  cases (BitVec.ofInt 64 keep).getLsbD i
  · rfl
  · rfl
theorem and_bit (keep : Int) (i : Nat) (hi : i < 6) : (bits .and .i64 keep (2 ^ i) != 0) = (BitVec.ofInt 64 keep).getLsbD i := by
  show (IntKind.i64.wrap ((BitVec.ofInt 64 keep &&& BitVec.ofInt 64 (2 ^ i)).toNat : Int) != 0) = _
  have hp : BitVec.ofInt 64 (2 ^ i) = BitVec.twoPow 64 i := by
    match i, hi with
    | 0, _ => rfl
    | 1, _ => rfl
    | 2, _ => rfl
    | 3, _ => rfl
    | 4, _ => rfl
    | 5, _ => rfl
  rw [hp, BitVec.and_twoPow]
  cases (BitVec.ofInt 64 keep).getLsbD i
  · rfl
  · match i, hi with
    | 0, _ => rfl
    | 1, _ => rfl
    | 2, _ => rfl
    | 3, _ => rfl
    | 4, _ => rfl
    | 5, _ => rfl
end Go.Proofs.Yteoafecdlnaecaa
