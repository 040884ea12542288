/- The table as a function: masks of four bits. No condition. -/
import Derived.Test.YtlpimkmkcfbddaaBase
namespace Go.Proofs.Ytlpimkmkcfbddaa
open Go.RowKit

/-- A mask as the number that Go holds. -/
def mv (x : BitVec 4) : Int := (x.toNat : Int)
/-- The mask of a number. -/
def mk4 (n : Int) : BitVec 4 := BitVec.ofInt 4 n

theorem mv_lt (x : BitVec 4) : 0 ≤ mv x ∧ mv x ≤ 15 := by unfold mv; have := x.isLt; omega
theorem mv_inj {x y : BitVec 4} (h : mv x = mv y) : x = y := by unfold mv at h; exact BitVec.eq_of_toNat_eq (by omega)
theorem mv_mk4 {n : Int} (h0 : 0 ≤ n) (h1 : n ≤ 15) : mv (mk4 n) = n := by
  obtain ⟨k, rfl⟩ := Int.eq_ofNat_of_zero_le h0
  have : k < 16 := by omega
  unfold mv mk4
  simp only [BitVec.ofInt_natCast, BitVec.toNat_ofNat]
  omega
theorem mk4_mv (x : BitVec 4) : mk4 (mv x) = x := mv_inj (mv_mk4 (mv_lt x).1 (mv_lt x).2)

@[go_sem] theorem bits_or_mv (x y : BitVec 4) : bits .or .i64 (mv x) (mv y) = mv (x ||| y) := by
  revert x y; unfold mv; decide +kernel
@[go_sem] theorem bits_and_mv (x y : BitVec 4) : bits .and .i64 (mv x) (mv y) = mv (x &&& y) := by
  revert x y; unfold mv; decide +kernel
@[go_sem] theorem bits_andNot_mv (x y : BitVec 4) : bits .andNot .i64 (mv x) (mv y) = mv (x &&& ~~~y) := by
  revert x y; unfold mv; decide +kernel
@[go_sem] theorem bits_andNot15_mv (y : BitVec 4) : bits .andNot .i64 15 (mv y) = mv (~~~y) := by
  revert y; unfold mv; decide +kernel
theorem bit_mv (x : BitVec 4) (j : Nat) (h : j < 4) : bits .and .i64 (mv x / 2 ^ j) 1 = if x.getLsbD j then 1 else 0 := by
  have H : ∀ x : BitVec 4, ∀ j, j < 4 → bits .and .i64 ((x.toNat : Int) / 2 ^ j) 1 = if x.getLsbD j then 1 else 0 := by decide +kernel
  exact H x j h
theorem bitB_mv (x : BitVec 4) (j : Nat) (h : j < 4) : (bits .and .i64 (mv x / 2 ^ j) 1 == 1) = x.getLsbD j := by
  rw [bit_mv x j h]; cases x.getLsbD j <;> rfl
theorem bit0_mv (x : BitVec 4) (j : Nat) (h : j < 4) : (bits .and .i64 (mv x / 2 ^ j) 1 == 0) = !x.getLsbD j := by
  rw [bit_mv x j h]; cases x.getLsbD j <;> rfl
@[go_sem] theorem mv_bne0 (x : BitVec 4) : (mv x != 0) = (x != 0#4) := by
  revert x; unfold mv; decide +kernel
@[go_sem] theorem mv_beq0 (x : BitVec 4) : (mv x == 0) = (x == 0#4) := by
  revert x; unfold mv; decide +kernel
@[go_sem] theorem mv_zero_not (x : BitVec 4) : (mv x = 0) = (x = 0#4) := by
  revert x; unfold mv; decide +kernel
@[go_sem] theorem wrap64_mv (x : BitVec 4) : wrap64 (mv x) = mv x := by
  unfold wrap64
  have := mv_lt x
  omega
theorem mv_zero : (0 : Int) = mv 0#4 := rfl

/-- Who has copies, who owns. -/
structure TB where
  co : Nat → Nat → BitVec 4
  ow : Nat → Nat → BitVec 4

def TB.zero : TB := ⟨fun _ _ => 0#4, fun _ _ => 0#4⟩
def TB.setC (T : TB) (c p : Nat) (x : BitVec 4) : TB := { T with co := fun a b => if a = c ∧ b = p then x else T.co a b }
def TB.setO (T : TB) (c p : Nat) (x : BitVec 4) : TB := { T with ow := fun a b => if a = c ∧ b = p then x else T.ow a b }
def TB.clear (T : TB) (c : Nat) : TB := ⟨fun a b => if a = c then 0#4 else T.co a b, fun a b => if a = c then 0#4 else T.ow a b⟩
/-- What the others have together. -/
def oth (f : Nat → Nat → BitVec 4) (c p : Nat) : Nat → BitVec 4
  | 0 => 0#4
  | k + 1 => if k = c then oth f c p k else oth f c p k ||| f k p
def TB.oC (T : TB) (c p : Nat) : BitVec 4 := oth T.co c p 4
def TB.oO (T : TB) (c p : Nat) : BitVec 4 := oth T.ow c p 4

def inT (c p : Int) : Bool := decide (0 ≤ c ∧ 0 ≤ p ∧ c < 4 ∧ p < 6)
def okM (a b : Int) : Bool := decide (0 ≤ a ∧ 0 ≤ b ∧ a ≤ 15 ∧ b ≤ 15)

def TB.clash (T : TB) (c p : Nat) (m o : BitVec 4) : Bool := (T.oO c p &&& (m ||| o)) ||| (T.oC c p &&& o) != 0#4
def TB.grant' (T : TB) (c p : Nat) (m o : BitVec 4) : TB := (T.setC c p (T.co c p ||| (m ||| o))).setO c p (T.ow c p ||| o)
def TB.drop' (T : TB) (c p : Nat) (m o : BitVec 4) : TB := (T.setC c p (T.co c p &&& ~~~m)).setO c p (T.ow c p &&& ~~~(m ||| o))
def TB.okG (T : TB) (c p m o : Int) : Bool := inT c p && okM m o && !T.clash c.toNat p.toNat (mk4 m) (mk4 o)
def TB.grant (T : TB) (c p m o : Int) : TB := if T.okG c p m o then T.grant' c.toNat p.toNat (mk4 m) (mk4 o) else T
def TB.drop (T : TB) (c p m o : Int) : TB := if inT c p && okM m o then T.drop' c.toNat p.toNat (mk4 m) (mk4 o) else T
def TB.clr (T : TB) (c : Int) : TB := if inT c 0 then T.clear c.toNat else T
def TB.copies (T : TB) (c p : Int) : BitVec 4 := if inT c p then T.co c.toNat p.toNat else 0#4
def TB.owns (T : TB) (c p : Int) : BitVec 4 := if inT c p then T.ow c.toNat p.toNat else 0#4
def TB.free (T : TB) (c p : Int) : BitVec 4 := if inT c p then ~~~(T.oO c.toNat p.toNat) else 0#4
def TB.alone (T : TB) (c p : Int) : Bool := inT c p && (T.oC c.toNat p.toNat == 0#4 && T.oO c.toNat p.toNat == 0#4)
/-- Who among the first k others has an object. -/
def TB.holdN (T : TB) (c p obj : Nat) (write : Bool) : Nat → List Int
  | 0 => []
  | k + 1 => if k ≠ c ∧ (if write then T.co k p else T.ow k p).getLsbD obj = true then TB.holdN T c p obj write k ++ [(k : Int)] else TB.holdN T c p obj write k
def inO (j : Int) : Bool := decide (0 ≤ j ∧ j < 4)
def TB.holders (T : TB) (c p obj : Int) (write : Bool) : List Int := if inT c p && inO obj then T.holdN c.toNat p.toNat obj.toNat write 4 else []

/-! The cells. -/
def tv (T : TB) (i : Nat) : BitVec 4 := if i % 2 = 0 then T.co (i / 12) (i % 12 / 2) else T.ow (i / 12) (i % 12 / 2)
def tcells (T : TB) : Array Value := (Array.range 48).map fun i => .int .i64 (mv (tv T i))
def trow (T : TB) (k : Nat) : Array Value := (Array.range 12).map fun i => .int .i64 (mv (tv T (12 * k + i)))

theorem tv_co (T : TB) (c p : Nat) (hp : p < 6) : tv T (c * 12 + p * 2) = T.co c p := by
  unfold tv; rw [if_pos (by omega), show (c * 12 + p * 2) / 12 = c by omega, show (c * 12 + p * 2) % 12 / 2 = p by omega]
theorem tv_ow (T : TB) (c p : Nat) (hp : p < 6) : tv T (c * 12 + p * 2 + 1) = T.ow c p := by
  unfold tv; rw [if_neg (by omega), show (c * 12 + p * 2 + 1) / 12 = c by omega, show (c * 12 + p * 2 + 1) % 12 / 2 = p by omega]
theorem tcells_at (T : TB) (i : Nat) (h : i < 48) : (tcells T)[i]? = some (.int .i64 (mv (tv T i))) := by
  unfold tcells; simp [h]
theorem tcells_size (T : TB) : (tcells T).size = 48 := by unfold tcells; simp
theorem trow_at (T : TB) (k i : Nat) (h : i < 12) : (trow T k)[i]? = some (.int .i64 (mv (tv T (12 * k + i)))) := by
  unfold trow; simp [h]
theorem trow_co (T : TB) (k p : Nat) (hp : p < 6) : (trow T k)[p * 2]? = some (.int .i64 (mv (T.co k p))) := by
  rw [trow_at T k _ (by omega), show 12 * k + p * 2 = k * 12 + p * 2 by omega, tv_co T k p hp]
theorem trow_ow (T : TB) (k p : Nat) (hp : p < 6) : (trow T k)[p * 2 + 1]? = some (.int .i64 (mv (T.ow k p))) := by
  rw [trow_at T k _ (by omega), show 12 * k + (p * 2 + 1) = k * 12 + p * 2 + 1 by omega, tv_ow T k p hp]
theorem trow_size (T : TB) (k : Nat) : (trow T k).size = 12 := by unfold trow; simp
theorem trow_one (T : TB) (k : Nat) : (trow T k).all (·.oneCell') = true := by
  unfold trow; exact Array.all_eq_true_iff_forall_mem.2 (fun v hv => by simp at hv; obtain ⟨i, _, rfl⟩ := hv; rfl)
theorem tcells_extract (T : TB) (k : Nat) (h : k < 4) : (tcells T).extract (k * 12) (k * 12 + 12) = trow T k := by
  unfold tcells trow
  apply Array.ext
  · simp; omega
  · intro i h1 h2
    simp at h1 h2
    simp [Nat.mul_comm]

/-- The table lies in block b. -/
def TabAt (w : World) (b : Nat) (T : TB) : Prop := w.heap[b]? = some (.cells (tcells T) 123 (0, 0))

theorem TabAt.coCell {w : World} {b : Nat} {T : TB} (h : TabAt w b T) {c p : Nat} (hc : c < 4) (hp : p < 6) : w.cell? ⟨b, c * 12 + p * 2, none⟩ = some (.int .i64 (mv (T.co c p))) :=
  blk_cell h (by rw [tcells_at T _ (by omega), tv_co T c p hp])
theorem TabAt.owCell {w : World} {b : Nat} {T : TB} (h : TabAt w b T) {c p : Nat} (hc : c < 4) (hp : p < 6) : w.cell? ⟨b, c * 12 + p * 2 + 1, none⟩ = some (.int .i64 (mv (T.ow c p))) :=
  blk_cell h (by rw [tcells_at T _ (by omega), tv_ow T c p hp])
theorem TabAt.free {w : World} {b : Nat} {T : TB} (h : TabAt w b T) (i : Nat) : w.frozen? ⟨b, i, none⟩ = false := blk_free h i
theorem TabAt.lt {w : World} {b : Nat} {T : TB} (h : TabAt w b T) : b < w.heap.size := lt_of_blk h
theorem TabAt.keep {w w1 : World} {b : Nat} {T : TB} {F : Nat → Prop} (h : TabAt w b T) (k : Keeps F w w1) (hF : ¬ F b) : TabAt w1 b T := k.blk h hF
theorem tcells_set (T U : TB) (i : Nat) (x : BitVec 4) (hi : i < 48) (hx : tv U i = x) (ho : ∀ j, j < 48 → j ≠ i → tv U j = tv T j) :
    (tcells T).setIfInBounds i (.int .i64 (mv x)) = tcells U := by
  apply Array.ext_getElem?
  intro j
  rw [Array.getElem?_setIfInBounds]
  by_cases h : i = j
  · subst h
    rw [if_pos rfl, if_pos (by rw [tcells_size]; exact hi), tcells_at U i hi, hx]
  · rw [if_neg h]
    by_cases hj : j < 48
    · rw [tcells_at T j hj, tcells_at U j hj, ho j hj (fun e => h e.symm)]
    · rw [Array.getElem?_eq_none (by rw [tcells_size]; omega), Array.getElem?_eq_none (by rw [tcells_size]; omega)]
theorem TabAt.setC {w : World} {b : Nat} {T : TB} (h : TabAt w b T) {c p : Nat} (hc : c < 4) (hp : p < 6) (x : BitVec 4) : TabAt (w.setCell ⟨b, c * 12 + p * 2, none⟩ (.int .i64 (mv x))) b (T.setC c p x) := by
  unfold TabAt
  rw [heap_setCell_same w b _ _ h, tcells_set T (T.setC c p x) _ x (by omega)]
  · rw [tv_co _ c p hp]; simp [TB.setC]
  · intro j hj hne
    unfold tv TB.setC
    by_cases e : j % 2 = 0
    · rw [if_pos e, if_pos e]; simp only []; rw [if_neg (by omega)]
    · rw [if_neg e, if_neg e]
theorem TabAt.setO {w : World} {b : Nat} {T : TB} (h : TabAt w b T) {c p : Nat} (hc : c < 4) (hp : p < 6) (x : BitVec 4) : TabAt (w.setCell ⟨b, c * 12 + p * 2 + 1, none⟩ (.int .i64 (mv x))) b (T.setO c p x) := by
  unfold TabAt
  rw [heap_setCell_same w b _ _ h, tcells_set T (T.setO c p x) _ x (by omega)]
  · rw [tv_ow _ c p hp]; simp [TB.setO]
  · intro j hj hne
    unfold tv TB.setO
    by_cases e : j % 2 = 0
    · rw [if_pos e, if_pos e]
    · rw [if_neg e, if_neg e]; simp only []; rw [if_neg (by omega)]

end Go.Proofs.Ytlpimkmkcfbddaa
