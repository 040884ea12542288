/- The document's table: its cells, bit by bit. No condition. -/
import Derived.Test.YtlpimkmkcfbddaaTabMore
import Derived.Test.YtlpimkmkcfbddaaRes
namespace Go.Proofs.Ytlpimkmkcfbddaa
open Go.RowKit

/-- A bit (a word of our own, so that the walk leaves it as it is). -/
def bt (x : BitVec 4) (i : Nat) : Bool := x.getLsbD i
def rbit (T : TB) (i : Nat) : Bool := if i < 96 then bt (T.co (i / 24) (i % 24 / 4)) (i % 4) else bt (T.ow ((i - 96) / 24) ((i - 96) % 24 / 4)) (i % 4)
def rcells (T : TB) : Array Value := (Array.range 192).map fun i => .bool (rbit T i)
theorem rcells_size (T : TB) : (rcells T).size = 192 := by unfold rcells; simp
theorem rcells_at (T : TB) (i : Nat) (h : i < 192) : (rcells T)[i]? = some (.bool (rbit T i)) := by
  unfold rcells; simp [h]
theorem rbit_co (T : TB) {c p i : Nat} (hc : c < 4) (hp : p < 6) (hi : i < 4) : rbit T (c * 24 + p * 4 + i) = bt (T.co c p) i := by
  unfold rbit
  rw [if_pos (by omega), show (c * 24 + p * 4 + i) / 24 = c by omega, show (c * 24 + p * 4 + i) % 24 / 4 = p by omega, show (c * 24 + p * 4 + i) % 4 = i by omega]
theorem rbit_ow (T : TB) {c p i : Nat} (hp : p < 6) (hi : i < 4) : rbit T (96 + c * 24 + p * 4 + i) = bt (T.ow c p) i := by
  unfold rbit
  rw [if_neg (by omega), show (96 + c * 24 + p * 4 + i - 96) / 24 = c by omega, show (96 + c * 24 + p * 4 + i - 96) % 24 / 4 = p by omega, show (96 + c * 24 + p * 4 + i) % 4 = i by omega]
def RtAt (w : World) (b : Nat) (T : TB) : Prop := w.heap[b]? = some (.cells (rcells T) 46 (0, 0))
theorem RtAt.co {w : World} {b : Nat} {T : TB} (h : RtAt w b T) {c p i : Nat} (hc : c < 4) (hp : p < 6) (hi : i < 4) : w.cell? ⟨b, c * 24 + p * 4 + i, none⟩ = some (.bool (bt (T.co c p) i)) :=
  blk_cell h (by rw [rcells_at _ _ (by omega), rbit_co T hc hp hi])
theorem RtAt.ow {w : World} {b : Nat} {T : TB} (h : RtAt w b T) {c p i : Nat} (hc : c < 4) (hp : p < 6) (hi : i < 4) : w.cell? ⟨b, 96 + c * 24 + p * 4 + i, none⟩ = some (.bool (bt (T.ow c p) i)) :=
  blk_cell h (by rw [rcells_at _ _ (by omega), rbit_ow T hp hi])
theorem RtAt.keep {w w1 : World} {b : Nat} {T : TB} {F : Nat → Prop} (h : RtAt w b T) (k : Keeps F w w1) (hF : ¬ F b) : RtAt w1 b T := k.blk h hF
theorem RtAt.no {w w1 : World} {b : Nat} {T : TB} (h : RtAt w b T) (k : Keeps noB w w1) : RtAt w1 b T := k.blk h (noB_not _)
theorem rcells_one (T : TB) : (rcells T).all (·.oneCell') = true := by
  unfold rcells; exact Array.all_eq_true_iff_forall_mem.2 (fun v hv => by simp at hv; obtain ⟨i, _, rfl⟩ := hv; rfl)
theorem info46 : (Try.prog.info? 46).map (·.size) = some 192 := by kernel_rfl
theorem info46' (T : TB) : (Try.prog.info? 46).map (·.size) = some (rcells T).size := by rw [rcells_size]; exact info46
theorem rcells_set (T U : TB) (i : Nat) (x : Bool) (hi : i < 192) (hx : rbit U i = x) (ho : ∀ j, j < 192 → j ≠ i → rbit U j = rbit T j) :
    (rcells T).setIfInBounds i (.bool x) = rcells U := by
  apply Array.ext_getElem?
  intro j
  rw [Array.getElem?_setIfInBounds]
  by_cases hj : j < 192
  · by_cases e : i = j
    · subst e
      rw [if_pos rfl, if_pos (by rw [rcells_size]; exact hi), rcells_at U i hi, hx]
    · rw [if_neg e, rcells_at T j hj, rcells_at U j hj, ho j hj (Ne.symm e)]
  · by_cases e : i = j
    · omega
    · rw [if_neg e, Array.getElem?_eq_none (by rw [rcells_size]; omega), Array.getElem?_eq_none (by rw [rcells_size]; omega)]
def sb (x : BitVec 4) (i : Nat) (b : Bool) : BitVec 4 := if b then x ||| (1#4 <<< i) else x &&& ~~~(1#4 <<< i)
theorem sb_same : ∀ (x : BitVec 4) (b : Bool) (i : Nat), i < 4 → bt (sb x i b) i = b := by decide +kernel
theorem sb_ne : ∀ (x : BitVec 4) (b : Bool) (i : Nat), i < 4 → ∀ j, j < 4 → j ≠ i → bt (sb x i b) j = bt x j := by decide +kernel
def lowm (k : Nat) : BitVec 4 := BitVec.ofNat 4 (2 ^ k - 1)
def mix (k : Nat) (x y : BitVec 4) : BitVec 4 := (y &&& lowm k) ||| (x &&& ~~~lowm k)
theorem mix_0 : ∀ x y : BitVec 4, mix 0 x y = x := by decide +kernel
theorem mix_4 : ∀ x y : BitVec 4, mix 4 x y = y := by decide +kernel
theorem mix_at : ∀ (x y : BitVec 4) (k : Nat), k < 4 → bt (mix k x y) k = bt x k := by decide +kernel
theorem mix_put : ∀ (x y : BitVec 4) (k : Nat), k < 4 → sb (mix k x y) k (bt y k) = mix (k + 1) x y := by decide +kernel
theorem mix_skip : ∀ (x y : BitVec 4) (k : Nat), k < 4 → bt y k = bt x k → mix (k + 1) x y = mix k x y := by decide +kernel
theorem RtAt.setC {w : World} {b : Nat} {T : TB} (h : RtAt w b T) {c p i : Nat} (hc : c < 4) (hp : p < 6) (hi : i < 4) (x : Bool) :
    RtAt (w.setCell ⟨b, c * 24 + p * 4 + i, none⟩ (.bool x)) b (T.setC c p (sb (T.co c p) i x)) := by
  unfold RtAt
  rw [heap_setCell_same w b _ _ h, rcells_set T (T.setC c p (sb (T.co c p) i x)) _ x (by omega) ?_ ?_]
  · rw [rbit_co _ hc hp hi]
    simp [TB.setC, sb_same _ x i hi]
  · intro j hj hne
    unfold rbit
    by_cases h96 : j < 96
    · rw [if_pos h96, if_pos h96]
      simp only [TB.setC]
      by_cases e : j / 24 = c ∧ j % 24 / 4 = p
      · rw [if_pos e, sb_ne _ x i hi _ (by omega) (by omega), e.1, e.2]
      · rw [if_neg e]
    · rw [if_neg h96, if_neg h96]
      rfl
theorem RtAt.setO {w : World} {b : Nat} {T : TB} (h : RtAt w b T) {c p i : Nat} (hc : c < 4) (hp : p < 6) (hi : i < 4) (x : Bool) :
    RtAt (w.setCell ⟨b, 96 + c * 24 + p * 4 + i, none⟩ (.bool x)) b (T.setO c p (sb (T.ow c p) i x)) := by
  unfold RtAt
  rw [heap_setCell_same w b _ _ h, rcells_set T (T.setO c p (sb (T.ow c p) i x)) _ x (by omega) ?_ ?_]
  · rw [rbit_ow _ hp hi]
    simp [TB.setO, sb_same _ x i hi]
  · intro j hj hne
    unfold rbit
    by_cases h96 : j < 96
    · rw [if_pos h96, if_pos h96]
      rfl
    · rw [if_neg h96, if_neg h96]
      simp only [TB.setO]
      by_cases e : (j - 96) / 24 = c ∧ (j - 96) % 24 / 4 = p
      · rw [if_pos e, sb_ne _ x i hi _ (by omega) (by omega), e.1, e.2]
      · rw [if_neg e]
theorem setC_setC (T : TB) (c p : Nat) (x y : BitVec 4) : (T.setC c p x).setC c p y = T.setC c p y := by
  unfold TB.setC; congr 1; funext a b; simp only; split <;> rfl
theorem setO_setO (T : TB) (c p : Nat) (x y : BitVec 4) : (T.setO c p x).setO c p y = T.setO c p y := by
  unfold TB.setO; congr 1; funext a b; simp only; split <;> rfl
theorem setC_setO (T : TB) (c p : Nat) (x y : BitVec 4) : (T.setO c p x).setC c p y = (T.setC c p y).setO c p x := rfl
theorem setC_id (T : TB) (c p : Nat) : T.setC c p (T.co c p) = T := by
  unfold TB.setC
  have : (fun a b => if a = c ∧ b = p then T.co c p else T.co a b) = T.co := by funext a b; split; (rename_i h; rw [h.1, h.2]); rfl
  rw [this]
theorem setO_id (T : TB) (c p : Nat) : T.setO c p (T.ow c p) = T := by
  unfold TB.setO
  have : (fun a b => if a = c ∧ b = p then T.ow c p else T.ow a b) = T.ow := by funext a b; split; (rename_i h; rw [h.1, h.2]); rfl
  rw [this]
/-- k bits of a place are turned. -/
def TB.mixed (T : TB) (c p k : Nat) (x y : BitVec 4) : TB := (T.setC c p (mix k (T.co c p) x)).setO c p (mix k (T.ow c p) y)
theorem mixed_0 (T : TB) (c p : Nat) (x y : BitVec 4) : T.mixed c p 0 x y = T := by
  unfold TB.mixed
  rw [mix_0, mix_0, setC_id, setO_id]
theorem mixed_4 (T : TB) (c p : Nat) (x y : BitVec 4) : T.mixed c p 4 x y = (T.setC c p x).setO c p y := by
  unfold TB.mixed; rw [mix_4, mix_4]
theorem mixed_co (T : TB) (c p k : Nat) (x y : BitVec 4) : (T.mixed c p k x y).co c p = mix k (T.co c p) x := by simp [TB.mixed, TB.setC, TB.setO]
theorem mixed_ow (T : TB) (c p k : Nat) (x y : BitVec 4) : (T.mixed c p k x y).ow c p = mix k (T.ow c p) y := by simp [TB.mixed, TB.setC, TB.setO]
/-- Bits of a small mask. -/
def bcells (x : BitVec 4) : Array Value := #[.bool (bt x 0), .bool (bt x 1), .bool (bt x 2), .bool (bt x 3)]
theorem bcells_at (x : BitVec 4) {i : Nat} (h : i < 4) : (bcells x)[i]? = some (.bool (bt x i)) := by
  rcases (show i = 0 ∨ i = 1 ∨ i = 2 ∨ i = 3 by omega) with rfl | rfl | rfl | rfl <;> rfl
theorem mv_low : ∀ (x : BitVec 4) (k : Nat), k < 4 → mv (x &&& lowm (k + 1)) = mv (x &&& lowm k) + (if bt x k then 2 ^ k else 0) := by decide +kernel
theorem mv_low4 : ∀ x : BitVec 4, mv (x &&& lowm 4) = mv x := by decide +kernel
def lowv (x : BitVec 4) (k : Nat) : Int := mv (x &&& lowm k)
def pw (k : Nat) : Int := 2 ^ k
theorem lowv_t {x : BitVec 4} {k : Nat} (h : k < 4) (hb : bt x k = true) : lowv x (k + 1) = lowv x k + pw k := by
  have := mv_low x k h; rw [if_pos hb] at this; exact this
theorem lowv_f {x : BitVec 4} {k : Nat} (h : k < 4) (hb : bt x k = false) : lowv x (k + 1) = lowv x k := by
  have := mv_low x k h; rw [if_neg (by rw [hb]; decide)] at this; simpa [lowv] using this
theorem lowv_0 : ∀ x : BitVec 4, lowv x 0 = 0 := by decide +kernel
theorem lowv_4 : ∀ x : BitVec 4, lowv x 4 = mv x := by decide +kernel
theorem lowv_le (x : BitVec 4) (k : Nat) : 0 ≤ lowv x k ∧ lowv x k ≤ 15 := mv_lt _
theorem pw_s {k : Nat} (h : k < 4) : 2 * pw k = pw (k + 1) ∧ 0 ≤ pw k ∧ pw k ≤ 8 := by
  rcases (show k = 0 ∨ k = 1 ∨ k = 2 ∨ k = 3 by omega) with rfl | rfl | rfl | rfl <;> decide
theorem bits_mv : ∀ x : BitVec 4, ((mv x) % 2 == 1) = bt x 0 ∧ ((mv x) / 2 % 2 == 1) = bt x 1 ∧ ((mv x) / 4 % 2 == 1) = bt x 2 ∧ ((mv x) / 8 == 1) = bt x 3 := by decide +kernel
end Go.Proofs.Ytlpimkmkcfbddaa
