/- The drive in memory: New, Len, there, Read. No condition. -/
import Derived.Test.YteoafecdlnaecaaSec
namespace Go.Proofs.Yteoafecdlnaecaa
open Go.RowKit

/-- A slice of at most 100 bytes that reads as l. -/
def ByV (w : World) (D : Nat → Prop) (v : Value) (l : List Int) : Prop := l.length ≤ 100 ∧ ∃ a c, v = .slice a l.length c ∧ ByR w D a l
theorem ByV.keep {w w1 : World} {D : Nat → Prop} {v : Value} {l : List Int} {F : Nat → Prop} (h : ByV w D v l) (hk : Keeps F w w1) (hF : ∀ b, D b → ¬ F b) : ByV w1 D v l := by
  obtain ⟨h0, a, c, h1, h2⟩ := h
  exact ⟨h0, a, c, h1, h2.keep hk hF⟩
theorem ByV.mono {w : World} {D E : Nat → Prop} {v : Value} {l : List Int} (h : ByV w D v l) (hE : ∀ b, b < w.heap.size → D b → E b) : ByV w E v l := by
  obtain ⟨h0, a, c, h1, h2⟩ := h
  exact ⟨h0, a, c, h1, h2.mono hE⟩
def dcell (va vb : Nat → Value) (lo : Nat → Bool) (j : Nat) : Value := if j % 3 = 0 then va (j / 3) else if j % 3 = 1 then vb (j / 3) else .bool (lo (j / 3))
def drow (n : Nat) (va vb : Nat → Value) (lo : Nat → Bool) : Array Value := (Array.range (n * 3)).map (dcell va vb lo)
theorem drow_size (n : Nat) (va vb : Nat → Value) (lo : Nat → Bool) : (drow n va vb lo).size = n * 3 := by simp [drow]
theorem drow_at (n : Nat) (va vb : Nat → Value) (lo : Nat → Bool) {j : Nat} (h : j < n * 3) : (drow n va vb lo)[j]? = some (dcell va vb lo j) := by simp [drow, h]
theorem drow_0 (n : Nat) (va vb : Nat → Value) (lo : Nat → Bool) {i : Nat} (h : i < n) : (drow n va vb lo)[i * 3]? = some (va i) := by
  rw [drow_at _ _ _ _ (by omega)]; unfold dcell; rw [if_pos (by omega), show i * 3 / 3 = i by omega]
theorem drow_1 (n : Nat) (va vb : Nat → Value) (lo : Nat → Bool) {i : Nat} (h : i < n) : (drow n va vb lo)[i * 3 + 1]? = some (vb i) := by
  rw [drow_at _ _ _ _ (by omega)]; unfold dcell; rw [if_neg (by omega), if_pos (by omega), show (i * 3 + 1) / 3 = i by omega]
theorem drow_2 (n : Nat) (va vb : Nat → Value) (lo : Nat → Bool) {i : Nat} (h : i < n) : (drow n va vb lo)[i * 3 + 2]? = some (.bool (lo i)) := by
  rw [drow_at _ _ _ _ (by omega)]; unfold dcell; rw [if_neg (by omega), if_neg (by omega), show (i * 3 + 2) / 3 = i by omega]
def up {α : Type} (f : Nat → α) (i : Nat) (x : α) (k : Nat) : α := if k = i then x else f k
theorem drow_set0 (n : Nat) (va vb : Nat → Value) (lo : Nat → Bool) {i : Nat} (h : i < n) (v : Value) : (drow n va vb lo).setIfInBounds (i * 3) v = drow n (up va i v) vb lo := by
  apply Array.ext_getElem?
  intro j
  rw [Array.getElem?_setIfInBounds, drow_size]
  by_cases hj : j < n * 3
  · rw [drow_at _ _ _ _ hj, drow_at _ _ _ _ hj]
    by_cases e : i * 3 = j
    · subst e
      rw [if_pos rfl, if_pos (by omega)]
      unfold dcell up
      rw [if_pos (by omega), if_pos (by omega)]
    · rw [if_neg e]
      unfold dcell up
      by_cases e2 : j % 3 = 0
      · rw [if_pos e2, if_pos e2, if_neg (by omega)]
      · rw [if_neg e2, if_neg e2]
  · rw [if_neg (by omega), Array.getElem?_eq_none (by rw [drow_size]; omega), Array.getElem?_eq_none (by rw [drow_size]; omega)]
theorem drow_set1 (n : Nat) (va vb : Nat → Value) (lo : Nat → Bool) {i : Nat} (h : i < n) (v : Value) : (drow n va vb lo).setIfInBounds (i * 3 + 1) v = drow n va (up vb i v) lo := by
  apply Array.ext_getElem?
  intro j
  rw [Array.getElem?_setIfInBounds, drow_size]
  by_cases hj : j < n * 3
  · rw [drow_at _ _ _ _ hj, drow_at _ _ _ _ hj]
    by_cases e : i * 3 + 1 = j
    · subst e
      rw [if_pos rfl, if_pos (by omega)]
      unfold dcell up
      rw [if_neg (by omega), if_pos (by omega), if_pos (by omega)]
    · rw [if_neg e]
      unfold dcell up
      by_cases e2 : j % 3 = 1
      · rw [if_neg (by omega), if_pos e2, if_neg (by omega), if_pos e2, if_neg (by omega)]
      · rw [if_neg e2, if_neg e2]
  · rw [if_neg (by omega), Array.getElem?_eq_none (by rw [drow_size]; omega), Array.getElem?_eq_none (by rw [drow_size]; omega)]
theorem drow_set2 (n : Nat) (va vb : Nat → Value) (lo : Nat → Bool) {i : Nat} (h : i < n) (x : Bool) : (drow n va vb lo).setIfInBounds (i * 3 + 2) (.bool x) = drow n va vb (up lo i x) := by
  apply Array.ext_getElem?
  intro j
  rw [Array.getElem?_setIfInBounds, drow_size]
  by_cases hj : j < n * 3
  · rw [drow_at _ _ _ _ hj, drow_at _ _ _ _ hj]
    by_cases e : i * 3 + 2 = j
    · subst e
      rw [if_pos rfl, if_pos (by omega)]
      unfold dcell up
      rw [if_neg (by omega), if_neg (by omega), if_pos (by omega)]
    · rw [if_neg e]
      unfold dcell up
      by_cases e0 : j % 3 = 0
      · rw [if_pos e0, if_pos e0]
      · by_cases e1 : j % 3 = 1
        · rw [if_neg e0, if_pos e1, if_neg e0, if_pos e1]
        · rw [if_neg e0, if_neg e1, if_neg e0, if_neg e1, if_neg (by omega)]
  · rw [if_neg (by omega), Array.getElem?_eq_none (by rw [drow_size]; omega), Array.getElem?_eq_none (by rw [drow_size]; omega)]

/-- The drive at block b, its blocks all in D: n sectors, their bytes, the stable ones, and which are loose. -/
structure DrAt (w : World) (D : Nat → Prop) (b g n : Nat) (now st : Nat → List Int) (lo : Nat → Bool) (va vb : Nat → Value) : Prop where
  ne : b ≠ g
  inb : D b
  ing : D g
  le : n ≤ 6
  lt : ∀ x, D x → x < w.heap.size
  ptr : w.heap[b]? = some (.cells #[.slice (some ⟨g, 0, none⟩) n n] 60 (0, 0))
  row : w.heap[g]? = some (.cells (drow n va vb lo) 64 (0, 0))
  now : ∀ i, i < n → ByV w (fun x => D x ∧ x ≠ b ∧ x ≠ g) (va i) (now i)
  st : ∀ i, i < n → ByV w (fun x => D x ∧ x ≠ b ∧ x ≠ g) (vb i) (st i)
theorem DrAt.keep {w w1 : World} {D : Nat → Prop} {b g n : Nat} {now st : Nat → List Int} {lo : Nat → Bool} {va vb : Nat → Value} {F : Nat → Prop} (h : DrAt w D b g n now st lo va vb) (hk : Keeps F w w1) (hF : ∀ x, D x → ¬ F x) : DrAt w1 D b g n now st lo va vb :=
  ⟨h.ne, h.inb, h.ing, h.le, fun x hx => Nat.lt_of_lt_of_le (h.lt x hx) hk.size, hk.blk h.ptr (hF b h.inb), hk.blk h.row (hF g h.ing), fun i hi => (h.now i hi).keep hk (fun x hx => hF x hx.1), fun i hi => (h.st i hi).keep hk (fun x hx => hF x hx.1)⟩

theorem len_c {w : World} {D : Nat → Prop} {b g n : Nat} {now st : Nat → List Int} {lo : Nat → Bool} {va vb : Nat → Value} (h : DrAt w D b g n now st lo va vb) :
    Calls Try.prog 11 #[.pointer (some ⟨b, 0, none⟩)] w (Ret (.int .i64 n) w) := by
  have hc := blk_cell h.ptr (i := 0) rfl
  go_enter Try.func11, Try.ntmps11
  go_wp2_with fail
  go_ret
  exact ret_i rfl

def inD (n : Nat) (i : Int) : Bool := decide (0 ≤ i) && decide (i < n)
theorem there_c {w : World} {D : Nat → Prop} {b g n : Nat} {now st : Nat → List Int} {lo : Nat → Bool} {va vb : Nat → Value} (h : DrAt w D b g n now st lo va vb) (i : Int) :
    Calls Try.prog 25 #[.pointer (some ⟨b, 0, none⟩), .int .i64 i] w (Ret (.bool (inD n i)) w) := by
  have hc := blk_cell h.ptr (i := 0) rfl
  go_enter Try.func25, Try.ntmps25
  go_wp2_with fail
  all_goals go_ret
  all_goals exact ret_b (by unfold inD; grind)
theorem inD_open {n : Nat} {i : Int} (h : inD n i = true) : ∃ k : Nat, i = k ∧ k < n := by
  unfold inD at h; simp at h; exact ⟨i.toNat, by omega, by omega⟩

set_option maxRecDepth 100000 in
set_option maxHeartbeats 4000000 in
theorem read_c {w : World} {D : Nat → Prop} {b g n : Nat} {now st : Nat → List Int} {lo : Nat → Bool} {va vb : Nat → Value} (h : DrAt w D b g n now st lo va vb) (i : Int) :
    Calls Try.prog 9 #[.pointer (some ⟨b, 0, none⟩), .int .i64 i] w fun e w' => ∃ a c, RetK noB (.tuple #[.slice a (if inD n i then now i.toNat else []).length c, .int .i64 (if inD n i then 0 else 51)]) w e w' ∧ ByO w' w.heap.size a c (if inD n i then now i.toNat else []) := by
  cases hin : inD n i
  · simp only [Bool.false_eq_true, if_false]
    go_enter Try.func9, Try.ntmps9
    go_wp2_with (go_at_call 25; refine (there_c h i).mono ?_; rintro e w' ⟨rfl, rfl⟩; rw [hin])
    go_ret2
    exact ⟨none, 0, ⟨rfl, Keeps.refl _ _⟩, .inl ⟨rfl, rfl, rfl⟩⟩
  · obtain ⟨k, rfl, hk⟩ := inD_open hin
    simp only [if_true, Int.toNat_natCast]
    obtain ⟨hl, a, c, hv, hr⟩ := h.now k hk
    have hc := blk_cell h.ptr (i := 0) rfl
    have h0 := blk_cell h.row (drow_0 n va vb lo hk)
    rw [hv] at h0
    have h6 := h.le
    go_enter Try.func9, Try.ntmps9
    go_wp2_with (first | (go_at_call 25; refine (there_c h k).mono ?_; rintro e w' ⟨rfl, rfl⟩; rw [hin]) | (go_at_call 26; refine (clone_c _ (by omega) _ a c _ hr).mono ?_; rintro e w1 ⟨a', c', ⟨rfl, hk1⟩, hO⟩))
    go_ret2
    exact ⟨a', c', ⟨rfl, hk1⟩, hO⟩
end Go.Proofs.Yteoafecdlnaecaa
