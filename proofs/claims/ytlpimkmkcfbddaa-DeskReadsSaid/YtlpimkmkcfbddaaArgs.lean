/- How arguments read: rows of structs in memory. No condition. -/
import Derived.Test.YtlpimkmkcfbddaaBase
import Derived.ProofKit
import Derived.OpenShut
import Derived.Deep.Slices
import Derived.SizedLaws
namespace Go.Proofs.Ytlpimkmkcfbddaa
open Go.RowKit Go.Deep Go.WideShapes Go.ChangeShapes

/-- The row of len elements of sz cells at a: element k's cell j is g k j. -/
def RdS (w : World) (sz : Nat) (a : Option Addr) (len : Nat) (g : Nat → Nat → Value) : Prop :=
  ∀ k, k < len → ∃ b off, a = some ⟨b, off, none⟩ ∧ b < w.heap.size ∧ ∀ j, j < sz → w.cell? ⟨b, off + (k * sz + j), none⟩ = some (g k j)

theorem keep_cell {F : Nat → Prop} {w w1 : World} (h : Keeps F w w1) (a : Addr) (hlt : a.block < w.heap.size) (hF : ¬ F a.block) : w1.cell? a = w.cell? a := by
  unfold World.cell?
  rw [h.block a.block hlt hF]
theorem keep_frozen {F : Nat → Prop} {w w1 : World} (h : Keeps F w w1) (a : Addr) (hlt : a.block < w.heap.size) (hF : ¬ F a.block) : w1.frozen? a = w.frozen? a := by
  unfold World.frozen?
  rw [h.block a.block hlt hF]

theorem RdS.keep {w w1 : World} {sz : Nat} {a : Option Addr} {len : Nat} {g : Nat → Nat → Value} (h : RdS w sz a len g) (hk : Keeps noB w w1) : RdS w1 sz a len g := by
  intro k hk'
  obtain ⟨b, off, ha, hb, hc⟩ := h k hk'
  exact ⟨b, off, ha, Nat.lt_of_lt_of_le hb hk.size, fun j hj => (keep_cell hk _ hb (noB_not _)).trans (hc j hj)⟩

/-- A number of kind i64. -/
def IsI (v : Value) : Prop := ∃ n : Int, v = .int .i64 n ∧ -9223372036854775808 ≤ n ∧ n ≤ 9223372036854775807
def IsB (v : Value) : Prop := ∃ b : Bool, v = .bool b
/-- A slice of bytes that reads as l. -/
def IsBy (w : World) (v : Value) : Prop := ∃ (a : Option Addr) (n c : Nat) (x : Nat → Int), v = .slice a n c ∧ n ≤ c ∧ c ≤ maxLen ∧ RdS w 1 a n (fun k _ => .int .u8 (x k)) ∧ ∀ k, k < n → 0 ≤ x k ∧ x k ≤ 255

theorem wf_i64_bounds {n : Int} (h : (Lit.int .i64 n).wf = true) : -9223372036854775808 ≤ n ∧ n ≤ 9223372036854775807 := bounds_i64 h

section
variable {H : Type} {enc : TypeId × Value → H} {P : Program} {w : World} {base : Nat} {spare : Nat → Bool} {held : Bool}

theorem trodI {t : TypeId} {fuel : Nat} {cs : List Value} {x : DataW H × List MemPlace} (ht : P.underlying t = some (.int .i64)) (h : DataW.trod enc P w base spare held fuel t cs = some x) : ∃ v, cs = [v] ∧ IsI v := by
  obtain ⟨n, rfl, _, hw⟩ := DataW.trod_int ht h
  exact ⟨_, rfl, n, rfl, wf_i64_bounds hw⟩
theorem trodB {t : TypeId} {fuel : Nat} {cs : List Value} {x : DataW H × List MemPlace} (ht : P.underlying t = some .bool) (h : DataW.trod enc P w base spare held fuel t cs = some x) : ∃ v, cs = [v] ∧ IsB v := by
  obtain ⟨b, rfl, _⟩ := DataW.trod_bool ht h
  exact ⟨_, rfl, b, rfl⟩

theorem cell_lt {w : World} {a : Addr} {v : Value} (h : w.cell? a = some v) : a.block < w.heap.size := World.block_lt_of_cell? w a h

theorem getD_some (l : List Value) (j : Nat) (h : j < l.length) : l[j]? = some (l.getD j undef) := by
  rw [List.getD_eq_getElem?_getD, List.getElem?_eq_getElem h]; rfl

theorem addr_of_cell {a : Addr} {v : Value} (h : w.cell? a = some v) : ∃ b off, a = ⟨b, off, none⟩ ∧ b < w.heap.size := by
  obtain ⟨b, off, sp⟩ := a
  have hb := cell_lt h
  cases sp with
  | none => exact ⟨b, off, rfl, hb⟩
  | some s =>
    simp [World.cell?] at h
    split at h <;> simp_all

/-- A slice's row, cell by cell: what each element's cells are is told by Q. -/
theorem open_rowsQ {t e : TypeId} {sz fuel len cap : Nat} {a : Option Addr} {x : DataW H × List MemPlace} (ht : P.underlying t = some (.slice e)) (ce : P.cellsOf e = sz) (hsz : 0 < sz)
    (Q : (Nat → Value) → Prop) (hQ : ∀ (cs : List Value) (n : Nat) (y : DataW H × List MemPlace), DataW.trod enc P w base spare held n e cs = some y → Q (fun j => cs.getD j undef))
    (h : DataW.trod enc P w base spare held fuel t [.slice a len cap] = some x) : len ≤ cap ∧ cap ≤ maxLen ∧ ∃ g : Nat → Nat → Value, RdS w sz a len g ∧ ∀ k, k < len → Q (g k) := by
  rcases open_slice ht h with ⟨h0, _⟩ | ⟨a', len', cap', m, n, D, Pl, h0, hb, hl, hm, hmm, _, hx⟩
  · simp at h0
    obtain ⟨rfl, rfl, rfl⟩ := h0
    exact ⟨Nat.le_refl _, Nat.zero_le _, fun _ _ => undef, fun k hk => by omega, fun k hk => by omega⟩
  · simp at h0
    obtain ⟨rfl, rfl, rfl⟩ := h0
    refine ⟨hl, hm, ?_⟩
    have hlm : len ≤ m := by rw [hmm]; split <;> omega
    rw [ce] at hx
    obtain ⟨C, hC⟩ := choose_lt (α := List Value) (p := fun i cs => w.cells? base (a'.add (i * sz)) sz = some cs ∧ Q (fun j => cs.getD j undef)) (n := len) (fun i hi => by
      obtain ⟨cs', h1, h2⟩ := hx i (by omega)
      exact ⟨cs', h1, hQ _ _ _ h2⟩)
    refine ⟨fun k j => (C k).getD j undef, fun k hk => ?_, fun k hk => (hC k hk).2⟩
    have h00 := (World.cells?_some (hC 0 (by omega)).1).2
    obtain ⟨hl0, hc0⟩ := h00
    have hz : w.cell? a' = some ((C 0).getD 0 undef) := by
      have := hc0 0 hsz
      simp [Addr.add] at this
      rw [this, getD_some _ _ (by omega)]
    obtain ⟨b, off, rfl, hlt⟩ := addr_of_cell hz
    refine ⟨b, off, rfl, hlt, fun j hj => ?_⟩
    obtain ⟨_, hlk, hck⟩ := World.cells?_some (hC k hk).1
    have := hck j hj
    rw [add_plain, add_plain, Nat.add_assoc] at this
    rw [this, getD_some _ _ (by omega)]

/-- A slice of bytes. -/
theorem open_bytes {t e : TypeId} {fuel len cap : Nat} {a : Option Addr} {x : DataW H × List MemPlace} (ht : P.underlying t = some (.slice e)) (he : P.underlying e = some (.int .u8)) (ce : P.cellsOf e = 1)
    (h : DataW.trod enc P w base spare held fuel t [.slice a len cap] = some x) : IsBy w (.slice a len cap) := by
  obtain ⟨h1, h2, g, hg, hq⟩ := open_rowsQ ht ce (by omega) (fun f => ∃ n : Int, f 0 = .int .u8 n ∧ 0 ≤ n ∧ n ≤ 255) (fun cs n y hy => by
    obtain ⟨v, rfl, _, hw⟩ := DataW.trod_int he hy
    have := bounds_u8 hw
    exact ⟨v, rfl, by omega, by omega⟩) h
  obtain ⟨X, hX⟩ := choose_lt (α := Int) (p := fun i n => g i 0 = .int .u8 n ∧ 0 ≤ n ∧ n ≤ 255) (n := len) (fun i hi => hq i hi)
  refine ⟨a, len, cap, X, rfl, h1, h2, fun k hk => ?_, fun k hk => ⟨(hX k hk).2.1, (hX k hk).2.2⟩⟩
  obtain ⟨b, off, ha, hlt, hc⟩ := hg k hk
  refine ⟨b, off, ha, hlt, fun j hj => ?_⟩
  obtain rfl : j = 0 := by omega
  rw [hc 0 hj, (hX k hk).1]
theorem trodBy {t e : TypeId} {fuel : Nat} {cs : List Value} {x : DataW H × List MemPlace} (ht : P.underlying t = some (.slice e)) (he : P.underlying e = some (.int .u8)) (ce : P.cellsOf e = 1)
    (h : DataW.trod enc P w base spare held fuel t cs = some x) : ∃ v, cs = [v] ∧ IsBy w v := by
  rcases open_slice ht h with ⟨rfl, _⟩ | ⟨a', len', cap', m, n, D, Pl, rfl, _⟩
  · exact ⟨_, rfl, open_bytes ht he ce h⟩
  · exact ⟨_, rfl, open_bytes ht he ce h⟩

/-- A struct's cells, field by field. -/
theorem open_struct {t : TypeId} {fs : Array Field} {fuel : Nat} {cs : List Value} {x : DataW H × List MemPlace} (ht : P.underlying t = some (.struct fs)) (h : DataW.trod enc P w base spare held fuel t cs = some x) :
    cs.length = P.cellsOf t ∧ ∀ (i : Nat) (f : Field), fs[i]? = some f → ∃ n y, DataW.trod enc P w base spare held n f.type ((cs.drop f.offset).take (P.cellsOf f.type)) = some y := by
  obtain ⟨xs, n, _, _, hl, hxl, hf⟩ := DataW.trod_struct ht h
  refine ⟨hl, fun i f hi => ?_⟩
  have hi' : i < fs.size := (Array.getElem?_eq_some_iff.1 hi).1
  have := hf i f hi
  rw [List.getElem?_eq_getElem (by omega)] at this
  exact ⟨n, _, this⟩
/-- An array's cells, element by element. -/
theorem open_arr {t e : TypeId} {m : Nat} {fuel : Nat} {cs : List Value} {x : DataW H × List MemPlace} (ht : P.underlying t = some (.array m e)) (h : DataW.trod enc P w base spare held fuel t cs = some x) :
    cs.length = P.cellsOf t ∧ ∀ i, i < m → ∃ n y, DataW.trod enc P w base spare held n e ((cs.drop (i * P.cellsOf e)).take (P.cellsOf e)) = some y := by
  obtain ⟨xs, n, _, _, hl, hxl, hf⟩ := DataW.trod_array ht h
  refine ⟨hl, fun i hi => ?_⟩
  have := hf i hi
  rw [List.getElem?_eq_getElem (by omega)] at this
  exact ⟨n, _, this⟩
end
end Go.Proofs.Ytlpimkmkcfbddaa
