/- How arguments read, and that what they hold is no longer than the form's reach. No condition. -/
import Derived.Test.YtoeikgaikdbpbaaArgs
namespace Go.Proofs.Ytoeikgaikdbpbaa
open Go.RowKit Go.Deep Go.WideShapes Go.ChangeShapes

/-- All that a datum holds is within reach. -/
def Sz {H : Type} (P : Program) (t : TypeId) (d : DataW H) : Prop := ∀ n ∈ d.weights P t, n ≤ reachBytes

section
variable {H : Type} {enc : TypeId × Value → H} {P : Program} {w : World} {base : Nat} {spare : Nat → Bool} {held : Bool}

theorem Sz.arg {ts : List TypeId} {ds : List (DataW H)} (h : (DataW.weightsEach P ts ds).all (· ≤ reachBytes) = true) {j : Nat} {t : TypeId} {d : DataW H} (ht : ts[j]? = some t) (hd : ds[j]? = some d) : Sz P t d := by
  intro n hn
  have := List.all_eq_true.1 h _ (DataW.weights_mem_each ht hd n hn)
  simpa using this
theorem mem_weightsAll {e : TypeId} {n : Nat} : ∀ {l : List (DataW H)} {d : DataW H}, d ∈ l → n ∈ d.weights P e → n ∈ DataW.weightsAll P e l
  | [], _, h, _ => by simp at h
  | x :: r, d, h, hn => by
    simp only [DataW.weightsAll, List.mem_append]
    rcases List.mem_cons.1 h with rfl | h
    · exact .inl hn
    · exact .inr (mem_weightsAll h hn)
theorem Sz.elem {t e : TypeId} {l r : List (DataW H)} (hu : P.underlying t = some (.slice e)) (h : Sz P t (.slice l r)) {d : DataW H} (hd : d ∈ l) : Sz P e d := by
  intro n hn
  refine h n ?_
  simp only [DataW.weights, hu, List.mem_cons, List.mem_append]
  exact .inr (.inl (mem_weightsAll hd hn))
theorem Sz.len {t e : TypeId} {l r : List (DataW H)} (hu : P.underlying t = some (.slice e)) (h : Sz P t (.slice l r)) : (l.length + r.length) * P.bytesOf e ≤ reachBytes := by
  refine h _ ?_
  simp [DataW.weights, hu]
theorem Sz.field {t : TypeId} {fs : Array Field} {parts : List (DataW H)} (hu : P.underlying t = some (.struct fs)) (h : Sz P t (.agg parts)) {i : Nat} {f : Field} {d : DataW H} (hf : fs[i]? = some f) (hd : parts[i]? = some d) : Sz P f.type d := by
  intro n hn
  refine h n ?_
  simp only [DataW.weights, hu]
  refine DataW.weights_mem_each (j := i) ?_ hd n hn
  rw [List.getElem?_map, Array.getElem?_toList, hf]
  rfl
theorem Sz.part {t e : TypeId} {m : Nat} {parts : List (DataW H)} (hu : P.underlying t = some (.array m e)) (h : Sz P t (.agg parts)) {d : DataW H} (hd : d ∈ parts) : Sz P e d := by
  intro n hn
  refine h n ?_
  simp only [DataW.weights, hu]
  exact mem_weightsAll hd hn

/-- A slice's row, cell by cell, each element within reach. -/
theorem open_rowsQS {t e : TypeId} {sz fuel len cap : Nat} {a : Option Addr} {x : DataW H × List MemPlace} (ht : P.underlying t = some (.slice e)) (ce : P.cellsOf e = sz) (hsz : 0 < sz) (hz : Sz P t x.1)
    (Q : (Nat → Value) → Prop) (hQ : ∀ (cs : List Value) (n : Nat) (y : DataW H × List MemPlace), DataW.trod enc P w base spare held n e cs = some y → Sz P e y.1 → Q (fun j => cs.getD j undef))
    (h : DataW.trod enc P w base spare held fuel t [.slice a len cap] = some x) : len ≤ cap ∧ cap ≤ maxLen ∧ len * P.bytesOf e ≤ reachBytes ∧ ∃ g : Nat → Nat → Value, RdS w sz a len g ∧ ∀ k, k < len → Q (g k) := by
  rcases open_slice ht h with ⟨h0, _⟩ | ⟨a', len', cap', m, n, D, Pl, h0, hb, hl, hm, hmm, rfl, hx⟩
  · simp at h0
    obtain ⟨rfl, rfl, rfl⟩ := h0
    exact ⟨Nat.le_refl _, Nat.zero_le _, by simp, fun _ _ => undef, fun k hk => by omega, fun k hk => by omega⟩
  · simp at h0
    obtain ⟨rfl, rfl, rfl⟩ := h0
    have hlen := hz.len ht
    simp only [List.length_map, List.length_range] at hlen
    refine ⟨hl, hm, Nat.le_trans (Nat.mul_le_mul_right _ (Nat.le_add_right _ _)) hlen, ?_⟩
    have hlm : len ≤ m := by rw [hmm]; split <;> omega
    rw [ce] at hx
    obtain ⟨C, hC⟩ := choose_lt (α := List Value) (p := fun i cs => w.cells? base (a'.add (i * sz)) sz = some cs ∧ Q (fun j => cs.getD j undef)) (n := len) (fun i hi => by
      obtain ⟨cs', h1, h2⟩ := hx i (by omega)
      exact ⟨cs', h1, hQ _ _ _ h2 (hz.elem ht (List.mem_map.2 ⟨i, by simpa using hi, rfl⟩))⟩)
    refine ⟨fun k j => (C k).getD j undef, fun k hk => ?_, fun k hk => (hC k hk).2⟩
    have h00 := (World.cells?_some (hC 0 (by omega)).1).2
    obtain ⟨hl0, hc0⟩ := h00
    have hz : w.cell? a' = some ((C 0).getD 0 undef) := by
      have := hc0 0 hsz
      simp [Addr.add] at this
      rw [this, getD_some _ _ (by omega)]
    obtain ⟨b, off, rfl, hlt⟩ := addr_of_cell hz
    refine ⟨b, off, rfl, hlt, fun j hj => ?_⟩
    obtain ⟨_, hlk, hck⟩ := World.cells?_some (hC k hk).1
    have := hck j hj
    rw [add_plain, add_plain, Nat.add_assoc] at this
    rw [this, getD_some _ _ (by omega)]

/-- A slice of bytes within reach. -/
def IsByS (w : World) (v : Value) : Prop := ∃ (a : Option Addr) (n c : Nat) (x : Nat → Int), v = .slice a n c ∧ n ≤ c ∧ c ≤ maxLen ∧ n ≤ reachBytes ∧ RdS w 1 a n (fun k _ => .int .u8 (x k)) ∧ ∀ k, k < n → 0 ≤ x k ∧ x k ≤ 255
theorem open_bytesS {t e : TypeId} {fuel len cap : Nat} {a : Option Addr} {x : DataW H × List MemPlace} (ht : P.underlying t = some (.slice e)) (he : P.underlying e = some (.int .u8)) (ce : P.cellsOf e = 1) (be : P.bytesOf e = 1) (hz : Sz P t x.1)
    (h : DataW.trod enc P w base spare held fuel t [.slice a len cap] = some x) : IsByS w (.slice a len cap) := by
  obtain ⟨h1, h2, h3, g, hg, hq⟩ := open_rowsQS ht ce (by omega) hz (fun f => ∃ n : Int, f 0 = .int .u8 n ∧ 0 ≤ n ∧ n ≤ 255) (fun cs n y hy _ => by
    obtain ⟨v, rfl, _, hw⟩ := DataW.trod_int he hy
    have := bounds_u8 hw
    exact ⟨v, rfl, by omega, by omega⟩) h
  rw [be, Nat.mul_one] at h3
  obtain ⟨X, hX⟩ := choose_lt (α := Int) (p := fun i n => g i 0 = .int .u8 n ∧ 0 ≤ n ∧ n ≤ 255) (n := len) (fun i hi => hq i hi)
  refine ⟨a, len, cap, X, rfl, h1, h2, h3, fun k hk => ?_, fun k hk => ⟨(hX k hk).2.1, (hX k hk).2.2⟩⟩
  obtain ⟨b, off, ha, hlt, hc⟩ := hg k hk
  refine ⟨b, off, ha, hlt, fun j hj => ?_⟩
  obtain rfl : j = 0 := by omega
  rw [hc 0 hj, (hX k hk).1]
theorem trodByS {t e : TypeId} {fuel : Nat} {cs : List Value} {x : DataW H × List MemPlace} (ht : P.underlying t = some (.slice e)) (he : P.underlying e = some (.int .u8)) (ce : P.cellsOf e = 1) (be : P.bytesOf e = 1)
    (h : DataW.trod enc P w base spare held fuel t cs = some x) (hz : Sz P t x.1) : ∃ v, cs = [v] ∧ IsByS w v := by
  rcases open_slice ht h with ⟨rfl, _⟩ | ⟨a', len', cap', m, n, D, Pl, rfl, _⟩
  · exact ⟨_, rfl, open_bytesS ht he ce be hz h⟩
  · exact ⟨_, rfl, open_bytesS ht he ce be hz h⟩
/-- A struct's cells, field by field, each within reach. -/
theorem open_structS {t : TypeId} {fs : Array Field} {fuel : Nat} {cs : List Value} {x : DataW H × List MemPlace} (ht : P.underlying t = some (.struct fs)) (h : DataW.trod enc P w base spare held fuel t cs = some x) (hz : Sz P t x.1) :
    cs.length = P.cellsOf t ∧ ∀ (i : Nat) (f : Field), fs[i]? = some f → ∃ n y, DataW.trod enc P w base spare held n f.type ((cs.drop f.offset).take (P.cellsOf f.type)) = some y ∧ Sz P f.type y.1 := by
  obtain ⟨xs, n, _, rfl, hl, hxl, hf⟩ := DataW.trod_struct ht h
  refine ⟨hl, fun i f hi => ?_⟩
  have hi' : i < fs.size := (Array.getElem?_eq_some_iff.1 hi).1
  have := hf i f hi
  rw [List.getElem?_eq_getElem (by omega)] at this
  exact ⟨n, _, this, hz.field ht hi (by rw [List.getElem?_map, List.getElem?_eq_getElem (by omega)]; rfl)⟩
theorem open_arrS {t e : TypeId} {m : Nat} {fuel : Nat} {cs : List Value} {x : DataW H × List MemPlace} (ht : P.underlying t = some (.array m e)) (h : DataW.trod enc P w base spare held fuel t cs = some x) (hz : Sz P t x.1) :
    cs.length = P.cellsOf t ∧ ∀ i, i < m → ∃ n y, DataW.trod enc P w base spare held n e ((cs.drop (i * P.cellsOf e)).take (P.cellsOf e)) = some y ∧ Sz P e y.1 := by
  obtain ⟨xs, n, _, rfl, hl, hxl, hf⟩ := DataW.trod_array ht h
  refine ⟨hl, fun i hi => ?_⟩
  have := hf i hi
  rw [List.getElem?_eq_getElem (by omega)] at this
  exact ⟨n, _, this, hz.part ht (List.mem_map.2 ⟨_, List.getElem_mem (by omega), rfl⟩)⟩
end
end Go.Proofs.Ytoeikgaikdbpbaa
