/- The reference's drive: rows of bytes and of bools; an append onto an empty slice. No condition. -/
import Derived.Test.YteoafecdlnaecaaSecAll
import Derived.Test.YteoafecdlnaecaaRes
import Derived.Deep.RegionHeld3
namespace Go.Proofs.Yteoafecdlnaecaa
open Go.RowKit
open Go.Deep (choose_lt)

/-- An append onto an empty slice takes new memory, whatever the empty one points to. -/
theorem append_empty {w : World} (t ty e : TypeId) (i : TypeInfo) (size bytes : Nat) (ht : Try.prog.underlying t = some (.slice e)) (hi : Try.prog.info? e = some i) (_hsize : i.size = size) (hby : i.bytes = bytes) (g : Addr) (x : Option Addr) (m c : Nat) (hm : 0 < m) (hb : m * bytes ≤ 140737488355328) (hm2 : m ≤ 9223372036854775807) :
    (Builtin.append_ #[t, t] ty #[.slice (some g) 0 0, .slice x m c]).run Try.prog w = (Builtin.append_ #[t, t] ty #[.slice none 0 0, .slice x m c]).run Try.prog w := by
  subst hby
  have h1 : ¬ m = 0 := by omega
  have h3 : ¬ (9223372036854775807 < (m : Int)) := by omega
  have h2 : ¬ (281474976710656 < Builtin.nextslicecap m 0 * i.bytes) := by
    unfold Builtin.nextslicecap
    rw [if_pos (by omega)]
    omega
  simp [Builtin.append_, run_underlying ht, sizeOf, typeInfo, hi, Builtin.lenOf, Builtin.firstCells, h1, h2, h3, loadCells, loadCellsFrom]
/-- A row of its own, or an empty slice. -/
def OwE (w : World) (B : Nat) (e : TypeId) (v : Value) (xs : List Value) : Prop := w.ownsRow B e 1 v xs.length xs ∨ (xs = [] ∧ ∃ g, v = .slice (some g) 0 0)
theorem OwE.keep {w w1 : World} {B : Nat} {e : TypeId} {v : Value} {xs : List Value} {F : Nat → Prop} (h : OwE w B e v xs) (hk : Keeps F w w1) (hF : ∀ k, B ≤ k → k < w.heap.size → ¬ F k) : OwE w1 B e v xs := by
  rcases h with h | h
  · exact .inl (own_keep h hk (fun k h1 h2 _ => hF k h1 h2))
  · exact .inr h
theorem OwE.no {w w1 : World} {B : Nat} {e : TypeId} {v : Value} {xs : List Value} (h : OwE w B e v xs) (hk : Keeps noB w w1) : OwE w1 B e v xs := h.keep hk (fun _ _ _ => noB_not _)
/-- Cells that may be read. -/
def SlR (w : World) (v : Value) (xs : List Value) : Prop := ∃ a c, v = .slice a xs.length c ∧ (∀ ad, a = some ad → ∀ j u, xs[j]? = some u → w.cell? (ad.add j) = some u) ∧ (a = none → xs = []) ∧ ∀ u ∈ xs, u.oneCell' = true
theorem step_append0 {w : World} {ops : Array Oper} {o : Oper} {a : Act} {K : Act → World → Prop} {Q : Exit → Act → World → Prop} {E : Prop} (hg : o.guard = none) (s x : Operand) (t e : TypeId) (i1 : TypeInfo) (z : Value) (bytes : Nat) (ht : Try.prog.underlying t = some (.slice e)) (hi : Try.prog.info? e = some i1) (hz0 : i1.zero = some z) (hz1 : i1.size = 1) (hz2 : i1.bytes = bytes) (hzs : z.cells.size = 1)
    (ho : o.op = Op.call { callee := Callee.builtin Builtin.append, args := #[s, x], argTypes := #[t, t] }) (g : Addr) (hs : a.eval s = .slice (some g) 0 0) (vx : Value) (hx : a.eval x = vx) (news : List Value) (hr : SlR w vx news) (hm : news.length ≤ 1000) (hb : bytes ≤ 1000) (base : Nat) (hbase : base ≤ w.heap.size)
    (h : ∀ (v' : Value) (w' : World), OwE w' base e v' news → Keeps noB w w' → K (a.put o.dst v') w') : if Region.wanted o (yielded ops a.tmps) = true then Oper.wp Try.prog o a w K Q else E := by
  have hw : Region.wanted o (yielded ops a.tmps) = true := by simp [Region.wanted, hg]
  rw [if_pos hw]
  obtain ⟨xa, c, rfl, hnews, hnil, h1⟩ := hr
  by_cases h0 : news = []
  · subst h0
    have hrun : (Builtin.append_ #[t, t] o.type #[.slice (some g) 0 0, .slice xa 0 c]).run Try.prog w = .ok (.slice (some g) 0 0) w := by
      cases xa with
      | none => simp [Builtin.append_, run_underlying ht, sizeOf, typeInfo, hi, Builtin.lenOf, Builtin.firstCells, storeCells]
      | some ad => simp [Builtin.append_, run_underlying ht, sizeOf, typeInfo, hi, Builtin.lenOf, Builtin.firstCells, storeCells, loadCells, loadCellsFrom]
    have h' := h _ w (.inr ⟨rfl, g, rfl⟩) (Keeps.refl _ _)
    unfold Oper.wp execOp
    simp only [List.length_nil] at hx
    simp only [ho, resolve, invoke, builtin, Sem.run_bind, Sem.run_pure, Result.andThen_ok, List.map_toArray, List.map_cons, List.map_nil, hs, hx, hrun]
    exact h'
  · cases xa with
    | none => exact absurd (hnil rfl) h0
    | some ad =>
      have hpos : 0 < news.length := List.length_pos_iff.2 h0
      have hbb : news.length * bytes ≤ 1000 * 1000 := Nat.mul_le_mul hm hb
      obtain ⟨v', w', hr, h2, h3, _⟩ := run_append_own (P := Try.prog) w base t o.type e i1 z 1 bytes ht hi hz0 hz1 hz2 hzs (by decide) (.slice none 0 0) 0 [] (World.ownsRow_nil _ _ _ _) ad news.length c news (by omega) (hnews ad rfl) h1 (by unfold maxLen; omega) (by rw [Nat.zero_add]; omega) hbase
      rw [← append_empty t o.type e i1 1 bytes ht hi hz1 hz2 g (some ad) news.length c hpos (by omega) (by omega)] at hr
      have h' := h v' w' (.inl (by simpa using h2)) ((Keeps.refl noB w).grown h3 (fun k hk => by simp [Value.ownBlock] at hk))
      unfold Oper.wp execOp
      simp only [ho, resolve, invoke, builtin, Sem.run_bind, Sem.run_pure, Result.andThen_ok, List.map_toArray, List.map_cons, List.map_nil, hs, hx, hr]
      exact h'
theorem RowR.slr {w : World} {D : Nat → Prop} {v : Value} {n : Nat} {T : Nat → List Int} (h : RowR w D v n T) : ∃ xs : List Value, xs.length = n ∧ SlR w v xs ∧ ∀ i, i < n → ∃ a c, xs[i]? = some (.slice a (T i).length c) ∧ ByR w D a (T i) ∧ (T i).length ≤ maxLen := by
  obtain ⟨a, c, rfl, h⟩ := h
  obtain ⟨f, hf⟩ := choose_lt (α := Value) (p := fun i u => ∃ g off, a = some ⟨g, off, none⟩ ∧ ∃ a' c', u = .slice a' (T i).length c' ∧ w.cell? ⟨g, off + i, none⟩ = some u ∧ ByR w D a' (T i) ∧ (T i).length ≤ maxLen) (n := n) (fun i hi => by
    obtain ⟨g, off, ha, _, _, a', c', h1, h2, h3⟩ := h i hi
    exact ⟨_, g, off, ha, a', c', rfl, h1, h3, h2⟩)
  refine ⟨(List.range n).map f, by simp, ⟨a, c, by simp, fun ad had j u hj => ?_, fun hn => ?_, fun u hu => ?_⟩, fun i hi => ?_⟩
  · rw [List.getElem?_map] at hj
    by_cases hjl : j < n
    · rw [List.getElem?_range hjl] at hj
      simp at hj
      subst hj
      obtain ⟨g, off, ha, a', c', _, h1, _⟩ := hf j hjl
      rw [ha] at had
      simp at had
      subst had
      rw [show (⟨g, off, none⟩ : Addr).add j = ⟨g, off + j, none⟩ by unfold Addr.add; split <;> simp_all]
      exact h1
    · rw [List.getElem?_eq_none (by simp; omega)] at hj
      simp at hj
  · match n, hf with
    | 0, _ => rfl
    | n + 1, hf => obtain ⟨g, off, ha, _⟩ := hf 0 (by omega); rw [hn] at ha; cases ha
  · obtain ⟨i, hi, rfl⟩ := List.mem_map.1 hu
    obtain ⟨g, off, ha, a', c', h0, _⟩ := hf i (by simpa using hi)
    rw [h0]; rfl
  · obtain ⟨g, off, ha, a', c', h0, _, h2, h3⟩ := hf i hi
    exact ⟨a', c', by rw [List.getElem?_map, List.getElem?_range hi]; simp [h0], h2, h3⟩
/-- Bools that may be read. -/
def BlR (w : World) (D : Nat → Prop) (v : Value) (n : Nat) (lo : Nat → Bool) : Prop :=
  ∃ a c, v = .slice a n c ∧ ∀ i, i < n → ∃ g off, a = some ⟨g, off, none⟩ ∧ g < w.heap.size ∧ D g ∧ w.cell? ⟨g, off + i, none⟩ = some (.bool (lo i))
theorem BlR.keep {w w1 : World} {D : Nat → Prop} {v : Value} {n : Nat} {lo : Nat → Bool} {F : Nat → Prop} (h : BlR w D v n lo) (hk : Keeps F w w1) (hF : ∀ b, b < w.heap.size → D b → ¬ F b) : BlR w1 D v n lo := by
  obtain ⟨a, c, rfl, h⟩ := h
  refine ⟨a, c, rfl, fun i hi => ?_⟩
  obtain ⟨g, off, ha, hg, hD, h1⟩ := h i hi
  exact ⟨g, off, ha, Nat.lt_of_lt_of_le hg hk.size, hD, (kcell hk _ hg (hF g hg hD)).trans h1⟩
theorem BlR.slice {w : World} {D : Nat → Prop} {v : Value} {n : Nat} {lo : Nat → Bool} (h : BlR w D v n lo) : ∃ a c, v = .slice a n c := by
  obtain ⟨a, c, h, _⟩ := h; exact ⟨a, c, h⟩
def blist (n : Nat) (lo : Nat → Bool) : List Value := (List.range n).map fun i => .bool (lo i)
theorem blist_at {n : Nat} {lo : Nat → Bool} {i : Nat} (h : i < n) : (blist n lo)[i]? = some (.bool (lo i)) := by
  unfold blist; rw [List.getElem?_map, List.getElem?_range h]; rfl
theorem BlR.slr {w : World} {D : Nat → Prop} {v : Value} {n : Nat} {lo : Nat → Bool} (h : BlR w D v n lo) : SlR w v (blist n lo) := by
  obtain ⟨a, c, rfl, h⟩ := h
  refine ⟨a, c, by simp [blist], fun ad had j u hj => ?_, fun hn => ?_, fun u hu => ?_⟩
  · by_cases hjl : j < n
    · rw [blist_at hjl] at hj
      simp at hj
      subst hj
      obtain ⟨g, off, ha, _, _, h1⟩ := h j hjl
      rw [ha] at had
      simp at had
      subst had
      rw [show (⟨g, off, none⟩ : Addr).add j = ⟨g, off + j, none⟩ by unfold Addr.add; split <;> simp_all]
      exact h1
    · rw [List.getElem?_eq_none (by simp [blist]; omega)] at hj
      simp at hj
  · match n, h with
    | 0, _ => rfl
    | n + 1, h => obtain ⟨g, off, ha, _⟩ := h 0 (by omega); rw [hn] at ha; cases ha
  · obtain ⟨i, hi, rfl⟩ := List.mem_map.1 hu
    rfl
theorem SlR.no {w w1 : World} {v : Value} {xs : List Value} (h : SlR w v xs) (hk : Keeps noB w w1) : SlR w1 v xs := by
  obtain ⟨a, c, rfl, h1, h2, h3⟩ := h
  refine ⟨a, c, rfl, fun ad had j u hj => ?_, h2, h3⟩
  have := h1 ad had j u hj
  obtain ⟨cs, t, fr, hb⟩ : ∃ cs t fr, w.heap[(ad.add j).block]? = some (.cells cs t fr) := by
    unfold World.cell? at this
    split at this
    · exact ⟨_, _, _, by assumption⟩
    · simp at this
  rw [← this]
  unfold World.cell?
  rw [hk.block _ (lt_of_blk hb) (noB_not _)]
end Go.Proofs.Yteoafecdlnaecaa
