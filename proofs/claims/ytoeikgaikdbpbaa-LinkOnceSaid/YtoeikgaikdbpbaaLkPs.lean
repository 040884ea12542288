/- All packets of a link. No condition. -/
import Derived.Test.YtoeikgaikdbpbaaLkP
namespace Go.Proofs.Ytoeikgaikdbpbaa
open Go.RowKit

/-- What all packets of a link have. -/
structure Hd where
  c : Int
  e : Int
  b : Int
  k : Int
  v : Bool
def pk7 (h : Hd) (s : Int) (a : Option Addr) (n m : Nat) : Array Value := pcells h.c h.e h.b s h.k h.v (.slice a n m)
/-- A slice of packets in a block of its own. -/
def PkO (w : World) (B : Nat) (v : Value) (h : Hd) (ps : List (Int × List Int)) : Prop :=
  ∃ xs : List Value, w.ownsRow B 24 7 v ps.length xs ∧ ∀ i (hi : i < ps.length), ∃ a c, (∀ j, j < 7 → xs[i * 7 + j]? = (pk7 h ps[i].1 a ps[i].2.length c)[j]?) ∧ ByO w B a c ps[i].2
/-- A slice of packets that may be read. -/
def PkR (w : World) (D : Nat → Prop) (v : Value) (h : Hd) (ps : List (Int × List Int)) : Prop :=
  ∃ a c, v = .slice a ps.length c ∧ ∀ i (hi : i < ps.length), ∃ g off, a = some ⟨g, off, none⟩ ∧ g < w.heap.size ∧ D g ∧ ∃ a' c', (∀ j, j < 7 → w.cell? ⟨g, off + (i * 7 + j), none⟩ = (pk7 h ps[i].1 a' ps[i].2.length c')[j]?) ∧ ByR w D a' ps[i].2
theorem PkO.row {w : World} {B : Nat} {v : Value} {h : Hd} {ps : List (Int × List Int)} (hp : PkO w B v h ps) : PkR w (fun x => B ≤ x) v h ps := by
  obtain ⟨xs, ⟨hl, ho⟩, hx⟩ := hp
  rcases ho with ⟨rfl, h0⟩ | ⟨g, cap, cur, rfl, hb, hg, _, _, _, ht⟩
  · exact ⟨none, 0, by rw [h0], fun i hi => by omega⟩
  · refine ⟨_, cap, rfl, fun i hi => ?_⟩
    obtain ⟨a, c, h1, h2⟩ := hx i hi
    refine ⟨g, 0, rfl, lt_of_blk hg, hb, a, c, fun j hj => ?_, h2.byr⟩
    rw [Nat.zero_add, cell_of_row w g _ cur 24 (0, 0) hg, ← h1 j hj, ← ht, List.getElem?_take, if_pos (by omega), Array.getElem?_toList]
theorem PkR.keep {w w1 : World} {D : Nat → Prop} {v : Value} {h : Hd} {ps : List (Int × List Int)} {F : Nat → Prop} (hp : PkR w D v h ps) (hk : Keeps F w w1) (hF : ∀ b, b < w.heap.size → D b → ¬ F b) : PkR w1 D v h ps := by
  obtain ⟨a, c, rfl, hx⟩ := hp
  refine ⟨a, c, rfl, fun i hi => ?_⟩
  obtain ⟨g, off, ha, hg, hD, a', c', h1, h3⟩ := hx i hi
  refine ⟨g, off, ha, Nat.lt_of_lt_of_le hg hk.size, hD, a', c', fun j hj => (kcell hk _ hg (hF g hg hD)).trans (h1 j hj), ?_⟩
  intro k hkl
  obtain ⟨b, o, e1, e2, e3, e4⟩ := h3 k hkl
  exact ⟨b, o, e1, e2, Nat.lt_of_lt_of_le e3 hk.size, (kcell hk _ e3 (hF b e3 e2)).trans e4⟩
theorem PkR.no {w w1 : World} {D : Nat → Prop} {v : Value} {h : Hd} {ps : List (Int × List Int)} (hp : PkR w D v h ps) (hk : Keeps noB w w1) : PkR w1 D v h ps := hp.keep hk (fun b _ _ => noB_not b)
theorem PkR.slice {w : World} {D : Nat → Prop} {v : Value} {h : Hd} {ps : List (Int × List Int)} (hp : PkR w D v h ps) : ∃ a c, v = .slice a ps.length c := by
  obtain ⟨a, c, h, _⟩ := hp
  exact ⟨a, c, h⟩
theorem PkR.at_ {w : World} {D : Nat → Prop} {a : Option Addr} {n c : Nat} {h : Hd} {ps : List (Int × List Int)} (hp : PkR w D (.slice a n c) h ps) {i : Nat} (hi : i < ps.length) :
    ∃ g off, a = some ⟨g, off, none⟩ ∧ g < w.heap.size ∧ D g ∧ ∃ a' c', w.cell? ⟨g, off + i * 7, none⟩ = some (.int .i64 h.c) ∧ w.cell? ⟨g, off + i * 7 + 1, none⟩ = some (.int .i64 h.e) ∧ w.cell? ⟨g, off + i * 7 + 2, none⟩ = some (.int .i64 h.b) ∧
      w.cell? ⟨g, off + i * 7 + 3, none⟩ = some (.int .i64 ps[i].1) ∧ w.cell? ⟨g, off + i * 7 + 4, none⟩ = some (.int .i64 h.k) ∧ w.cell? ⟨g, off + i * 7 + 5, none⟩ = some (.bool h.v) ∧ w.cell? ⟨g, off + i * 7 + 6, none⟩ = some (.slice a' ps[i].2.length c') ∧ ByR w D a' ps[i].2 := by
  obtain ⟨a1, c1, e, hx⟩ := hp
  simp at e
  obtain ⟨rfl, _, rfl⟩ := e
  obtain ⟨g, off, ha, hg, hD, a', c', h1, h3⟩ := hx i hi
  have hh : ∀ j (_ : j < 7), w.cell? ⟨g, off + i * 7 + j, none⟩ = (pk7 h ps[i].1 a' ps[i].2.length c')[j]? := fun j hj => by rw [Nat.add_assoc]; exact h1 j hj
  exact ⟨g, off, ha, hg, hD, a', c', hh 0 (by omega), hh 1 (by omega), hh 2 (by omega), hh 3 (by omega), hh 4 (by omega), hh 5 (by omega), hh 6 (by omega), h3⟩

theorem info24 : (Try.prog.info? 24).map (fun i => (i.zero, i.size, i.bytes)) = some (some (.agg #[.int .i64 0, .int .i64 0, .int .i64 0, .int .i64 0, .int .i64 0, .bool false, .slice none 0 0]), 7, 72) := by kernel_rfl
theorem ByO.grown24 {w w1 : World} {B c : Nat} {a : Option Addr} {l : List Int} (h : ByO w B a c l) {v : Value} {n : Nat} {xs : List Value} {B' : Nat} (ho : w.ownsRow B' 24 7 v n xs) (hg : w.grownBy w1 v.ownBlock) : ByO w1 B a c l := by
  rcases h with h | ⟨g, cs, rfl, hB, hb, h⟩
  · exact .inl h
  · refine .inr ⟨g, cs, rfl, hB, (hg.block g (lt_of_blk hb) ?_).trans hb, h⟩
    intro e
    obtain ⟨_, ho⟩ := ho
    rcases ho with ⟨rfl, _⟩ | ⟨g', cap, cur, rfl, _, hg', _⟩
    · simp [Value.ownBlock] at e
    · simp [Value.ownBlock] at e
      subst e
      rw [hb] at hg'
      simp at hg'
theorem PkO.no {w w1 : World} {B : Nat} {v : Value} {h : Hd} {ps : List (Int × List Int)} (hp : PkO w B v h ps) (hk : Keeps noB w w1) : PkO w1 B v h ps := by
  obtain ⟨xs, ho, hx⟩ := hp
  refine ⟨xs, own_keep_no ho hk, fun i hi => ?_⟩
  obtain ⟨a, c, h1, h2⟩ := hx i hi
  exact ⟨a, c, h1, h2.keep hk (fun b _ _ => noB_not b)⟩
theorem PkO.slice {w : World} {B : Nat} {v : Value} {h : Hd} {ps : List (Int × List Int)} (hp : PkO w B v h ps) : ∃ a c, v = .slice a ps.length c := hp.row.slice
/-- 'append(out, p)'. -/
theorem wpList_append_pk {w : World} {ops : Array Oper} {rest : List Oper} {o : Oper} {a : Act} {Q : Exit → Act → World → Prop} (hg : o.guard = none) (s x : Operand)
    (ho : o.op = Op.call { callee := Callee.builtin Builtin.append, args := #[s, x], argTypes := #[32, 32] }) (B : Nat) (v : Value) (hd : Hd) (ps : List (Int × List Int)) (n : Nat) (hn : n = ps.length) (hv : a.eval s = v) (hp : PkO w B v hd ps)
    (gn cn : Nat) (sq : Int) (ab : Option Addr) (l : List Int) (cb : Nat) (fr : Nat × Nat) (hx : a.eval x = Value.slice (some ⟨gn, 0, none⟩) 1 cn) (hu : w.heap[gn]? = some (.cells (pk7 hd sq ab l.length cb) 24 fr)) (hO : ByO w B ab cb l) (hB : B ≤ w.heap.size) (hlen : ps.length ≤ 1000000)
    (h : ∀ (v' : Value) (w' : World), PkO w' B v' hd (ps ++ [(sq, l)]) → w.grownBy w' v.ownBlock → (∀ k, v.ownBlock = some k → B ≤ k) → wpList Try.prog ops Q rest (a.put o.dst v') w') : wpList Try.prog ops Q (o :: rest) a w := by
  obtain ⟨i1, hi, hz0, hz1, hz2⟩ := info_parts info24
  obtain ⟨xs, hown, hxs⟩ := hp
  refine wpList_append_own w hg s x 32 ho B 24 i1 _ 7 72 Try.underlying32 hi hz0 hz1 hz2 rfl (by decide) v ps.length xs hv hown ⟨gn, 0, none⟩ 1 cn (pk7 hd sq ab l.length cb).toList hx rfl ?_ ?_ ?_ ?_ hB ?_
  · intro j u hj
    have hadd : (⟨gn, 0, none⟩ : Addr).add j = ⟨gn, j, none⟩ := by unfold Addr.add; split <;> simp_all
    rw [hadd]
    exact blk_cell hu (by rw [← Array.getElem?_toList]; exact hj)
  · intro u hu'
    simp [pk7, pcells] at hu'
    rcases hu' with rfl | rfl | rfl | rfl | rfl | rfl | rfl <;> rfl
  · unfold maxLen; omega
  · omega
  · intro v' w' h1 h2 _
    refine h v' w' ⟨xs ++ (pk7 hd sq ab l.length cb).toList, by simpa using h1, fun i hi => ?_⟩ h2 (fun k hk => (hown.lt k hk).1)
    have hlx := hown.1
    by_cases e : i < ps.length
    · obtain ⟨a1, c1, g1, g2⟩ := hxs i e
      refine ⟨a1, c1, fun j hj => ?_, ?_⟩
      · rw [List.getElem?_append_left (by omega), List.getElem_append_left e]; exact g1 j hj
      · rw [List.getElem_append_left e]; exact g2.grown24 hown h2
    · have : i = ps.length := by simp at hi; omega
      subst this
      refine ⟨ab, cb, fun j hj => ?_, ?_⟩
      · rw [List.getElem?_append_right (by omega), hlx]
        simp [show ps.length * 7 + j - ps.length * 7 = j by omega]
      · simpa using hO.grown24 hown h2
def Lk.hd (k : Lk) : Hd := ⟨k.c, k.e, k.b, k.heard, k.v⟩
def Lk.pks (k : Lk) : List (Int × List Int) := if k.L = [] then [(0, [])] else k.L.map fun t => (t.s, t.l)
end Go.Proofs.Ytoeikgaikdbpbaa
