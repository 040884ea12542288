/- Words for walks over a heap: what a call keeps, what it returns. No condition. -/
import Derived.Test.YtlpimkmkcfbddaaProg
import Derived.WalkKit
import Derived.WalkSpells
import Derived.WalkLawsBesides
import Derived.Deep.QuietTactic
import Derived.Deep.WholeRow
import Derived.Deep.MidRow
import Derived.BigQuiet
import Derived.BigRegion
import Derived.BigGuardPart
import Derived.Lib.Hide
import Derived.Deep.RegionWith
import Derived.Deep.DeepCutAuto
import Derived.Deep.CutBlock
namespace Go.Proofs.Ytlpimkmkcfbddaa
open Go.RowKit

/-- The call returns v and leaves the world as it was. -/
def Ret (v : Value) (w : World) (e : Ending) (w' : World) : Prop := e = .returned v ∧ w = w'

theorem ret_b {a b : Bool} {w : World} (h : a = b) : Ret (.bool b) w (.returned (.bool a)) w := ⟨by rw [h], rfl⟩
theorem ret_i {a b : Int} {w : World} (h : a = b) : Ret (.int .i64 b) w (.returned (.int .i64 a)) w := ⟨by rw [h], rfl⟩

/-- All blocks that are there stay as they are but for those in F. -/
structure Keeps (F : Nat → Prop) (w w' : World) : Prop where
  os : w'.os = w.os
  tape : w'.tape = w.tape
  output : w'.output = w.output
  size : w.heap.size ≤ w'.heap.size
  block : ∀ b, b < w.heap.size → ¬ F b → w'.heap[b]? = w.heap[b]?

/-- No block. -/
def noB : Nat → Prop := fun _ => False
/-- One block. -/
def oneB (b : Nat) : Nat → Prop := fun x => x = b

theorem noB_not (b : Nat) : ¬ noB b := fun h => h

theorem alloc_old (w : World) (o : Obj) (i : Nat) (h : i < w.heap.size) : (w.alloc o).heap[i]? = w.heap[i]? := by
  show (w.heap.push o)[i]? = w.heap[i]?
  rw [Array.getElem?_push, if_neg (Nat.ne_of_lt h)]
theorem alloc_size (w : World) (o : Obj) : (w.alloc o).heap.size = w.heap.size + 1 := by
  show (w.heap.push o).size = _
  simp
theorem heap_setCell_ne (w : World) (a : Addr) (v : Value) (b : Nat) (h : b ≠ a.block) : (w.setCell a v).heap[b]? = w.heap[b]? := by
  unfold World.setCell
  simp only [Array.getElem?_modify]
  rw [if_neg (fun e => h e.symm)]
theorem setCell_size (w : World) (a : Addr) (v : Value) : (w.setCell a v).heap.size = w.heap.size := by
  simp [World.setCell]
theorem heap_setCell_same (w : World) (b i : Nat) (v : Value) {cs : Array Value} {t : TypeId} {fr : Nat × Nat} (h : w.heap[b]? = some (.cells cs t fr)) :
    (w.setCell ⟨b, i, none⟩ v).heap[b]? = some (.cells (cs.setIfInBounds i v) t fr) := by
  unfold World.setCell
  simp only [Array.getElem?_modify, h]
  simp

theorem Keeps.refl (F : Nat → Prop) (w : World) : Keeps F w w := ⟨rfl, rfl, rfl, Nat.le_refl _, fun _ _ _ => rfl⟩
theorem Keeps.drew {F : Nat → Prop} {w w1 : World} (h : Keeps F w w1) : Keeps F w w1.drew := ⟨h.os, h.tape, h.output, h.size, h.block⟩
theorem Keeps.drewN {F : Nat → Prop} {w w1 : World} (h : Keeps F w w1) (n : Nat) : Keeps F w (w1.drewN n) := ⟨h.os, h.tape, h.output, h.size, h.block⟩
theorem Keeps.alloc {F : Nat → Prop} {w w1 : World} (h : Keeps F w w1) (o : Obj) : Keeps F w (w1.alloc o) :=
  ⟨h.os, h.tape, h.output, by rw [alloc_size]; have := h.size; omega, fun b hb hF => by rw [alloc_old _ _ _ (by have := h.size; omega)]; exact h.block b hb hF⟩
theorem Keeps.setCell {F : Nat → Prop} {w w1 : World} (h : Keeps F w w1) (a : Addr) (v : Value) (ha : F a.block ∨ w.heap.size ≤ a.block) : Keeps F w (w1.setCell a v) :=
  ⟨h.os, h.tape, h.output, by rw [setCell_size]; exact h.size, fun b hb hF => by
    rw [heap_setCell_ne _ _ _ _ (fun e => by subst e; rcases ha with ha | ha; exact hF ha; omega)]; exact h.block b hb hF⟩
theorem Keeps.set1 {b : Nat} {w w1 : World} (h : Keeps (oneB b) w w1) (i : Nat) (v : Value) : Keeps (oneB b) w (w1.setCell ⟨b, i, none⟩ v) := h.setCell _ _ (.inl rfl)
theorem Keeps.trans {F G : Nat → Prop} {w w1 w2 : World} (h : Keeps F w w1) (k : Keeps G w1 w2) (hg : ∀ b, b < w.heap.size → G b → F b) : Keeps F w w2 :=
  ⟨k.os.trans h.os, k.tape.trans h.tape, k.output.trans h.output, Nat.le_trans h.size k.size, fun b hb hF => (k.block b (Nat.lt_of_lt_of_le hb h.size) (fun hG => hF (hg b hb hG))).trans (h.block b hb hF)⟩
theorem Keeps.trans_no {F : Nat → Prop} {w w1 w2 : World} (h : Keeps F w w1) (k : Keeps noB w1 w2) : Keeps F w w2 := h.trans k (fun _ _ hb => hb.elim)
theorem Keeps.mono {F G : Nat → Prop} {w w1 : World} (h : Keeps F w w1) (hg : ∀ b, b < w.heap.size → F b → G b) : Keeps G w w1 := (Keeps.refl G w).trans h hg
theorem Keeps.of_no {F : Nat → Prop} {w w1 : World} (h : Keeps noB w w1) : Keeps F w w1 := h.mono fun _ _ hb => hb.elim
theorem lt_of_blk {w : World} {b : Nat} {o : Obj} (hb : w.heap[b]? = some o) : b < w.heap.size := (Array.getElem?_eq_some_iff.1 hb).1
theorem Keeps.blk {F : Nat → Prop} {w w1 : World} (h : Keeps F w w1) {b : Nat} {o : Obj} (hb : w.heap[b]? = some o) (hF : ¬ F b) : w1.heap[b]? = some o :=
  (h.block b (lt_of_blk hb) hF).trans hb
theorem Keeps.below {F : Nat → Prop} {w w1 : World} (h : Keeps F w w1) {B : Nat} (hs : B ≤ w.heap.size) (hB : ∀ b, b < w.heap.size → F b → B ≤ b) : Below B w w1 :=
  ⟨h.os, h.tape, h.output, h.size, fun b hb => h.block b (by omega) (fun hF => by have := hB b (by omega) hF; omega)⟩
theorem Keeps.of_below {w w1 : World} {B : Nat} (h : Below B w w1) : Keeps (fun b => B ≤ b) w w1 :=
  ⟨h.os, h.tape, h.output, h.size, fun b _ hF => h.block b (by omega)⟩
theorem Keeps.grown {F : Nat → Prop} {w w1 w2 : World} {row : Option Nat} (h : Keeps F w w1) (hg : w1.grownBy w2 row) (hr : ∀ k, row = some k → w.heap.size ≤ k ∨ F k) : Keeps F w w2 :=
  ⟨hg.os.trans h.os, hg.tape.trans h.tape, hg.output.trans h.output, Nat.le_trans h.size hg.size, fun b hb hF => (hg.block b (Nat.lt_of_lt_of_le hb h.size) (fun e => by
    rcases hr b e.symm with hk | hk
    · omega
    · exact hF hk)).trans (h.block b hb hF)⟩

theorem blk_cell {w : World} {b : Nat} {cs : Array Value} {t : TypeId} {fr : Nat × Nat} (hb : w.heap[b]? = some (.cells cs t fr)) {i : Nat} {v : Value} (h : cs[i]? = some v) : w.cell? ⟨b, i, none⟩ = some v :=
  (cell_of_row w b i cs t fr hb).trans h
theorem blk_free {w : World} {b : Nat} {cs : Array Value} {t : TypeId} (hb : w.heap[b]? = some (.cells cs t (0, 0))) (i : Nat) : w.frozen? ⟨b, i, none⟩ = false := by simp [World.frozen?, hb]

/-- 'append(out, x)' of one element that lies in a block of its own. -/
theorem wpList_append1 {P : Program} {w : World} {ops : Array Oper} {rest : List Oper} {o : Oper} {a : Act} {Q : Exit → Act → World → Prop} (hg : o.guard = none) (s x : Operand) (t : TypeId)
    (ho : o.op = Op.call { callee := Callee.builtin Builtin.append, args := #[s, x], argTypes := #[t, t] }) (base : Nat) (e : TypeId) (i : TypeInfo) (z : Value) (size bytes : Nat)
    (ht : P.underlying t = some (TypeDesc.slice e)) (hi : P.info? e = some i) (hz0 : i.zero = some z) (hz1 : i.size = size) (hz2 : i.bytes = bytes) (hzs : z.cells.size = size) (hpos : 0 < size)
    (v : Value) (n : Nat) (xs : List Value) (hv : a.eval s = v) (hown : w.ownsRow base e size v n xs) (g : Nat) (c : Nat) (news : List Value) (e' : TypeId) (fr : Nat × Nat)
    (hx : a.eval x = Value.slice (some ⟨g, 0, none⟩) 1 c) (hu : w.heap[g]? = some (.cells news.toArray e' fr)) (hl : news.length = size) (hone : news.all (·.oneCell') = true)
    (hn : n < 1000000000) (hb : bytes ≤ 1000) (hbase : base ≤ w.heap.size)
    (h : ∀ (v' : Value) (w' : World), w'.ownsRow base e size v' (n + 1) (xs ++ news) → w.grownBy w' v.ownBlock → wpList P ops Q rest (a.put o.dst v') w') : wpList P ops Q (o :: rest) a w := by
  refine wpList_append_own w hg s x t ho base e i z size bytes ht hi hz0 hz1 hz2 hzs hpos v n xs hv hown ⟨g, 0, none⟩ 1 c news hx (by omega) ?_ ?_ ?_ ?_ hbase (fun v' w' h1 h2 _ => h v' w' h1 h2)
  · intro j u hj
    have hadd : (⟨g, 0, none⟩ : Addr).add j = ⟨g, j, none⟩ := by unfold Addr.add; split <;> simp_all
    rw [hadd]
    exact blk_cell hu (by simpa using hj)
  · intro u hu'
    exact List.all_eq_true.1 hone u hu'
  · unfold maxLen; omega
  · have : (n + 1) * bytes ≤ 1000000000 * 1000 := Nat.mul_le_mul (by omega) hb
    omega
theorem own_keep {w w1 : World} {base e size n : Nat} {v : Value} {xs : List Value} {F : Nat → Prop} (h : w.ownsRow base e size v n xs) (hk : Keeps F w w1) (hF : ∀ k, base ≤ k → k < w.heap.size → v.ownBlock = some k → ¬ F k) : w1.ownsRow base e size v n xs := by
  obtain ⟨hl, h⟩ := h
  refine ⟨hl, ?_⟩
  rcases h with h | ⟨g, cap, cur, rfl, hb, hg, hr⟩
  · exact .inl h
  · exact .inr ⟨g, cap, cur, rfl, hb, hk.blk hg (hF g hb (lt_of_blk hg) rfl), hr⟩
theorem own_keep_no {w w1 : World} {base e size n : Nat} {v : Value} {xs : List Value} (h : w.ownsRow base e size v n xs) (hk : Keeps noB w w1) : w1.ownsRow base e size v n xs :=
  own_keep h hk (fun k _ _ _ => noB_not k)
theorem Keeps.own {F : Nat → Prop} {w w1 w2 : World} {base e size n : Nat} {v : Value} {xs : List Value} (h : Keeps F w w1) (ho : w1.ownsRow base e size v n xs) (hb : w.heap.size ≤ base) (hg : w1.grownBy w2 v.ownBlock) : Keeps F w w2 :=
  h.grown hg (fun k hk => .inl (by have := (ho.lt k hk).1; omega))

/-- The call returns v and keeps all but F. -/
def RetK (F : Nat → Prop) (v : Value) (w : World) (e : Ending) (w' : World) : Prop := e = .returned v ∧ Keeps F w w'


theorem wp_alloc0 {P : Program} {o : Oper} {a : Act} {w : World} {K : Act → World → Prop} {Q : Exit → Act → World → Prop} (t : TypeId) (ho : o.op = .alloc t) (z : Value) (hz : ∀ w, (zeroValue t).run P w = .ok z w)
    (h : K (a.put o.dst (.pointer (some ⟨w.heap.size, 0, none⟩))) (w.alloc (.cells z.cells t))) : o.wp P a w K Q := by
  unfold Oper.wp execOp
  simp only [ho, Instr.alloc, Sem.run_bind, hz, Result.andThen_ok, newVar, newRow]
  exact h

/-- 'x := [n]T{}': the zero array built, a variable made, the one stored in the other. -/
theorem wpList_var0 {P : Program} {ops : Array Oper} {rest : List Oper} {o1 o2 o3 : Oper} {a : Act} {w : World} {Q : Exit → Act → World → Prop} (t : TypeId) (d1 d2 : Tmp) (z : Array Value)
    (g1 : o1.guard = none) (g2 : o2.guard = none) (g3 : o3.guard = none) (h1 : o1.op = .build t #[]) (h2 : o2.op = .alloc t) (h3 : o3.op = .store t (.tmp d2) (.tmp d1)) (e1 : o1.dst = some d1) (e2 : o2.dst = some d2) (e3 : o3.dst = none)
    (hb : P.built t [] = some z) (hz : (P.info? t).map (fun i => (i.zero, i.size)) = some (some (.agg z), z.size)) (hone : z.all (·.oneCell') = true) (hn : d1 ≠ d2) (hd1 : d1 < a.tmps.size) (hd2 : d2 < a.tmps.size)
    (h : wpList P ops Q rest ((a.put (some d1) (.agg z)).put (some d2) (.pointer (some ⟨w.heap.size, 0, none⟩))) (w.alloc (.cells z t))) : wpList P ops Q (o1 :: o2 :: o3 :: rest) a w := by
  obtain ⟨hz1, hz2⟩ := zero_of_info hz
  refine wpList_build g1 t #[] h1 (by simp [hb]) ?_
  simp only [List.map_toArray, List.map_nil, hb, Option.getD_some, e1]
  refine wpList_plain g2 fun K hK => wp_alloc0 t h2 (.agg z) hz1 ?_
  refine hK _ _ ?_
  rw [e2]
  refine wpList_store_row g3 t _ _ h3 w.heap.size z ?_ ?_ t z (heap_alloc_new w _) hz2 rfl hone ?_
  · simp [Act.eval, Act.put, hd2]
  · simp [Act.eval, Act.put, hd1, Ne.symm hn]
  · rw [e3, World.setRow_alloc_new]
    exact h
end Go.Proofs.Ytlpimkmkcfbddaa
