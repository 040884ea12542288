/- Appends of edges, and a row of four marks. No condition. -/
import Derived.Test.YtlpimkmkcfbddaaLawWaitsEnds
import Derived.Laws.AppendOwnNone
namespace Go.Proofs.Ytlpimkmkcfbddaa
open Go.RowKit

theorem EdR.nil {w : World} {B : Nat} {l : List (Int × Int)} (h : EdR w B none l) : l = [] := by
  match l, h with
  | [], _ => rfl
  | e :: t, h => obtain ⟨b, off, h, _⟩ := h 0 (by simp); cases h

theorem wpList_append_ed {w : World} {ops : Array Oper} {rest : List Oper} {o : Oper} {a : Act} {Q : Exit → Act → World → Prop} (hg : o.guard = none) (s x : Operand)
    (ho : o.op = Op.call { callee := Callee.builtin Builtin.append, args := #[s, x], argTypes := #[62, 62] }) (base : Nat) (v : Value) (n : Nat) (xs : List Value) (hv : a.eval s = v) (hown : w.ownsRow base 61 2 v n xs)
    (b : Option Addr) (m : List (Int × Int)) (c B : Nat) (hx : a.eval x = Value.slice b m.length c) (he : EdR w B b m) (hn : n + m.length ≤ 100000) (hbase : base ≤ w.heap.size)
    (h : ∀ (v' : Value) (w' : World), w'.ownsRow base 61 2 v' (n + m.length) (xs ++ ecells m) → w.grownBy w' v.ownBlock → (v ≠ .slice none 0 0 → v' ≠ .slice none 0 0) → wpList Try.prog ops Q rest (a.put o.dst v') w') : wpList Try.prog ops Q (o :: rest) a w := by
  obtain ⟨i1, hi, hz0, hz1, hz2⟩ := info_parts info61
  cases b with
  | none =>
    have := he.nil
    subst this
    refine wpList_plain hg fun K hK => ?_
    have hrun : (Builtin.append_ #[62, 62] o.type #[v, .slice none 0 c]).run Try.prog w = .ok v w := by
      rcases hown.2 with ⟨rfl, rfl⟩ | ⟨g, cap, cur, rfl, _, _, hnc, _⟩
      · simp [Builtin.append_, run_underlying Try.underlying62, sizeOf, typeInfo, hi, Builtin.lenOf, Builtin.firstCells]
      · simp [Builtin.append_, run_underlying Try.underlying62, sizeOf, typeInfo, hi, Builtin.lenOf, Builtin.firstCells, hnc, storeCells]
    simp only [List.length_nil] at hx
    have h' := h v w (by simpa [ecells] using hown) ⟨rfl, rfl, rfl, Nat.le_refl _, fun _ _ _ => rfl⟩ id
    unfold Oper.wp
    simp [execOp, ho, resolve, invoke, builtin, hv, hx, hrun, Result.andThen]
    exact hK _ _ h'
  | some ad =>
    refine wpList_append_own _ hg s x 62 ho base 61 i1 (.agg #[.int .i64 0, .int .i64 0]) 2 16 Try.underlying62 hi hz0 hz1 hz2 rfl (by decide) v n xs hv hown ad m.length c (ecells m) hx (ecells_len m) he.news (ecells_one m) ?_ ?_ hbase ?_
    · unfold maxLen; omega
    · omega
    · intro v' w' h1 h2 h3
      exact h v' w' h1 h2 (fun hne he => hne (h3.1 he).1)

/-- An empty literal slice of edges. -/
theorem own_lit0 (w : World) : (w.alloc (.cells #[] 61)).ownsRow w.heap.size 61 2 (.slice (some ⟨w.heap.size, 0, none⟩) 0 0) 0 [] :=
  ⟨rfl, .inr ⟨w.heap.size, 0, #[], rfl, Nat.le_refl _, heap_alloc_new _ _, Nat.le_refl _, Nat.zero_le _, rfl, rfl⟩⟩

/-- Four marks in memory. -/
def MarkAt (w : World) (b : Nat) (s : Nat → Bool) : Prop := w.heap[b]? = some (.cells (scells s) 42 (0, 0))
theorem MarkAt.set {w : World} {b : Nat} {s : Nat → Bool} (h : MarkAt w b s) {y : Nat} (hy : y < 4) : MarkAt (w.setCell ⟨b, y, none⟩ (.bool true)) b (upd s y) := by
  unfold MarkAt
  rw [← scells_set s hy]
  exact heap_setCell_same _ b y _ h
theorem getD_mem {L : List Int} {k : Nat} (h : k < L.length) : L.getD k 0 ∈ L := by
  rw [List.getD_eq_getElem?_getD, List.getElem?_eq_getElem h]
  exact List.getElem_mem h
theorem mem_getD {L : List Int} {z : Int} (h : z ∈ L) : ∃ k, k < L.length ∧ L.getD k 0 = z := by
  obtain ⟨k, hk, he⟩ := List.mem_iff_getElem.1 h
  exact ⟨k, hk, by rw [List.getD_eq_getElem?_getD, List.getElem?_eq_getElem hk]; exact he⟩
theorem reach_at {l : List (Int × Int)} {c : Int} {k : Nat} (h : k < (reachL l c).length) : ∃ y : Nat, (reachL l c).getD k 0 = y ∧ y < 4 ∧ Rch l c y := by
  obtain ⟨_, hr⟩ := (reachL_mem l c _).1 (getD_mem h)
  have := hr.le
  exact ⟨((reachL l c).getD k 0).toNat, by omega, by omega, by rw [Int.toNat_of_nonneg (by omega)]; exact hr⟩
end Go.Proofs.Ytlpimkmkcfbddaa
