/- A map from calls to bools: looked up, written. No condition. -/
import Derived.Test.YtlpimkmkcfbddaaBase
import Derived.WideKeyRuns
import Derived.Carry
namespace Go.Proofs.Ytlpimkmkcfbddaa
open Go.RowKit

theorem plain3 : Try.prog.plainKey 3 = true := by kernel_rfl
theorem plain4 : Try.prog.plainKey 4 = true := by kernel_rfl
theorem eqInt (w : World) (a b : Int) : (Op.equalIn 9999 3 (.int .i64 a) (.int .i64 b)).run Try.prog w = .ok (a == b) w := by
  show (Op.equalIn (9998 + 1) 3 _ _).run Try.prog w = _
  unfold Op.equalIn
  simp [run_underlying Try.underlying3]
theorem eqBool (w : World) (a b : Bool) : (Op.equalIn 9999 4 (.bool a) (.bool b)).run Try.prog w = .ok (a == b) w := by
  show (Op.equalIn (9998 + 1) 4 _ _).run Try.prog w = _
  unfold Op.equalIn
  simp [run_underlying Try.underlying4]
/-- A call: holder, page, object, write. -/
structure Kc where
  h : Int
  p : Int
  o : Int
  w : Bool
  deriving DecidableEq
def Kc.val (k : Kc) : Value := .agg #[.int .i64 k.h, .int .i64 k.p, .int .i64 k.o, .bool k.w]
theorem part_int {w : World} {xs : Array Value} {i : Nat} {v : Value} (h : xs[i]? = some v) : (part 3 xs i).run Try.prog w = .ok v w := run_part_plain w plain3 h
theorem part_bool {w : World} {xs : Array Value} {i : Nat} {v : Value} (h : xs[i]? = some v) : (part 4 xs i).run Try.prog w = .ok v w := run_part_plain w plain4 h
theorem eq140 (w : World) (a b : Kc) : (Op.equal 140 a.val b.val).run Try.prog w = .ok (decide (a = b)) w := by
  obtain ⟨a1, a2, a3, a4⟩ := a
  obtain ⟨b1, b2, b3, b4⟩ := b
  unfold Op.equal Op.maxDepth Kc.val
  show (Op.equalIn (9998 + 1 + 1) 140 _ _).run Try.prog w = _
  unfold Op.equalIn
  simp only [Kc.mk.injEq]
  have p0 : ∀ (w : World) (x y z : Int) (u : Bool), (part 3 #[Value.int IntKind.i64 x, Value.int IntKind.i64 y, Value.int IntKind.i64 z, Value.bool u] 0).run Try.prog w = .ok (.int .i64 x) w := fun w x y z u => part_int rfl
  have p1 : ∀ (w : World) (x y z : Int) (u : Bool), (part 3 #[Value.int IntKind.i64 x, Value.int IntKind.i64 y, Value.int IntKind.i64 z, Value.bool u] 1).run Try.prog w = .ok (.int .i64 y) w := fun w x y z u => part_int rfl
  have p2 : ∀ (w : World) (x y z : Int) (u : Bool), (part 3 #[Value.int IntKind.i64 x, Value.int IntKind.i64 y, Value.int IntKind.i64 z, Value.bool u] 2).run Try.prog w = .ok (.int .i64 z) w := fun w x y z u => part_int rfl
  have p3 : ∀ (w : World) (x y z : Int) (u : Bool), (part 4 #[Value.int IntKind.i64 x, Value.int IntKind.i64 y, Value.int IntKind.i64 z, Value.bool u] 3).run Try.prog w = .ok (.bool u) w := fun w x y z u => part_bool rfl
  by_cases h1 : a1 = b1
  · by_cases h2 : a2 = b2
    · by_cases h3 : a3 = b3
      · by_cases h4 : a4 = b4
        · simp [run_underlying Try.underlying140, p0, p1, p2, p3, eqInt, eqBool, h1, h2, h3, h4]
        · simp [run_underlying Try.underlying140, p0, p1, p2, p3, eqInt, eqBool, h1, h2, h3, h4]
      · simp [run_underlying Try.underlying140, p0, p1, p2, eqInt, h1, h2, h3]
    · simp [run_underlying Try.underlying140, p0, p1, eqInt, h1, h2]
  · simp [run_underlying Try.underlying140, p0, eqInt, h1]

/-- An entry's key and value are x. -/
def entIs (e : MapEntry) (x : Kc × Bool) : Prop := e.key = x.1.val ∧ e.val = .bool x.2
def EntsAre (es : List MapEntry) (l : List (Kc × Bool)) : Prop := es.length = l.length ∧ ∀ i (h : i < es.length) (h' : i < l.length), entIs es[i] l[i]
/-- The place of a key. -/
def kfind (k : Kc) : List (Kc × Bool) → Nat → Option (Nat × Bool)
  | [], _ => none
  | x :: r, i => if k = x.1 then some (i, x.2) else kfind k r (i + 1)
theorem findAsk (w : World) (k : Kc) : ∀ (es : List MapEntry) (l : List (Kc × Bool)) (i : Nat), EntsAre es l → (Instr.findAsking 140 k.val es i).run Try.prog w = .ok ((kfind k l i).map fun x => (x.1, .bool x.2)) w
  | [], [], i, _ => by simp [Instr.findAsking, kfind]
  | [], x :: r, i, h => by have := h.1; simp at this
  | e :: es, [], i, h => by have := h.1; simp at this
  | e :: es, x :: r, i, h => by
    have h0 : entIs e x := h.2 0 (by simp) (by simp)
    have hr : EntsAre es r := ⟨by have := h.1; simpa using this, fun j hj hj' => h.2 (j + 1) (by simp; omega) (by simp; omega)⟩
    have ih := findAsk w k es r (i + 1) hr
    unfold Instr.findAsking kfind
    rw [h0.1]
    by_cases e : k = x.1
    · simp [eq140, e, h0.2]
    · simp [eq140, e, ih]
theorem findKey_c (w : World) (k : Kc) (es : List MapEntry) (l : List (Kc × Bool)) (h : EntsAre es l) : (Instr.findKey 140 k.val es).run Try.prog w = .ok ((kfind k l 0).map fun x => (x.1, .bool x.2)) w := by
  exact (run_findKey_eq (P := Try.prog) (w := w) (k := 140) (by rw [Try.underlying140]) k.val es).trans (findAsk w k es l 0 h)
theorem checkKey_c (w : World) (b : Bool) (k : Kc) : (Instr.checkKey b 10000 140 k.val).run Try.prog w = .ok () w := by
  obtain ⟨a1, a2, a3, a4⟩ := k
  unfold Kc.val
  show (Instr.checkKey b (9998 + 1 + 1) 140 _).run Try.prog w = _
  have p0 : ∀ (w : World) (x y z : Int) (u : Bool), (part 3 #[Value.int IntKind.i64 x, Value.int IntKind.i64 y, Value.int IntKind.i64 z, Value.bool u] 0).run Try.prog w = .ok (.int .i64 x) w := fun w x y z u => part_int rfl
  have p1 : ∀ (w : World) (x y z : Int) (u : Bool), (part 3 #[Value.int IntKind.i64 x, Value.int IntKind.i64 y, Value.int IntKind.i64 z, Value.bool u] 1).run Try.prog w = .ok (.int .i64 y) w := fun w x y z u => part_int rfl
  have p2 : ∀ (w : World) (x y z : Int) (u : Bool), (part 3 #[Value.int IntKind.i64 x, Value.int IntKind.i64 y, Value.int IntKind.i64 z, Value.bool u] 2).run Try.prog w = .ok (.int .i64 z) w := fun w x y z u => part_int rfl
  have p3 : ∀ (w : World) (x y z : Int) (u : Bool), (part 4 #[Value.int IntKind.i64 x, Value.int IntKind.i64 y, Value.int IntKind.i64 z, Value.bool u] 3).run Try.prog w = .ok (.bool u) w := fun w x y z u => part_bool rfl
  have c3 : ∀ (w : World) (x : Int), (Instr.checkKey b 9999 3 (.int .i64 x)).run Try.prog w = .ok () w := fun w x => by
    show (Instr.checkKey b (9998 + 1) 3 _).run Try.prog w = _
    unfold Instr.checkKey
    simp [run_underlying Try.underlying3]
  have c4 : ∀ (w : World) (x : Bool), (Instr.checkKey b 9999 4 (.bool x)).run Try.prog w = .ok () w := fun w x => by
    show (Instr.checkKey b (9998 + 1) 4 _).run Try.prog w = _
    unfold Instr.checkKey
    simp [run_underlying Try.underlying4]
  unfold Instr.checkKey
  simp [run_underlying Try.underlying140, p0, p1, p2, p3, c3, c4]

/-- Each entry has a birthday of its own, ahead of the clock. -/
def Born (es : Array MapEntry) (clock : Nat) : Prop := (es.toList.map (·.born)).Nodup ∧ ∀ e, e ∈ es.toList → e.born < clock
/-- The map at block r reads as l. -/
def MapAt (w : World) (r : Nat) (l : List (Kc × Bool)) : Prop := ∃ es clock, w.heap[r]? = some (.map es clock) ∧ EntsAre es.toList l ∧ Born es clock
theorem MapAt.keep {w w1 : World} {r : Nat} {l : List (Kc × Bool)} {F : Nat → Prop} (h : MapAt w r l) (hk : Keeps F w w1) (hF : ¬ F r) : MapAt w1 r l := by
  obtain ⟨es, c, h1, h2⟩ := h
  exact ⟨es, c, hk.blk h1 hF, h2⟩
theorem MapAt.new (w : World) : MapAt (w.alloc (.map #[] 0)) w.heap.size [] := ⟨#[], 0, heap_alloc_new _ _, ⟨rfl, fun i h => by simp at h⟩, by simp [Born]⟩
theorem getObj_c {w : World} {r : Nat} {es : Array MapEntry} {c : Nat} (h : w.heap[r]? = some (.map es c)) : (getObj r).run Try.prog w = .ok (.map es c) w := by
  simp [getObj, Sem.run, h]
/-- The block r of w is o. -/
def putObj (w : World) (r : Nat) (o : Obj) : World := { w with heap := w.heap.setIfInBounds r o }
theorem setObj_c {w : World} {r : Nat} {es : Array MapEntry} {c : Nat} (o : Obj) (h : w.heap[r]? = some (.map es c)) : (setObj r o).run Try.prog w = .ok () (putObj w r o) := by
  simp [setObj, Sem.run, h, putObj]
theorem Keeps.putObj {F : Nat → Prop} {w w1 : World} (h : Keeps F w w1) (r : Nat) (o : Obj) (hr : F r ∨ w.heap.size ≤ r) : Keeps F w (putObj w1 r o) :=
  ⟨h.os, h.tape, h.output, by show _ ≤ (w1.heap.setIfInBounds r o).size; simpa using h.size, fun b hb hF => by
    show (w1.heap.setIfInBounds r o)[b]? = _
    rw [Array.getElem?_setIfInBounds, if_neg (fun e => by subst e; rcases hr with hr | hr; exact hF hr; omega)]
    exact h.block b hb hF⟩
theorem putObj_at {w : World} {r : Nat} (o : Obj) (h : r < w.heap.size) : (putObj w r o).heap[r]? = some o := by
  show (w.heap.setIfInBounds r o)[r]? = _
  simp [h]
theorem zero4 (w : World) : (zeroValue 4).run Try.prog w = .ok (.bool false) w := by simp
def kget (k : Kc) (l : List (Kc × Bool)) : Option Bool := (kfind k l 0).map (·.2)
theorem lookup_c {w : World} {r : Nat} {l : List (Kc × Bool)} (h : MapAt w r l) (k : Kc) : (Instr.lookup 134 (.map (some r)) k.val true).run Try.prog w = .ok (.tuple #[.bool ((kget k l).getD false), .bool (kget k l).isSome]) w := by
  obtain ⟨es, c, h1, h2, _⟩ := h
  unfold Instr.lookup kget
  have hf := findKey_c w k es.toList l h2
  cases hk : kfind k l 0
  · rw [hk] at hf
    simp [run_underlying Try.underlying134, getObj_c h1, checkKey_c, hf]
  · rw [hk] at hf
    simp [run_underlying Try.underlying134, getObj_c h1, checkKey_c, hf]
/-- The map with a key written. -/
def kput (k : Kc) (b : Bool) : List (Kc × Bool) → List (Kc × Bool)
  | [] => [(k, b)]
  | x :: r => if k = x.1 then (x.1, b) :: r else x :: kput k b r
theorem kfind_some {k : Kc} : ∀ {l : List (Kc × Bool)} {i j : Nat} {b : Bool}, kfind k l i = some (j, b) → i ≤ j ∧ ∃ h : j - i < l.length, l[j - i].1 = k ∧ ∀ c, kput k c l = l.set (j - i) (k, c)
  | [], i, j, b, h => by simp [kfind] at h
  | x :: r, i, j, b, h => by
    unfold kfind at h
    by_cases e : k = x.1
    · rw [if_pos e] at h
      simp at h
      obtain ⟨rfl, _⟩ := h
      refine ⟨Nat.le_refl _, by simp, by simp [e], fun c => ?_⟩
      simp [kput, e]
    · rw [if_neg e] at h
      obtain ⟨h1, h2, h3, h4⟩ := kfind_some h
      have hj : j - i = j - (i + 1) + 1 := by omega
      refine ⟨by omega, by simp; omega, ?_, fun c => ?_⟩
      · simp only [hj, List.getElem_cons_succ]; exact h3
      · simp [kput, e, h4, hj]
theorem kfind_none {k : Kc} : ∀ {l : List (Kc × Bool)} {i : Nat}, kfind k l i = none → ∀ c, kput k c l = l ++ [(k, c)]
  | [], _, _, c => rfl
  | x :: r, i, h, c => by
    unfold kfind at h
    by_cases e : k = x.1
    · rw [if_pos e] at h; simp at h
    · rw [if_neg e] at h
      simp [kput, e, kfind_none h c]
theorem sameBits_c (k : Kc) : Instr.sameBits 10000 k.val k.val = true := by
  show Instr.sameBits (9998 + 1 + 1) k.val k.val = true
  unfold Kc.val Instr.sameBits
  simp [Instr.sameBits]
theorem update_c {w : World} {r : Nat} {l : List (Kc × Bool)} (h : MapAt w r l) (k : Kc) (b : Bool) :
    ∃ es c, (Instr.mapUpdate 134 (.map (some r)) k.val (.bool b)).run Try.prog w = .ok () (putObj w r (.map es c)) ∧ MapAt (putObj w r (.map es c)) r (kput k b l) := by
  obtain ⟨es, c, h1, h2, hb⟩ := h
  have hlt := lt_of_blk h1
  have hf := findKey_c w k es.toList l h2
  unfold Instr.mapUpdate
  cases hk : kfind k l 0 with
  | none =>
    rw [hk] at hf
    refine ⟨es.push ⟨k.val, .bool b, c⟩, c + 1, ?_, ?_⟩
    · simp [run_underlying Try.underlying134, getObj_c h1, checkKey_c, hf, setObj_c _ h1]
    · refine ⟨_, _, putObj_at _ hlt, ?_, by
        refine ⟨?_, fun e he => ?_⟩
        · simp only [Array.toList_push, List.map_append, List.map_cons, List.map_nil]
          rw [List.nodup_append]
          refine ⟨hb.1, by simp, fun a ha b hb' => ?_⟩
          obtain ⟨e, he, rfl⟩ := List.mem_map.1 ha
          have := hb.2 e he
          simp at hb'
          omega
        · simp only [Array.toList_push, List.mem_append, List.mem_singleton] at he
          rcases he with he | rfl
          · have := hb.2 e he; omega
          · exact Nat.lt_succ_self _⟩
      rw [kfind_none hk]
      refine ⟨by simpa using h2.1, fun i hi hi' => ?_⟩
      have hl : es.size = l.length := by simpa using h2.1
      simp only [Array.toList_push]
      by_cases e : i < l.length
      · rw [List.getElem_append_left (by simpa [hl] using e), List.getElem_append_left e]
        exact h2.2 i (by simpa [hl] using e) e
      · have : i = l.length := by simp at hi'; omega
        subst this
        rw [List.getElem_append_right (by simp [hl]), List.getElem_append_right (Nat.le_refl _)]
        simp [hl, entIs]
  | some x =>
    obtain ⟨j, v⟩ := x
    obtain ⟨_, hj, hkj, hput⟩ := kfind_some hk
    simp only [Nat.sub_zero] at hj hkj hput
    rw [hk] at hf
    have hl : es.size = l.length := by simpa using h2.1
    have hje : j < es.size := by omega
    have hent := h2.2 j (by simpa using hje) hj
    have hkey : es[j].key = k.val := by have := hent.1; rw [hkj] at this; simpa using this
    refine ⟨es.modify j fun e => { e with key := k.val, val := .bool b }, c, ?_, ?_⟩
    · simp [run_underlying Try.underlying134, getObj_c h1, checkKey_c, hf, setObj_c _ h1, Instr.keyThatStays, hje, hkey, sameBits_c]
    · refine ⟨_, _, putObj_at _ hlt, ?_, by
        have hm : (es.modify j fun e => { e with key := k.val, val := .bool b }).toList.map (·.born) = es.toList.map (·.born) := by
          apply List.ext_getElem
          · simp
          · intro i h1 h2
            simp only [List.getElem_map, Array.getElem_toList, Array.getElem_modify]
            split <;> rfl
        refine ⟨by rw [hm]; exact hb.1, fun e he => ?_⟩
        have h3 : e.born ∈ es.toList.map (·.born) := by rw [← hm]; exact List.mem_map.2 ⟨e, he, rfl⟩
        obtain ⟨e', he', h4⟩ := List.mem_map.1 h3
        rw [← h4]
        exact hb.2 e' he'⟩
      rw [hput b]
      refine ⟨by simpa using h2.1, fun i hi hi' => ?_⟩
      have hi2 : i < es.size := by simpa using hi
      have hi3 : i < l.length := by omega
      have := h2.2 i (by simpa using hi2) hi3
      simp only [Array.getElem_toList, Array.getElem_modify, List.getElem_set]
      by_cases e : j = i
      · subst e
        simp [entIs]
      · simp only [if_neg e]
        simpa using this
end Go.Proofs.Ytlpimkmkcfbddaa
