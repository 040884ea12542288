/- The queue in memory: what waits; right, of, cross. No condition. -/
import Derived.Test.YtlpimkmkcfbddaaQueMap
namespace Go.Proofs.Ytlpimkmkcfbddaa
open Go.RowKit

/-- A want: client, page, object, write. -/
structure Wt where
  c : Int
  p : Int
  o : Int
  w : Bool
  deriving DecidableEq
/-- A slice of wants in blocks of S that hold wants. -/
def WtR (w : World) (S : Nat → Prop) (v : Value) (ws : List Wt) : Prop :=
  ∃ a n, v = .slice a ws.length n ∧ ws.length ≤ n ∧ n ≤ maxLen ∧ ∀ i (h : i < ws.length), ∃ g off cs, a = some ⟨g, off, none⟩ ∧ S g ∧ w.heap[g]? = some (.cells cs 73 (0, 0)) ∧ cs[off + i * 4]? = some (.int .i64 ws[i].c) ∧ cs[off + i * 4 + 1]? = some (.int .i64 ws[i].p) ∧ cs[off + i * 4 + 2]? = some (.int .i64 ws[i].o) ∧ cs[off + i * 4 + 3]? = some (.bool ws[i].w)
theorem WtR.keep {w w1 : World} {S : Nat → Prop} {v : Value} {ws : List Wt} {F : Nat → Prop} (h : WtR w S v ws) (hk : Keeps F w w1) (hF : ∀ x, F x → S x → ∀ cs, w.heap[x]? ≠ some (.cells cs 73 (0, 0))) : WtR w1 S v ws := by
  obtain ⟨a, n, rfl, h1, h2, h⟩ := h
  refine ⟨a, n, rfl, h1, h2, fun i hi => ?_⟩
  obtain ⟨g, off, cs, ha, hS, hb, hc⟩ := h i hi
  exact ⟨g, off, cs, ha, hS, hk.blk hb (fun hx => hF g hx hS cs hb), hc⟩
theorem WtR.no {w w1 : World} {S : Nat → Prop} {v : Value} {ws : List Wt} (h : WtR w S v ws) (hk : Keeps noB w w1) : WtR w1 S v ws := h.keep hk (fun _ hx => hx.elim)
theorem WtR.mono {w : World} {S S' : Nat → Prop} {v : Value} {ws : List Wt} (h : WtR w S v ws) (hS : ∀ x, S x → x < w.heap.size → S' x) : WtR w S' v ws := by
  obtain ⟨a, n, rfl, h1, h2, h⟩ := h
  refine ⟨a, n, rfl, h1, h2, fun i hi => ?_⟩
  obtain ⟨g, off, cs, ha, hs, hb, hc⟩ := h i hi
  exact ⟨g, off, cs, ha, hS g hs (lt_of_blk hb), hb, hc⟩
theorem WtR.slice {w : World} {S : Nat → Prop} {v : Value} {ws : List Wt} (h : WtR w S v ws) : ∃ a n, v = .slice a ws.length n := by
  obtain ⟨a, n, rfl, _⟩ := h; exact ⟨a, n, rfl⟩
theorem WtR.at_ {w : World} {S : Nat → Prop} {a : Option Addr} {m n : Nat} {ws : List Wt} (h : WtR w S (.slice a m n) ws) {i : Nat} (hi : i < ws.length) :
    ∃ g off, a = some ⟨g, off, none⟩ ∧ w.cell? ⟨g, off + i * 4, none⟩ = some (.int .i64 ws[i].c) ∧ w.cell? ⟨g, off + i * 4 + 1, none⟩ = some (.int .i64 ws[i].p) ∧ w.cell? ⟨g, off + i * 4 + 2, none⟩ = some (.int .i64 ws[i].o) ∧ w.cell? ⟨g, off + i * 4 + 3, none⟩ = some (.bool ws[i].w) := by
  obtain ⟨a1, n1, e, _, _, h⟩ := h
  simp at e
  obtain ⟨rfl, _, rfl⟩ := e
  obtain ⟨g, off, cs, ha, _, hb, h0, h1, h2, h3⟩ := h i hi
  exact ⟨g, off, ha, blk_cell hb h0, blk_cell hb h1, blk_cell hb h2, blk_cell hb h3⟩
def wcells (ws : List Wt) : List Value := ws.flatMap fun e => [.int .i64 e.c, .int .i64 e.p, .int .i64 e.o, .bool e.w]
theorem wcells_len (ws : List Wt) : (wcells ws).length = ws.length * 4 := by
  induction ws with
  | nil => rfl
  | cons e t ih => simp [wcells] at ih ⊢; omega
theorem wcells_append (l m : List Wt) : wcells (l ++ m) = wcells l ++ wcells m := by simp [wcells]
theorem wcells_at : ∀ (l : List Wt) (k : Nat) (h : k < l.length), (wcells l)[k * 4]? = some (.int .i64 l[k].c) ∧ (wcells l)[k * 4 + 1]? = some (.int .i64 l[k].p) ∧ (wcells l)[k * 4 + 2]? = some (.int .i64 l[k].o) ∧ (wcells l)[k * 4 + 3]? = some (.bool l[k].w)
  | [], k, h => absurd h (Nat.not_lt_zero _)
  | e :: t, 0, _ => ⟨rfl, rfl, rfl, rfl⟩
  | e :: t, k + 1, h => by
    have := wcells_at t k (by simpa using h)
    show (_ :: _ :: _ :: _ :: wcells t)[(k + 1) * 4]? = _ ∧ (_ :: _ :: _ :: _ :: wcells t)[(k + 1) * 4 + 1]? = _ ∧ (_ :: _ :: _ :: _ :: wcells t)[(k + 1) * 4 + 2]? = _ ∧ (_ :: _ :: _ :: _ :: wcells t)[(k + 1) * 4 + 3]? = _
    rw [show (k + 1) * 4 = k * 4 + 1 + 1 + 1 + 1 by omega]
    simpa using this
theorem wcells_one (l : List Wt) : ∀ u ∈ wcells l, u.oneCell' = true := by
  intro u hu
  unfold wcells at hu
  rw [List.mem_flatMap] at hu
  obtain ⟨e, _, he⟩ := hu
  simp at he
  rcases he with rfl | rfl | rfl | rfl <;> rfl
theorem WtR.of_own {w : World} {B : Nat} {v : Value} {ws : List Wt} (h : w.ownsRow B 73 4 v ws.length (wcells ws)) : WtR w (fun x => v.ownBlock = some x) v ws := by
  obtain ⟨_, h⟩ := h
  rcases h with ⟨rfl, h0⟩ | ⟨g, c, cs, rfl, hB, hb, h1, hc, h0, ht⟩
  · have : ws = [] := List.length_eq_zero_iff.1 h0
    subst this
    exact ⟨none, 0, rfl, Nat.le_refl _, Nat.zero_le _, fun i hi => absurd hi (by simp)⟩
  · refine ⟨_, c, rfl, h1, hc, fun k hk => ⟨g, 0, cs, rfl, rfl, hb, ?_⟩⟩
    obtain ⟨g1, g2, g3, g4⟩ := wcells_at ws k hk
    rw [← ht, List.getElem?_take, if_pos (by omega), Array.getElem?_toList] at g1 g2 g3 g4
    simp only [Nat.zero_add]
    exact ⟨g1, g2, g3, g4⟩

/-- The queue at block p: what waits (read by v), and the calls (the map at r). -/
structure QAt (w : World) (S : Nat → Prop) (p r : Nat) (v : Value) (ws : List Wt) (l : List (Kc × Bool)) : Prop where
  inp : S p
  inr : S r
  lt : ∀ x, S x → x < w.heap.size
  ptr : w.heap[p]? = some (.cells #[v, .map (some r)] 136 (0, 0))
  wants : WtR w S v ws
  calls : MapAt w r l
theorem QAt.keep {w w1 : World} {S : Nat → Prop} {p r : Nat} {v : Value} {ws : List Wt} {l : List (Kc × Bool)} {F : Nat → Prop} (h : QAt w S p r v ws l) (hk : Keeps F w w1) (hF : ∀ x, S x → ¬ F x) : QAt w1 S p r v ws l :=
  ⟨h.inp, h.inr, fun x hx => Nat.lt_of_lt_of_le (h.lt x hx) hk.size, hk.blk h.ptr (hF p h.inp), h.wants.keep hk (fun x h1 h2 => absurd h1 (hF x h2)), h.calls.keep hk (hF r h.inr)⟩
theorem QAt.no {w w1 : World} {S : Nat → Prop} {p r : Nat} {v : Value} {ws : List Wt} {l : List (Kc × Bool)} (h : QAt w S p r v ws l) (hk : Keeps noB w w1) : QAt w1 S p r v ws l := h.keep hk (fun x _ => noB_not x)

theorem client_c (c : Int) (w : World) : Calls Try.prog 92 #[.int .i64 c] w (Ret (.bool (decide (0 ≤ c) && decide (c < 4))) w) := by
  cases h1 : decide (0 ≤ c) <;> cases h2 : decide (c < 4)
  all_goals
    go_enter Try.func92, Try.ntmps92
    go_wp2_with fail
    go_ret
    exact ret_b (by grind)
theorem retk_b {F : Nat → Prop} {a b : Bool} {w w' : World} (h : a = b) (hk : Keeps F w w') : RetK F (.bool b) w (.returned (.bool a)) w' := ⟨by rw [h], hk⟩
def rightB (x : Wt) : Bool := decide (0 ≤ x.c ∧ x.c < 4 ∧ 0 ≤ x.p ∧ x.p < 6 ∧ 0 ≤ x.o ∧ x.o < 4)
theorem right_c (x : Wt) (w : World) : Calls Try.prog 90 #[.agg #[.int .i64 x.c, .int .i64 x.p, .int .i64 x.o, .bool x.w]] w (RetK noB (.bool (rightB x)) w) := by
  obtain ⟨c, p, o, b⟩ := x
  have hkA : Keeps noB w (w.alloc (.cells #[.int .i64 c, .int .i64 p, .int .i64 o, .bool b] 73)) := (Keeps.refl _ _).alloc _
  have hc := client_c c (w.alloc (.cells #[.int .i64 c, .int .i64 p, .int .i64 o, .bool b] 73))
  unfold rightB
  simp only
  go_enter Try.func90, Try.ntmps90
  go_wp2_with fail
  refine hc.mono ?_
  rintro e w1 ⟨rfl, rfl⟩
  by_cases h1 : 0 ≤ c ∧ c < 4
  · have e1 : (decide (0 ≤ c) && decide (c < 4)) = true := by simp [h1]
    rw [e1]
    go_wp2_with fail
    all_goals go_ret
    all_goals exact retk_b (by rw [Bool.eq_iff_iff]; simp <;> omega) hkA
  · have e1 : (decide (0 ≤ c) && decide (c < 4)) = false := by simp; omega
    rw [e1]
    go_wp2_with fail
    all_goals go_ret
    all_goals exact retk_b (by rw [Bool.eq_iff_iff]; simp <;> omega) hkA
theorem of1_c (x : Wt) (bc : Nat) (c : Int) (w : World) (hb : w.heap[bc]? = some (.cells #[.int .i64 c] 3 (0, 0))) :
    Calls Try.prog 107 #[.agg #[.int .i64 x.c, .int .i64 x.p, .int .i64 x.o, .bool x.w], .pointer (some ⟨bc, 0, none⟩)] w (RetK noB (.bool (x.c == c)) w) := by
  have hbA : (w.alloc (.cells #[.int .i64 x.c, .int .i64 x.p, .int .i64 x.o, .bool x.w] 73)).heap[bc]? = some (.cells #[.int .i64 c] 3 (0, 0)) := by rw [alloc_old _ _ _ (lt_of_blk hb)]; exact hb
  have h4 := blk_cell hbA (i := 0) rfl
  go_enter Try.func107, Try.ntmps107
  go_wp2_with fail
  go_ret
  exact ⟨rfl, (Keeps.refl _ _).alloc _⟩
/-- The place of what a client waits for. -/
def ofW (c : Int) (ws : List Wt) : Int := match ws.findIdx? (fun x => x.c == c) with | some i => (i : Int) | none => -1
theorem ofW_none {c : Int} {ws : List Wt} (h : ∀ x, x ∈ ws → (x.c == c) = false) : ofW c ws = -1 := by
  unfold ofW
  rw [List.findIdx?_eq_none_iff.2 h]
theorem ofW_some {c : Int} {ws : List Wt} {k : Nat} (hk : k < ws.length) (h : ∀ x, x ∈ ws.take k → (x.c == c) = false) (hc : (ws[k].c == c) = true) : ofW c ws = k := by
  unfold ofW
  rw [show ws.findIdx? (fun x => x.c == c) = some k from List.findIdx?_eq_some_iff_getElem.2 ⟨hk, hc, fun j hj => by
    have := h ws[j] (by rw [List.mem_take_iff_getElem]; exact ⟨j, by omega, rfl⟩)
    simpa using this⟩]
set_option maxRecDepth 100000 in
set_option maxHeartbeats 4000000 in
theorem indexW_c {S : Nat → Prop} {v : Value} {ws : List Wt} (bc : Nat) (c : Int) (w : World) (he : WtR w S v ws) (hb : w.heap[bc]? = some (.cells #[.int .i64 c] 3 (0, 0))) (hl : ws.length ≤ 1000000) :
    Calls Try.prog 106 #[v, .func (.func 107) #[] #[.pointer (some ⟨bc, 0, none⟩)]] w (RetK noB (.int .i64 (ofW c ws)) w) := by
  obtain ⟨a, n, rfl⟩ := he.slice
  go_enter Try.func106, Try.ntmps106
  go_wp2_with fail
  go_loopw [8] (fun i wr => ∃ k : Nat, k ≤ ws.length ∧ i = .int .i64 k ∧ Keeps noB w wr ∧ ∀ x, x ∈ ws.take k → (x.c == c) = false)
    (fun i _ => ws.length - (intOf i).toNat)
  case atStart => exact ⟨0, by omega, rfl, Keeps.refl _ _, by simp⟩
  case round =>
    obtain ⟨k, hk, rfl, hkp, hno⟩ := hrel
    have HN := Lib.hid hno
    clear hno
    by_cases hlt : k < ws.length
    · have hbr := hkp.blk hb (noB_not _)
      obtain ⟨g, off, rfl, x0, x1, x2, x3⟩ := (he.no hkp).at_ hlt
      obtain ⟨x, hx⟩ : ∃ x, x = ws[k] := ⟨_, rfl⟩
      rw [← hx] at x0 x1 x2 x3
      have HX := Lib.hid hx
      clear hx
      have hc := of1_c x bc c wr hbr
      cases hu : (x.c == c)
      · rw [hu] at hc
        have HU := Lib.hid hu
        clear hu
        go_wp2_with fail
        refine hc.mono ?_
        rintro e w1 ⟨rfl, hk1⟩
        go_wp2_with fail
        go_roundw
        case rel =>
          refine ⟨k + 1, by omega, by go_num, hkp.trans_no hk1, fun y hy => ?_⟩
          rw [List.take_succ_eq_append_getElem hlt, List.mem_append, List.mem_singleton] at hy
          rcases hy with hy | hy
          · exact HN.out y hy
          · rw [hy, ← HX.out]; exact HU.out
        case measure => simp [intOf]; omega
      · rw [hu] at hc
        have hof : ofW c ws = k := ofW_some hlt HN.out (by rw [← HX.out]; exact hu)
        have HO := Lib.hid hof
        clear hu hof
        go_wp2_with fail
        refine hc.mono ?_
        rintro e w1 ⟨rfl, hk1⟩
        go_wp2_with fail
        go_ret
        rw [HO.out]
        exact ⟨rfl, hkp.trans_no hk1⟩
    · have : k = ws.length := by omega
      subst this
      have hof : ofW c ws = -1 := ofW_none (fun x hx => HN.out x (by rw [List.take_length]; exact hx))
      have HO := Lib.hid hof
      clear hof
      go_wp2_with fail
      go_ret
      rw [HO.out]
      exact ⟨rfl, hkp⟩
theorem of_c {w : World} {S : Nat → Prop} {p r : Nat} {v : Value} {ws : List Wt} {l : List (Kc × Bool)} (h : QAt w S p r v ws l) (hl : ws.length ≤ 1000000) (c : Int) :
    Calls Try.prog 91 #[.pointer (some ⟨p, 0, none⟩), .int .i64 c] w (RetK noB (.int .i64 (ofW c ws)) w) := by
  have hkA : Keeps noB w (w.alloc (.cells #[.int .i64 c] 3)) := (Keeps.refl _ _).alloc _
  have hA := h.no hkA
  have hI := indexW_c w.heap.size c _ hA.wants (heap_alloc_new w (.cells #[.int .i64 c] 3)) hl
  have c0 := blk_cell hA.ptr (i := 0) rfl
  obtain ⟨a, n, rfl⟩ := h.wants.slice
  clear h hA
  go_enter Try.func91, Try.ntmps91
  go_wp2_with fail
  refine hI.mono ?_
  rintro e w1 ⟨rfl, hk1⟩
  go_wp2_with fail
  go_ret
  exact ⟨rfl, hkA.trans_no hk1⟩
end Go.Proofs.Ytlpimkmkcfbddaa
