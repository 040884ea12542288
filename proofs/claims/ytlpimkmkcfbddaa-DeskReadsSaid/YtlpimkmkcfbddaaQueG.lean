/- Wants that are read: argument slices, ref14.Same; append of one want. No condition. -/
import Derived.Test.YtlpimkmkcfbddaaQueAlive
import Derived.Test.YtlpimkmkcfbddaaArgs
namespace Go.Proofs.Ytlpimkmkcfbddaa
open Go.RowKit

def Wt.val (x : Wt) : Value := .agg #[.int .i64 x.c, .int .i64 x.p, .int .i64 x.o, .bool x.w]
theorem equalIn73 (w : World) (a b : Wt) : (Op.equalIn 10000 73 a.val b.val).run Try.prog w = .ok (decide (a = b)) w := by
  obtain ⟨a1, a2, a3, a4⟩ := a
  obtain ⟨b1, b2, b3, b4⟩ := b
  unfold Wt.val
  show (Op.equalIn (9998 + 1 + 1) 73 _ _).run Try.prog w = _
  unfold Op.equalIn
  simp only [Wt.mk.injEq]
  have p0 : ∀ (w : World) (x y z : Int) (u : Bool), (part 3 #[Value.int IntKind.i64 x, Value.int IntKind.i64 y, Value.int IntKind.i64 z, Value.bool u] 0).run Try.prog w = .ok (.int .i64 x) w := fun w x y z u => part_int rfl
  have p1 : ∀ (w : World) (x y z : Int) (u : Bool), (part 3 #[Value.int IntKind.i64 x, Value.int IntKind.i64 y, Value.int IntKind.i64 z, Value.bool u] 1).run Try.prog w = .ok (.int .i64 y) w := fun w x y z u => part_int rfl
  have p2 : ∀ (w : World) (x y z : Int) (u : Bool), (part 3 #[Value.int IntKind.i64 x, Value.int IntKind.i64 y, Value.int IntKind.i64 z, Value.bool u] 2).run Try.prog w = .ok (.int .i64 z) w := fun w x y z u => part_int rfl
  have p3 : ∀ (w : World) (x y z : Int) (u : Bool), (part 4 #[Value.int IntKind.i64 x, Value.int IntKind.i64 y, Value.int IntKind.i64 z, Value.bool u] 3).run Try.prog w = .ok (.bool u) w := fun w x y z u => part_bool rfl
  by_cases h1 : a1 = b1
  · by_cases h2 : a2 = b2
    · by_cases h3 : a3 = b3
      · by_cases h4 : a4 = b4
        · simp [run_underlying Try.underlying73, p0, p1, p2, p3, eqInt, eqBool, h1, h2, h3, h4]
        · simp [run_underlying Try.underlying73, p0, p1, p2, p3, eqInt, eqBool, h1, h2, h3, h4]
      · simp [run_underlying Try.underlying73, p0, p1, p2, eqInt, h1, h2, h3]
    · simp [run_underlying Try.underlying73, p0, p1, eqInt, h1, h2]
  · simp [run_underlying Try.underlying73, p0, eqInt, h1]
theorem neq73 (w : World) (a b : Wt) : (binOp .neq 73 a.val b.val).run Try.prog w = .ok (.bool (!decide (a = b))) w := by
  have h := run_neq_struct (P := Try.prog) w 73 #[.int .i64 a.c, .int .i64 a.p, .int .i64 a.o, .bool a.w] #[.int .i64 b.c, .int .i64 b.p, .int .i64 b.o, .bool b.w]
  refine h.trans ?_
  have h2 := equalIn73 w a b
  unfold Wt.val at h2
  rw [h2]
  rfl

/-- Wants that may be read. -/
def WtC (w : World) (v : Value) (ws : List Wt) : Prop :=
  ∃ a n, v = .slice a ws.length n ∧ ∀ i (h : i < ws.length), ∃ g off, a = some ⟨g, off, none⟩ ∧ g < w.heap.size ∧ w.cell? ⟨g, off + i * 4, none⟩ = some (.int .i64 ws[i].c) ∧ w.cell? ⟨g, off + i * 4 + 1, none⟩ = some (.int .i64 ws[i].p) ∧ w.cell? ⟨g, off + i * 4 + 2, none⟩ = some (.int .i64 ws[i].o) ∧ w.cell? ⟨g, off + i * 4 + 3, none⟩ = some (.bool ws[i].w)
theorem WtC.slice {w : World} {v : Value} {ws : List Wt} (h : WtC w v ws) : ∃ a n, v = .slice a ws.length n := by
  obtain ⟨a, n, rfl, _⟩ := h; exact ⟨a, n, rfl⟩
theorem WtC.no {w w1 : World} {v : Value} {ws : List Wt} (h : WtC w v ws) (hk : Keeps noB w w1) : WtC w1 v ws := by
  obtain ⟨a, n, rfl, h⟩ := h
  refine ⟨a, n, rfl, fun i hi => ?_⟩
  obtain ⟨g, off, ha, hg, h0, h1, h2, h3⟩ := h i hi
  exact ⟨g, off, ha, Nat.lt_of_lt_of_le hg hk.size, (keep_cell hk _ hg (noB_not _)).trans h0, (keep_cell hk _ hg (noB_not _)).trans h1, (keep_cell hk _ hg (noB_not _)).trans h2, (keep_cell hk _ hg (noB_not _)).trans h3⟩
theorem WtC.at_ {w : World} {a : Option Addr} {m n : Nat} {ws : List Wt} (h : WtC w (.slice a m n) ws) {i : Nat} (hi : i < ws.length) :
    ∃ g off, a = some ⟨g, off, none⟩ ∧ w.cell? ⟨g, off + i * 4, none⟩ = some (.int .i64 ws[i].c) ∧ w.cell? ⟨g, off + i * 4 + 1, none⟩ = some (.int .i64 ws[i].p) ∧ w.cell? ⟨g, off + i * 4 + 2, none⟩ = some (.int .i64 ws[i].o) ∧ w.cell? ⟨g, off + i * 4 + 3, none⟩ = some (.bool ws[i].w) := by
  obtain ⟨a1, n1, e, h⟩ := h
  simp at e
  obtain ⟨rfl, _, rfl⟩ := e
  obtain ⟨g, off, ha, _, h'⟩ := h i hi
  exact ⟨g, off, ha, h'⟩
theorem WtR.read {w : World} {S : Nat → Prop} {v : Value} {ws : List Wt} (h : WtR w S v ws) : WtC w v ws := by
  obtain ⟨a, n, rfl, _, _, h⟩ := h
  refine ⟨a, n, rfl, fun i hi => ?_⟩
  obtain ⟨g, off, cs, ha, _, hb, h0, h1, h2, h3⟩ := h i hi
  exact ⟨g, off, ha, lt_of_blk hb, blk_cell hb h0, blk_cell hb h1, blk_cell hb h2, blk_cell hb h3⟩
/-- A want by value, as an argument's cells have it. -/
def Q4 (f : Nat → Value) : Prop := IsI (f 0) ∧ IsI (f 1) ∧ IsI (f 2) ∧ IsB (f 3)
theorem choose_w {n : Nat} {p : Nat → Wt → Prop} (h : ∀ i, i < n → ∃ x, p i x) : ∃ l : List Wt, l.length = n ∧ ∀ i (hi : i < l.length), p i l[i] := by
  induction n with
  | zero => exact ⟨[], rfl, fun i hi => absurd hi (by simp)⟩
  | succ n ih =>
    obtain ⟨l, hl, hp⟩ := ih (fun i hi => h i (by omega))
    obtain ⟨x, hx⟩ := h n (by omega)
    refine ⟨l ++ [x], by simp [hl], fun i hi => ?_⟩
    by_cases e : i < l.length
    · rw [List.getElem_append_left e]; exact hp i e
    · have : i = l.length := by simp at hi; omega
      subst this
      rw [List.getElem_append_right (Nat.le_refl _)]
      simp only [Nat.sub_self, List.getElem_cons_zero]
      rw [hl]
      exact hx
def Wt.inB (x : Wt) : Prop := (-9223372036854775808 ≤ x.c ∧ x.c ≤ 9223372036854775807) ∧ (-9223372036854775808 ≤ x.p ∧ x.p ≤ 9223372036854775807) ∧ (-9223372036854775808 ≤ x.o ∧ x.o ≤ 9223372036854775807)
theorem wtc_of_rd {w : World} {a : Option Addr} {len : Nat} {g : Nat → Nat → Value} (cap : Nat) (hr : RdS w 4 a len g) (hq : ∀ k, k < len → Q4 (g k)) :
    ∃ xs : List Wt, xs.length = len ∧ WtC w (.slice a len cap) xs ∧ ∀ x, x ∈ xs → x.inB := by
  obtain ⟨xs, hl, hp⟩ := choose_w (n := len) (p := fun i x => g i 0 = .int .i64 x.c ∧ g i 1 = .int .i64 x.p ∧ g i 2 = .int .i64 x.o ∧ g i 3 = .bool x.w ∧ x.inB) (fun i hi => by
    obtain ⟨⟨a0, e0, b0⟩, ⟨a1, e1, b1⟩, ⟨a2, e2, b2⟩, ⟨a3, e3⟩⟩ := hq i hi
    exact ⟨⟨a0, a1, a2, a3⟩, e0, e1, e2, e3, b0, b1, b2⟩)
  refine ⟨xs, hl, ⟨a, cap, by rw [hl], fun i hi => ?_⟩, fun x hx => ?_⟩
  · obtain ⟨b, off, ha, hb, hc⟩ := hr i (by omega)
    obtain ⟨e0, e1, e2, e3, _⟩ := hp i hi
    refine ⟨b, off, ha, hb, ?_, ?_, ?_, ?_⟩
    · rw [← e0]; exact hc 0 (by omega)
    · rw [← e1]; exact hc 1 (by omega)
    · rw [← e2]; exact hc 2 (by omega)
    · rw [← e3]; exact hc 3 (by omega)
  · obtain ⟨i, hi, rfl⟩ := List.getElem_of_mem hx
    exact (hp i hi).2.2.2.2

/-- 'append(out, x)' of one want that lies in a block of its own. -/
theorem wpList_append_w {w : World} {ops : Array Oper} {rest : List Oper} {o : Oper} {a : Act} {Q : Exit → Act → World → Prop} (hg : o.guard = none) (s x : Operand)
    (ho : o.op = Op.call { callee := Callee.builtin Builtin.append, args := #[s, x], argTypes := #[69, 69] }) (B : Nat) (v : Value) (ws : List Wt) (hv : a.eval s = v) (hown : w.ownsRow B 73 4 v ws.length (wcells ws)) (hL : ws.length ≤ 100000)
    (gn cn : Nat) (t : Wt) (hx : a.eval x = Value.slice (some ⟨gn, 0, none⟩) 1 cn) (fr : Nat × Nat) (hu : w.heap[gn]? = some (.cells #[.int .i64 t.c, .int .i64 t.p, .int .i64 t.o, .bool t.w] 73 fr)) (hB : B ≤ w.heap.size)
    (h : ∀ (v' : Value) (w' : World), w'.ownsRow B 73 4 v' (ws ++ [t]).length (wcells (ws ++ [t])) → w.grownBy w' v.ownBlock → (v'.ownBlock = v.ownBlock ∨ v'.ownBlock = some w.heap.size) → wpList Try.prog ops Q rest (a.put o.dst v') w') : wpList Try.prog ops Q (o :: rest) a w := by
  obtain ⟨i1, hi, hz0, hz1, hz2⟩ := info_parts info73
  refine wpList_append_own_at w hg s x 69 ho B 73 i1 _ 4 32 Try.underlying69 hi hz0 hz1 hz2 rfl (by decide) v ws.length (wcells ws) hv hown ⟨gn, 0, none⟩ 1 cn [.int .i64 t.c, .int .i64 t.p, .int .i64 t.o, .bool t.w] hx rfl
    (fun j u hj => by
      have hadd : (⟨gn, 0, none⟩ : Addr).add j = ⟨gn, j, none⟩ := by unfold Addr.add; split <;> simp_all
      rw [hadd]
      exact blk_cell hu (by simpa using hj))
    (fun u hu' => by simp at hu'; rcases hu' with rfl | rfl | rfl | rfl <;> rfl) (by unfold maxLen; omega) (by omega) hB ?_
  intro v' w' h1 h2 _ h4
  exact h v' w' (by rw [wcells_append, List.length_append]; exact h1) h2 h4

set_option maxRecDepth 100000 in
set_option maxHeartbeats 8000000 in
theorem sameW_c {w : World} {va vb : Value} {ls ms : List Wt} (ha : WtC w va ls) (hb : WtC w vb ms) (hm : ms.length ≤ 1000000) : Calls Try.prog 54 #[va, vb] w (RetK noB (.bool (decide (ls = ms))) w) := by
  obtain ⟨a, c, rfl⟩ := ha.slice
  obtain ⟨b, d, rfl⟩ := hb.slice
  have HA := Lib.hid ha
  have HB := Lib.hid hb
  clear ha hb
  by_cases hl : ls.length = ms.length
  · have HL := Lib.hid hl
    obtain ⟨m, hM⟩ : ∃ m, m = ms.length := ⟨_, rfl⟩
    have HM := Lib.hid hM
    rw [hl, ← hM]
    rw [← hM] at hm
    clear hl hM
    go_enter Try.func54, Try.ntmps54
    go_wp2_with fail
    go_loopw [13] (fun i wr => ∃ k : Nat, k ≤ m ∧ i = .int .i64 k ∧ Keeps noB w wr ∧ ls.take k = ms.take k)
      (fun i _ => m - (intOf i).toNat)
    case atStart => exact ⟨0, by omega, rfl, Keeps.refl _ _, rfl⟩
    case round =>
      obtain ⟨k, hk, rfl, hkp, heq⟩ := hrel
      have HE := Lib.hid heq
      clear heq
      by_cases hlt : k < m
      · have hka : k < ls.length := by rw [HL.out, ← HM.out]; exact hlt
        have hkb : k < ms.length := by rw [← HM.out]; exact hlt
        obtain ⟨g1, o1, rfl, x0, x1, x2, x3⟩ := (HA.out.no hkp).at_ hka
        obtain ⟨g2, o2, rfl, y0, y1, y2, y3⟩ := (HB.out.no hkp).at_ hkb
        obtain ⟨X, hX, hX'⟩ : ∃ X, X = ls[k] ∧ ls[k]? = some X := ⟨_, rfl, List.getElem?_eq_getElem hka⟩
        obtain ⟨Y, hY, hY'⟩ : ∃ Y, Y = ms[k] ∧ ms[k]? = some Y := ⟨_, rfl, List.getElem?_eq_getElem hkb⟩
        rw [← hX] at x0 x1 x2 x3
        rw [← hY] at y0 y1 y2 y3
        clear hX hY hka hkb
        have HX := Lib.hid hX'
        have HY := Lib.hid hY'
        clear hX' hY'
        have hN := fun wd : World => neq73 wd X Y
        have hE := fun wd : World => equalIn73 wd X Y
        obtain ⟨q, hq⟩ : ∃ q, q = decide (X = Y) := ⟨_, rfl⟩
        rw [← hq] at hN hE
        have HQ := Lib.hid hq
        clear hq
        obtain ⟨xc, xp, xo, xw⟩ := X
        obtain ⟨yc, yp, yo, yw⟩ := Y
        simp only [Wt.val] at hN hE
        go_wp2_with fail
        cases q
        · go_quiet (fail)
          go_wp2_with fail
          go_ret
          have hne : ls ≠ ms := fun e => by
            have h1 := HX.out
            have h2 := HY.out
            rw [e, h2] at h1
            have h3 := HQ.out
            simp at h1
            simp [h1] at h3
          rw [decide_eq_false hne]
          exact ⟨rfl, hkp.drewN _⟩
        · go_quiet (fail)
          go_wp2_with fail
          go_roundw
          case rel =>
            refine ⟨k + 1, by omega, by go_num, hkp.drewN _, ?_⟩
            have hxy : (⟨xc, xp, xo, xw⟩ : Wt) = ⟨yc, yp, yo, yw⟩ := of_decide_eq_true HQ.out.symm
            rw [List.take_add_one, List.take_add_one, HE.out, HX.out, HY.out, hxy]
          case measure => simp [intOf]; omega
      · have : k = m := by omega
        have he : ls = ms := by
          have := HE.out
          rwa [List.take_of_length_le (by rw [HL.out, ← HM.out]; omega), List.take_of_length_le (by rw [← HM.out]; omega)] at this
        have HE2 := Lib.hid he
        clear he
        go_wp2_with fail
        go_ret
        rw [decide_eq_true HE2.out]
        exact ⟨rfl, hkp⟩
  · have hd : decide (ls = ms) = false := decide_eq_false (fun e => hl (by rw [e]))
    rw [hd]
    have h1 : ((ls.length : Int) == (ms.length : Int)) = false := by simp; omega
    have h2 : decide (ls.length = ms.length) = false := decide_eq_false hl
    clear hd
    go_enter Try.func54, Try.ntmps54
    go_wp2_with fail
    go_ret
    exact ⟨rfl, Keeps.refl _ _⟩
end Go.Proofs.Ytlpimkmkcfbddaa
