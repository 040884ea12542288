/- The reference's link: rows of bodies; Push, Got. No condition. -/
import Derived.Test.YtoeikgaikdbpbaaLkSame
import Derived.Test.YtoeikgaikdbpbaaRes
namespace Go.Proofs.Ytoeikgaikdbpbaa
open Go.RowKit
open Go.Deep (choose_lt)

/-- A slice of bodies that may be read. -/
def BsR (w : World) (D : Nat → Prop) (v : Value) (bs : List (List Int)) : Prop :=
  ∃ a c, v = .slice a bs.length c ∧ ∀ i (h : i < bs.length), ∃ g off, a = some ⟨g, off, none⟩ ∧ g < w.heap.size ∧ D g ∧ ∃ a' c', w.cell? ⟨g, off + i, none⟩ = some (.slice a' bs[i].length c') ∧ ByR w D a' bs[i]
theorem BsR.keep {w w1 : World} {D : Nat → Prop} {v : Value} {bs : List (List Int)} {F : Nat → Prop} (h : BsR w D v bs) (hk : Keeps F w w1) (hF : ∀ b, D b → ¬ F b) : BsR w1 D v bs := by
  obtain ⟨a, c, rfl, h⟩ := h
  refine ⟨a, c, rfl, fun i hi => ?_⟩
  obtain ⟨g, off, ha, hg, hD, a', c', h1, h2⟩ := h i hi
  exact ⟨g, off, ha, Nat.lt_of_lt_of_le hg hk.size, hD, a', c', (kcell hk _ hg (hF g hD)).trans h1, h2.keep hk hF⟩
theorem BsR.no {w w1 : World} {D : Nat → Prop} {v : Value} {bs : List (List Int)} (h : BsR w D v bs) (hk : Keeps noB w w1) : BsR w1 D v bs := h.keep hk (fun b _ => noB_not b)
theorem BsR.mono {w : World} {D E : Nat → Prop} {v : Value} {bs : List (List Int)} (h : BsR w D v bs) (hE : ∀ b, b < w.heap.size → D b → E b) : BsR w E v bs := by
  obtain ⟨a, c, rfl, h⟩ := h
  refine ⟨a, c, rfl, fun i hi => ?_⟩
  obtain ⟨g, off, ha, hg, hD, a', c', h1, h2⟩ := h i hi
  exact ⟨g, off, ha, hg, hE g hg hD, a', c', h1, h2.mono hE⟩
theorem BsR.slice {w : World} {D : Nat → Prop} {v : Value} {bs : List (List Int)} (h : BsR w D v bs) : ∃ a c, v = .slice a bs.length c := by
  obtain ⟨a, c, h, _⟩ := h; exact ⟨a, c, h⟩
theorem BsR.at_ {w : World} {D : Nat → Prop} {a : Option Addr} {n c : Nat} {bs : List (List Int)} (h : BsR w D (.slice a n c) bs) {i : Nat} (hi : i < bs.length) :
    ∃ g off, a = some ⟨g, off, none⟩ ∧ ∃ a' c', w.cell? ⟨g, off + i, none⟩ = some (.slice a' bs[i].length c') ∧ ByR w D a' bs[i] := by
  obtain ⟨a1, c1, e, h⟩ := h
  simp at e
  obtain ⟨rfl, _, rfl⟩ := e
  obtain ⟨g, off, ha, _, _, a', c', h1, h2⟩ := h i hi
  exact ⟨g, off, ha, a', c', h1, h2⟩
theorem BsR.nil (w : World) (D : Nat → Prop) (a : Option Addr) (c : Nat) : BsR w D (.slice a 0 c) [] := ⟨a, c, rfl, fun i hi => by simp at hi⟩
/-- The cells of a slice of bodies. -/
theorem BsR.cells {w : World} {D : Nat → Prop} {v : Value} {bs : List (List Int)} (h : BsR w D v bs) : ∃ a c, v = .slice a bs.length c ∧ ∃ xs : List Value, xs.length = bs.length ∧ (∀ ad, a = some ad → ∀ j u, xs[j]? = some u → w.cell? (ad.add j) = some u) ∧ (∀ u ∈ xs, u.oneCell' = true) ∧ (a = none → bs = []) ∧
    ∀ i (_ : i < bs.length), ∃ a' c', xs[i]? = some (.slice a' bs[i].length c') ∧ ByR w D a' bs[i] := by
  obtain ⟨a, c, rfl, h⟩ := h
  refine ⟨a, c, rfl, ?_⟩
  obtain ⟨f, hf⟩ := choose_lt (α := Value) (p := fun i u => ∃ hi : i < bs.length, ∃ g off, a = some ⟨g, off, none⟩ ∧ ∃ a' c', u = .slice a' bs[i].length c' ∧ w.cell? ⟨g, off + i, none⟩ = some u ∧ ByR w D a' bs[i]) (n := bs.length) (fun i hi => by
    obtain ⟨g, off, ha, _, _, a', c', h1, h2⟩ := h i hi
    exact ⟨_, hi, g, off, ha, a', c', rfl, h1, h2⟩)
  refine ⟨(List.range bs.length).map f, by simp, fun ad had j u hj => ?_, fun u hu => ?_, fun hn => ?_, fun i hi => ?_⟩
  · rw [List.getElem?_map] at hj
    by_cases hjl : j < bs.length
    · rw [List.getElem?_range hjl] at hj
      simp at hj
      subst hj
      obtain ⟨_, g, off, ha, a', c', _, h1, _⟩ := hf j hjl
      rw [ha] at had
      simp at had
      subst had
      rw [show (⟨g, off, none⟩ : Addr).add j = ⟨g, off + j, none⟩ by unfold Addr.add; split <;> simp_all]
      exact h1
    · rw [List.getElem?_eq_none (by simp; omega)] at hj
      simp at hj
  · obtain ⟨i, hi, rfl⟩ := List.mem_map.1 hu
    obtain ⟨_, g, off, ha, a', c', h0, _, _⟩ := hf i (by simpa using hi)
    rw [h0]; rfl
  · match bs, h with
    | [], _ => rfl
    | e :: t, h => obtain ⟨g, off, ha, _⟩ := h 0 (by simp); rw [hn] at ha; cases ha
  · obtain ⟨_, g, off, ha, a', c', h0, _, h2⟩ := hf i hi
    exact ⟨a', c', by rw [List.getElem?_map, List.getElem?_range hi]; simp [h0], h2⟩
/-- A slice of bodies in a block of its own; the bodies lie in D. -/
def BsO (w : World) (B : Nat) (D : Nat → Prop) (v : Value) (bs : List (List Int)) : Prop :=
  ∃ xs : List Value, w.ownsRow B 22 1 v bs.length xs ∧ ∀ i (_ : i < bs.length), ∃ a c, xs[i]? = some (.slice a bs[i].length c) ∧ ByR w D a bs[i]
theorem BsO.row {w : World} {B : Nat} {D : Nat → Prop} {v : Value} {bs : List (List Int)} (h : BsO w B D v bs) : BsR w (fun x => D x ∨ B ≤ x) v bs := by
  obtain ⟨xs, ⟨hl, ho⟩, hx⟩ := h
  rcases ho with ⟨rfl, h0⟩ | ⟨g, cap, cur, rfl, hb, hg, _, _, _, ht⟩
  · exact ⟨none, 0, by rw [h0], fun i hi => by omega⟩
  · refine ⟨_, cap, rfl, fun i hi => ?_⟩
    obtain ⟨a, c, h1, h2⟩ := hx i hi
    refine ⟨g, 0, rfl, lt_of_blk hg, .inr hb, a, c, ?_, h2.mono (fun _ _ => .inl)⟩
    rw [Nat.zero_add]
    refine blk_cell hg ?_
    have h3 : (cur.toList.take (bs.length * 1))[i]? = xs[i]? := by rw [ht]
    rw [List.getElem?_take, if_pos (by omega), Array.getElem?_toList] at h3
    rw [h3, h1]
theorem info22 : (Try.prog.info? 22).map (fun i => (i.zero, i.size, i.bytes)) = some (some (.slice none 0 0), 1, 24) := by kernel_rfl
theorem BsR.grownv {w w1 : World} {D : Nat → Prop} {bs : List (List Int)} {xs : List Value} {v : Value} {B n : Nat} {ys : List Value} (h : ∀ i (_ : i < bs.length), ∃ a c, xs[i]? = some (.slice a bs[i].length c) ∧ ByR w D a bs[i]) (hown : w.ownsRow B 22 1 v n ys) (hB : ∀ y, D y → y < w.heap.size → y < B) (hg : w.grownBy w1 v.ownBlock) :
    ∀ i (_ : i < bs.length), ∃ a c, xs[i]? = some (.slice a bs[i].length c) ∧ ByR w1 D a bs[i] := by
  intro i hi
  obtain ⟨a, c, h1, h2⟩ := h i hi
  refine ⟨a, c, h1, fun k hk => ?_⟩
  obtain ⟨b, off, e1, e2, e3, e4⟩ := h2 k hk
  refine ⟨b, off, e1, e2, Nat.lt_of_lt_of_le e3 hg.size, ?_⟩
  have : w1.heap[b]? = w.heap[b]? := hg.block b e3 (fun e => by have := (hown.lt b e.symm).1; have := hB b e2 e3; omega)
  unfold World.cell? at e4 ⊢
  rw [this]; exact e4
/-- 'append(k, l...)' onto a fresh row. -/
theorem wpList_append_bs {w : World} {ops : Array Oper} {rest : List Oper} {o : Oper} {a : Act} {Q : Exit → Act → World → Prop} (hg : o.guard = none) (s x : Operand)
    (ho : o.op = Op.call { callee := Callee.builtin Builtin.append, args := #[s, x], argTypes := #[42, 42] }) (base : Nat) (v : Value) (hv : a.eval s = v) (hown : w.ownsRow base 22 1 v 0 [])
    (D : Nat → Prop) (vb : Value) (bs : List (List Int)) (hx : a.eval x = vb) (he : BsR w D vb bs) (hn : bs.length ≤ 1000000) (hbase : base ≤ w.heap.size) (hD : ∀ y, D y → y < w.heap.size → y < base)
    (h : ∀ (v' : Value) (w' : World), BsO w' base D v' bs → w.grownBy w' v.ownBlock → wpList Try.prog ops Q rest (a.put o.dst v') w') : wpList Try.prog ops Q (o :: rest) a w := by
  obtain ⟨i1, hi, hz0, hz1, hz2⟩ := info_parts info22
  obtain ⟨ab, cb, rfl, xs, hxl, hnews, hone, hnil, hat⟩ := he.cells
  cases ab with
  | none =>
    have := hnil rfl
    subst this
    have hxs : xs = [] := List.length_eq_zero_iff.1 hxl
    subst hxs
    refine wpList_plain hg fun K hK => ?_
    have hrun : (Builtin.append_ #[42, 42] o.type #[v, .slice none 0 cb]).run Try.prog w = .ok v w := by
      rcases hown.2 with ⟨rfl, _⟩ | ⟨g, cap, cur, rfl, _, _, hnc, _⟩
      · simp [Builtin.append_, run_underlying Try.underlying42, sizeOf, typeInfo, hi, Builtin.lenOf, Builtin.firstCells]
      · simp [Builtin.append_, run_underlying Try.underlying42, sizeOf, typeInfo, hi, Builtin.lenOf, Builtin.firstCells, storeCells]
    simp only [List.length_nil] at hx
    have h' := h v w ⟨[], by simpa using hown, fun i hi => by simp at hi⟩ ⟨rfl, rfl, rfl, Nat.le_refl _, fun _ _ _ => rfl⟩
    unfold Oper.wp
    simp [execOp, ho, resolve, invoke, builtin, hv, hx, hrun, Result.andThen]
    exact hK _ _ h'
  | some ad =>
    refine wpList_append_own _ hg s x 42 ho base 22 i1 (.slice none 0 0) 1 24 Try.underlying42 hi hz0 hz1 hz2 rfl (by decide) v 0 [] hv hown ad bs.length cb xs hx (by omega) (hnews ad rfl) hone ?_ ?_ hbase ?_
    · unfold maxLen; omega
    · omega
    · intro v' w' h1 h2 _
      exact h v' w' ⟨xs, by simpa using h1, BsR.grownv hat hown hD h2⟩ h2

theorem own_slice {w : World} {B e n : Nat} {v : Value} {xs : List Value} (h : w.ownsRow B e 1 v n xs) : ∃ a c, v = .slice a n c := by
  obtain ⟨_, h⟩ := h
  rcases h with ⟨rfl, rfl⟩ | ⟨g, cap, cur, rfl, _⟩
  · exact ⟨_, _, rfl⟩
  · exact ⟨_, _, rfl⟩
/-- The reference's link. -/
structure Rl where
  c : Int
  e : Int
  b : Int
  v : Bool
  bs : List (List Int)
  known : Int
  heard : Int
def Rl.val (k : Rl) (vb : Value) : Value := .agg #[.int .i64 k.c, .int .i64 k.e, .int .i64 k.b, .bool k.v, vb, .int .i64 k.known, .int .i64 k.heard]
def Rl.pushE (k : Rl) (l : List Int) : Int := if 700 < l.length then 101 else if 16777215 ≤ k.bs.length then 112 else if 8 ≤ (k.bs.length : Int) - k.known then 111 else 0
def Rl.push (k : Rl) (l : List Int) : Rl := if k.pushE l = 0 then { k with bs := k.bs ++ [l] } else k

set_option maxRecDepth 100000 in
set_option maxHeartbeats 8000000 in
theorem rpush_c {w : World} {D E : Nat → Prop} {k : Rl} {vb : Value} (h : BsR w D vb k.bs) (hD : ∀ y, D y → y < w.heap.size) (hkn : -1000000000 ≤ k.known ∧ k.known ≤ 1000000000) (hbl : k.bs.length ≤ 1000000) (a : Option Addr) (l : List Int) (cap : Nat) (hl : l.length ≤ 140737488351232) (hr : ByR w E a l) :
    Calls Try.prog 18 #[k.val vb, .slice a l.length cap] w fun e w' => ∃ vb', RetK noB (.tuple #[(k.push l).val vb', .int .i64 (k.pushE l)]) w e w' ∧ BsR w' (fun y => D y ∨ (w.heap.size ≤ y ∧ y < w'.heap.size)) vb' (k.push l).bs := by
  obtain ⟨kc, ke, kb, kv, bs, kn, kh⟩ := k
  obtain ⟨ab, cb, rfl⟩ := h.slice
  unfold Rl.push Rl.val
  simp only at h hkn hbl ⊢
  have hkA : Keeps noB w (w.alloc (.cells #[.int .i64 kc, .int .i64 ke, .int .i64 kb, .bool kv, .slice ab bs.length cb, .int .i64 kn, .int .i64 kh] 47)) := (Keeps.refl _ _).alloc _
  by_cases h1 : 700 < l.length
  · have d1 : decide ((l.length : Int) > 700) = true := decide_eq_true (by omega)
    have hp : Rl.pushE ⟨kc, ke, kb, kv, bs, kn, kh⟩ l = 101 := by unfold Rl.pushE; rw [if_pos h1]
    rw [hp]
    simp only [show ¬ (101 : Int) = 0 by omega, if_false]
    go_enter Try.func18, Try.ntmps18
    go_wp2_with fail
    refine bodyPost_ret (results_row_tmp (fn := Try.f18) Try.results18 _ _ _ 47 _ (0, 0) _ rfl (heap_alloc2_new _ _ _) Try.underlying47 rfl (by kernel_rfl)) rfl ?_
    exact ⟨_, ⟨rfl, hkA.alloc _⟩, (h.no (hkA.alloc _)).mono (fun y _ hy => .inl hy)⟩
  have d1 : decide ((l.length : Int) > 700) = false := decide_eq_false (by omega)
  have d2 : decide ((bs.length : Int) ≥ 16777215) = false := decide_eq_false (by omega)
  by_cases h3 : 8 ≤ (bs.length : Int) - kn
  · have d3 : decide ((bs.length : Int) - kn ≥ 8) = true := decide_eq_true h3
    have hp : Rl.pushE ⟨kc, ke, kb, kv, bs, kn, kh⟩ l = 111 := by unfold Rl.pushE; rw [if_neg h1, if_neg (by show ¬ 16777215 ≤ bs.length; omega), if_pos h3]
    rw [hp]
    simp only [show ¬ (111 : Int) = 0 by omega, if_false]
    go_enter Try.func18, Try.ntmps18
    go_wp2_with fail
    refine bodyPost_ret (results_row_tmp (fn := Try.f18) Try.results18 _ _ _ 47 _ (0, 0) _ rfl (heap_alloc2_new _ _ _) Try.underlying47 rfl (by kernel_rfl)) rfl ?_
    exact ⟨_, ⟨rfl, hkA.alloc _⟩, (h.no (hkA.alloc _)).mono (fun y _ hy => .inl hy)⟩
  · have d3 : decide ((bs.length : Int) - kn ≥ 8) = false := decide_eq_false h3
    have hp : Rl.pushE ⟨kc, ke, kb, kv, bs, kn, kh⟩ l = 0 := by unfold Rl.pushE; rw [if_neg h1, if_neg (by show ¬ 16777215 ≤ bs.length; omega), if_neg h3]
    rw [hp]
    simp only [if_true]
    have H := Lib.hid h
    have HR := Lib.hid hr
    have hs0 := hkA.size
    clear h hr
    have hkB : Keeps noB w ((w.alloc (.cells #[.int .i64 kc, .int .i64 ke, .int .i64 kb, .bool kv, .slice ab bs.length cb, .int .i64 kn, .int .i64 kh] 47)).alloc (.cells #[.int .i64 0, .int .i64 0, .int .i64 0, .bool false, .slice none 0 0, .int .i64 0, .int .i64 0] 47)) := hkA.alloc _
    have hP : ((w.alloc (.cells #[.int .i64 kc, .int .i64 ke, .int .i64 kb, .bool kv, .slice ab bs.length cb, .int .i64 kn, .int .i64 kh] 47)).alloc (.cells #[.int .i64 0, .int .i64 0, .int .i64 0, .bool false, .slice none 0 0, .int .i64 0, .int .i64 0] 47)).heap[w.heap.size]? = some (.cells #[.int .i64 kc, .int .i64 ke, .int .i64 kb, .bool kv, .slice ab bs.length cb, .int .i64 kn, .int .i64 kh] 47 (0, 0)) := heap_alloc2_old _ _ _
    have hZ := heap_alloc2_new w (.cells #[.int .i64 kc, .int .i64 ke, .int .i64 kb, .bool kv, .slice ab bs.length cb, .int .i64 kn, .int .i64 kh] 47) (.cells #[.int .i64 0, .int .i64 0, .int .i64 0, .bool false, .slice none 0 0, .int .i64 0, .int .i64 0] 47)
    have hsB : ((w.alloc (.cells #[.int .i64 kc, .int .i64 ke, .int .i64 kb, .bool kv, .slice ab bs.length cb, .int .i64 kn, .int .i64 kh] 47)).alloc (.cells #[.int .i64 0, .int .i64 0, .int .i64 0, .bool false, .slice none 0 0, .int .i64 0, .int .i64 0] 47)).heap.size = w.heap.size + 2 := by rw [alloc_size, alloc_size]
    have HP := Lib.hid hP
    have HZ := Lib.hid hZ
    have HSB := Lib.hid hsB
    have HKB := Lib.hid hkB
    clear hP hZ hsB hkB hkA
    go_enter Try.func18, Try.ntmps18
    go_upto_region 7 with fail
    generalize (w.alloc (.cells #[.int .i64 kc, .int .i64 ke, .int .i64 kb, .bool kv, .slice ab bs.length cb, .int .i64 kn, .int .i64 kh] 47)).alloc (.cells #[.int .i64 0, .int .i64 0, .int .i64 0, .bool false, .slice none 0 0, .int .i64 0, .int .i64 0] 47) = wB at *
    have p4 := blk_cell (((Keeps.refl noB wB).alloc (.cells #[] 22)).blk HP.out (noB_not _)) (i := 4) rfl
    have hown0 : (wB.alloc (.cells #[] 22)).ownsRow wB.heap.size 22 1 (.slice (some ⟨wB.heap.size, 0, none⟩) 0 0) 0 [] := ⟨rfl, .inr ⟨wB.heap.size, 0, #[], rfl, Nat.le_refl _, heap_alloc_new _ _, Nat.le_refl _, Nat.zero_le _, rfl, rfl⟩⟩
    have hC := (H.out.no HKB.out).no ((Keeps.refl noB wB).alloc (.cells #[] 22))
    go_wp2_with (at_builtin; refine wpList_append_bs rfl _ _ rfl wB.heap.size _ rfl hown0 D _ bs rfl hC hbl (by rw [alloc_size]; omega) (fun y hy hlt => by have := hD y hy; have := HKB.out.size; omega) ?_)
    intro v2 w2 hO2 hg2
    have hk2 : Keeps noB wB w2 := ((Keeps.refl noB wB).alloc _).own hown0 (Nat.le_refl _) hg2
    obtain ⟨xs, hO2, hx2⟩ := hO2
    clear hown0 hC hg2
    have hr2 := (((HR.out.keep HKB.out (fun b _ => noB_not b)).keep hk2 (fun b _ => noB_not b)).keep ((Keeps.refl noB w2).alloc (.cells #[] 5)) (fun b _ => noB_not b))
    go_wp2_with (at_builtin; refine wpList_append_by rfl _ _ rfl w2.heap.size _ _ _ rfl (own_bytes0 w2) a l cap _ rfl hr2 (by omega) (by rw [alloc_size]; omega) ?_)
    intro v3 w3 h3 g3
    obtain ⟨hk3, a3, c3, rfl, hO3⟩ := copy_own (by simpa using h3) g3
    clear h3 g3 hr2
    have hk4 : Keeps noB w2 (w3.alloc (.cells #[.slice a3 l.length c3] 22)) := hk3.alloc _
    have hown4 := own_keep_no hO2 hk4
    obtain ⟨i1, hi, hz0, hz1, hz2⟩ := info_parts info22
    go_wp2_with (at_builtin; refine wpList_append1 rfl _ _ 42 rfl wB.heap.size 22 i1 (.slice none 0 0) 1 24 Try.underlying42 hi hz0 hz1 hz2 rfl (by decide) v2 bs.length xs rfl hown4 w3.heap.size 1 [.slice a3 l.length c3] 22 (0, 0) rfl (heap_alloc_new w3 _) rfl rfl (by omega) (by decide) (by have := hk2.size; have := hk4.size; omega) ?_)
    intro v4 w4 h4 g4
    have hkv : Keeps (fun y => v2.ownBlock = some y) (w3.alloc (.cells #[.slice a3 l.length c3] 22)) w4 := (Keeps.refl _ _).grown g4 (fun k hk => .inr hk)
    have hk24 : Keeps (fun y => wB.heap.size ≤ y) w2 w4 := hk4.of_no.grown g4 (fun k hk => .inr (hown4.lt k hk).1)
    have hv2 := fun k hk => (hO2.lt k hk).2
    have hk5 : Keeps (fun y => wB.heap.size ≤ y) wB w4 := (hk2.trans_no hk4).of_no.grown g4 (fun k hk => .inr (hown4.lt k hk).1)
    have hP4 := hk5.blk HP.out (by have := HSB.out; omega)
    have hZ4 := hk5.blk HZ.out (by have := HSB.out; omega)
    have m4 := blk_cell hP4 (i := 4) rfl
    have f4 := blk_free hP4 4
    obtain ⟨a4, c4, rfl⟩ := own_slice h4
    have hP5 := heap_setCell_same w4 w.heap.size 4 (.slice a4 (bs.length + 1) c4) hP4
    have hZ5 : (w4.setCell ⟨w.heap.size, 4, none⟩ (.slice a4 (bs.length + 1) c4)).heap[w.heap.size + 1]? = _ := (heap_setCell_ne w4 ⟨w.heap.size, 4, none⟩ _ _ (by show w.heap.size + 1 ≠ w.heap.size; omega)).trans hZ4
    have hxl : xs.length = bs.length := by have := hO2.1; omega
    have hsz2 := hk2.size
    have HH := Lib.hid (And.intro h4 (And.intro hk5 (And.intro hx2 (And.intro hO3 (And.intro hkv (And.intro hk24 (And.intro hv2 (And.intro hxl hsz2))))))))
    clear h4 hk5 hx2 hO3 hO2 hown4 g4 hkv hk24 hv2 hxl hsz2
    go_upto_region 9 with fail
    have hk6 := HH.out.2.1.setCell ⟨w.heap.size, 4, none⟩ (.slice a4 (bs.length + 1) c4)
    go_wp2_with (first | refine wpList_load_row rfl 47 _ rfl w.heap.size rfl 47 _ (0, 0) _ hP5 Try.underlying47 rfl (by kernel_rfl) ?_ | refine wpList_store_row rfl 47 _ _ rfl (w.heap.size + 1) #[.int .i64 kc, .int .i64 ke, .int .i64 kb, .bool kv, .slice a4 (bs.length + 1) c4, .int .i64 kn, .int .i64 kh] rfl rfl 47 _ hZ5 (by kernel_rfl) rfl (by kernel_rfl) ?_)
    refine bodyPost_ret (results_row_tmp (fn := Try.f18) Try.results18 _ _ _ 47 _ (0, 0) _ rfl (setRow_heap _ _ _ _ _ _ hZ5) Try.underlying47 rfl (by kernel_rfl)) rfl ?_
    obtain ⟨h4, hk5, hx2, hO3, hkv, hk24, hv2, hxl, hsz2⟩ := HH.out
    have hkW : Keeps (fun y => y = w.heap.size ∨ y = w.heap.size + 1) w4 ((w4.setCell ⟨w.heap.size, 4, none⟩ (.slice a4 (bs.length + 1) c4)).setRow (w.heap.size + 1) #[.int .i64 kc, .int .i64 ke, .int .i64 kb, .bool kv, .slice a4 (bs.length + 1) c4, .int .i64 kn, .int .i64 kh]) :=
      ((Keeps.refl _ _).setCell _ _ (.inl (.inl rfl))).setRow _ _ (.inl (.inr rfl))
    have hkF : Keeps noB w ((w4.setCell ⟨w.heap.size, 4, none⟩ (.slice a4 (bs.length + 1) c4)).setRow (w.heap.size + 1) #[.int .i64 kc, .int .i64 ke, .int .i64 kb, .bool kv, .slice a4 (bs.length + 1) c4, .int .i64 kn, .int .i64 kh]) :=
      ((HKB.out.trans hk5 (F := noB) (G := fun y => wB.heap.size ≤ y) (fun y hy h => by have := HSB.out; omega)).trans hkW (fun y hy h => by omega))
    have hO4 : BsO w4 wB.heap.size (fun y => D y ∨ w2.heap.size ≤ y) (.slice a4 (bs.length + 1) c4) (bs ++ [l]) := by
      refine ⟨xs ++ [.slice a3 l.length c3], by simpa using h4, fun i hi => ?_⟩
      by_cases e : i < bs.length
      · obtain ⟨a', c', g1, g2⟩ := hx2 i e
        refine ⟨a', c', ?_, ?_⟩
        · rw [List.getElem?_append_left (by omega), List.getElem_append_left e]; exact g1
        · rw [List.getElem_append_left e]
          exact (g2.keep hk24 (fun b hb h => by have := hD b hb; have := HSB.out; omega)).mono (fun _ _ => .inl)
      · have : i = bs.length := by simp at hi; omega
        subst this
        refine ⟨a3, c3, ?_, ?_⟩
        · rw [List.getElem?_append_right (by omega), hxl]; simp
        · have := (hO3.byr.keep ((Keeps.refl noB w3).alloc (.cells #[.slice a3 l.length c3] 22)) (fun b _ => noB_not b)).keep hkv (fun b hb h => by have := hv2 b h; omega)
          simpa using this.mono (fun _ _ => .inr)
    refine ⟨.slice a4 (bs.length + 1) c4, ⟨rfl, hkF⟩, ?_⟩
    refine (hO4.row.keep hkW (fun b hb h => ?_)).mono (fun b hlt hb => ?_)
    · have := HSB.out
      rcases hb with (hb | hb) | hb
      · have := hD b hb; omega
      · omega
      · omega
    · have := HSB.out
      rcases hb with (hb | hb) | hb
      · exact .inl hb
      · exact .inr ⟨by omega, hlt⟩
      · exact .inr ⟨by omega, hlt⟩
end Go.Proofs.Ytoeikgaikdbpbaa
