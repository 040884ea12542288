/- LinkRuns: whatever is done with a link: all answers, and what is under way: the law answers true at every input. No condition. -/
import Derived.Test.YtoeikgaikdbpbaaLkRel
import Derived.Deep.RegionHeld3
namespace Go.Proofs.Ytoeikgaikdbpbaa
open Go.RowKit

/-- The reference's link in memory. -/
def rcells (r : Rl) (vb : Value) : Array Value := #[.int .i64 r.c, .int .i64 r.e, .int .i64 r.b, .bool r.v, vb, .int .i64 r.known, .int .i64 r.heard]
theorem rval (r : Rl) (vb : Value) : r.val vb = .agg (rcells r vb) := rfl
structure RunI (w wr : World) (p bw n : Nat) (S D : Nat → Prop) (k : Lk) (vi : Value) (r : Rl) (vb : Value) (kn : Nat) : Prop where
  kp : Keeps noB w wr
  lk : LkAt wr S p k vi
  lo : ∀ y, S y → w.heap.size ≤ y ∧ y ≠ bw
  bs : BsR wr D vb r.bs
  dl : ∀ y, D y → y < wr.heap.size
  ds : ∀ y, D y → ¬ S y ∧ y ≠ bw
  wv : wr.heap[bw]? = some (.cells (rcells r vb) 47 (0, 0))
  wlo : w.heap.size ≤ bw
  rel : Rel k r kn
  few : r.bs.length ≤ n
theorem RunI.no {w wr w1 : World} {p bw n : Nat} {S D : Nat → Prop} {k : Lk} {vi : Value} {r : Rl} {vb : Value} {kn : Nat} (h : RunI w wr p bw n S D k vi r vb kn) (hk : Keeps noB wr w1) : RunI w w1 p bw n S D k vi r vb kn :=
  ⟨h.kp.trans_no hk, h.lk.no hk, h.lo, h.bs.no hk, fun y hy => Nat.lt_of_lt_of_le (h.dl y hy) hk.size, h.ds, hk.blk h.wv (noB_not _), h.wlo, h.rel, h.few⟩
/-- Blocks have changed that aren't its own. -/
theorem RunI.far {w wr w1 : World} {p bw n : Nat} {S D F : Nat → Prop} {k : Lk} {vi : Value} {r : Rl} {vb : Value} {kn : Nat} (h : RunI w wr p bw n S D k vi r vb kn) (hk : Keeps F wr w1) (hF : ∀ y, F y → w.heap.size ≤ y ∧ ¬ S y ∧ ¬ D y ∧ y ≠ bw) : RunI w w1 p bw n S D k vi r vb kn :=
  ⟨h.kp.trans hk (fun y hy e => by have := (hF y e).1; omega), h.lk.keep hk (fun x hx e => (hF x e).2.1 hx), h.lo, h.bs.keep hk (fun x hx e => (hF x e).2.2.1 hx), fun y hy => Nat.lt_of_lt_of_le (h.dl y hy) hk.size, h.ds, hk.blk h.wv (fun e => (hF _ e).2.2.2 rfl), h.wlo, h.rel, h.few⟩
theorem RunI.pushed {w w3 w4 w5 : World} {p bw n n5 : Nat} {S D S4 : Nat → Prop} {k k4 : Lk} {vi vi4 : Value} {r r5 : Rl} {vb vb5 : Value} {kn kn5 : Nat} (h : RunI w w3 p bw n S D k vi r vb kn) (hk4 : Keeps S w3 w4) (hS2 : ∀ y, S4 y → S y ∨ w3.heap.size ≤ y) (hl4 : LkAt w4 S4 p k4 vi4) (hk5 : Keeps noB w4 w5)
    (hb5 : BsR w5 (fun y => D y ∨ (w4.heap.size ≤ y ∧ y < w5.heap.size)) vb5 r5.bs) (hrel : Rel k4 r5 kn5) (hfew : r5.bs.length ≤ n5) : RunI w (w5.setRow bw (rcells r5 vb5)) p bw n5 S4 (fun y => D y ∨ (w4.heap.size ≤ y ∧ y < w5.heap.size)) k4 vi4 r5 vb5 kn5 := by
  have hbw3 := lt_of_blk h.wv
  have hW5 := hk5.blk (hk4.blk h.wv (fun e => (h.lo _ e).2 rfl)) (noB_not _)
  have hS4bw : ∀ y, S4 y → w.heap.size ≤ y ∧ y ≠ bw := fun y hy => by
    rcases hS2 y hy with g | g
    · exact h.lo y g
    · have := h.kp.size; exact ⟨by omega, by omega⟩
  have hkr : Keeps (oneB bw) w5 (w5.setRow bw (rcells r5 vb5)) := (Keeps.refl _ _).setRow _ _ (.inl rfl)
  have hs4 := hk4.size
  have hs5 := hk5.size
  have hDbw : ∀ y, (D y ∨ (w4.heap.size ≤ y ∧ y < w5.heap.size)) → y ≠ bw := fun y hy => by
    rcases hy with hy | hy
    · exact (h.ds y hy).2
    · omega
  refine ⟨?_, (hl4.no hk5).keep hkr (fun x hx e => (hS4bw x hx).2 e), hS4bw, hb5.keep hkr (fun b hb e => hDbw b hb e), fun y hy => ?_, fun y hy => ⟨fun hS => ?_, hDbw y hy⟩, setRow_heap _ _ _ _ _ _ hW5, h.wlo, hrel, hfew⟩
  · exact ((h.kp.trans hk4 (fun y hy e => by have := (h.lo y e).1; omega)).trans_no hk5).trans hkr (fun y hy e => by unfold oneB at e; subst e; have := h.wlo; omega)
  · rw [setRow_size]
    rcases hy with hy | hy
    · have := h.dl y hy; omega
    · exact hy.2
  · rcases hy with hy | hy
    · rcases hS2 y hS with g | g
      · exact (h.ds y hy).1 g
      · have := h.dl y hy; omega
    · have := hl4.lt y hS; omega
/-- What the cells of an act are. -/
def QA (w : World) (f : Nat → Value) : Prop := IsI (f 0) ∧ IsByS w (f 1) ∧ IsI (f 2) ∧ IsI (f 3) ∧ IsI (f 4) ∧ IsI (f 5) ∧ IsI (f 6) ∧ IsB (f 7) ∧ IsByS w (f 8)
set_option maxRecDepth 100000 in
set_option maxHeartbeats 16000000 in
theorem linkRuns_w (x0 x1 x2 x3 x4 x5 x6 : Value) (a : Option Addr) (len cap : Nat) (g : Nat → Nat → Value) (w : World) (q0 : IsI x0) (q1 : IsI x1) (q2 : IsI x2) (q3 : IsI x3) (q4 : IsI x4) (q5 : IsB x5) (q6 : IsByS w x6)
    (hl : len ≤ maxLen) (hr : RdS w 9 a len g) (hq : ∀ k, k < len → QA w (g k)) :
    Calls Try.prog 7 #[.agg #[x0, x1, x2, x3, x4, x5, x6], .slice a len cap] w (RetK noB (.bool true) w) := by
  unfold maxLen at hl
  obtain ⟨hc, rfl, hc1, hc2⟩ := q0
  obtain ⟨he, rfl, he1, he2⟩ := q1
  obtain ⟨hb, rfl, hb1, hb2⟩ := q2
  obtain ⟨hs, rfl, _, _⟩ := q3
  obtain ⟨hk, rfl, _, _⟩ := q4
  obtain ⟨hv, rfl⟩ := q5
  obtain ⟨xa, xl, xc, rfl, _, _, _⟩ := q6.read
  clear q6
  have HQ := Lib.hid hq
  clear hq
  obtain ⟨wA, hwA⟩ : ∃ wA, wA = w.alloc (.cells #[.int .i64 hc, .int .i64 he, .int .i64 hb, .int .i64 hs, .int .i64 hk, .bool hv, .slice xa xl.length xc] 24) := ⟨_, rfl⟩
  have hkA : Keeps noB w wA := by rw [hwA]; exact (Keeps.refl _ _).alloc _
  have hX : wA.heap[w.heap.size]? = some (.cells #[.int .i64 hc, .int .i64 he, .int .i64 hb, .int .i64 hs, .int .i64 hk, .bool hv, .slice xa xl.length xc] 24 (0, 0)) := by rw [hwA]; exact heap_alloc_new _ _
  have HX := Lib.hid hX
  have HRD := Lib.hid hr
  clear hr hX
  go_enter Try.func7, Try.ntmps7
  go_upto_region 1 with fail
  rw [← hwA]
  clear hwA
  go_upto_region 3 with (go_at_call 9; refine (linkAlive_c wA).mono ?_; rintro e w1 ⟨rfl, hk1⟩)
  have hX1 := hk1.blk HX.out (noB_not _)
  have u0 := blk_cell hX1 (i := 0) rfl
  have u1 := blk_cell hX1 (i := 1) rfl
  have u2 := blk_cell hX1 (i := 2) rfl
  have u5 := blk_cell hX1 (i := 5) rfl
  have HX1 := Lib.hid hX1
  clear hX1
  by_cases z0 : len > 100
  · have t0 : decide ((len : Int) > 100) = true := decide_eq_true (by omega)
    go_wp2_with fail
    go_ret
    exact ⟨rfl, hkA.trans_no hk1⟩
  have t0 : decide ((len : Int) > 100) = false := decide_eq_false (by omega)
  by_cases z1 : hc < 0
  · have t1 : decide (hc < 0) = true := decide_eq_true (by omega)
    go_wp2_with fail
    go_ret
    exact ⟨rfl, hkA.trans_no hk1⟩
  have t1 : decide (hc < 0) = false := decide_eq_false (by omega)
  by_cases z2 : hc > 3
  · have t2 : decide (hc > 3) = true := decide_eq_true (by omega)
    go_wp2_with fail
    go_ret
    exact ⟨rfl, hkA.trans_no hk1⟩
  have t2 : decide (hc > 3) = false := decide_eq_false (by omega)
  by_cases z3 : he < 0
  · have t3 : decide (he < 0) = true := decide_eq_true (by omega)
    go_wp2_with fail
    go_ret
    exact ⟨rfl, hkA.trans_no hk1⟩
  have t3 : decide (he < 0) = false := decide_eq_false (by omega)
  by_cases z4 : he > 16777215
  · have t4 : decide (he > 16777215) = true := decide_eq_true (by omega)
    go_wp2_with fail
    go_ret
    exact ⟨rfl, hkA.trans_no hk1⟩
  have t4 : decide (he > 16777215) = false := decide_eq_false (by omega)
  by_cases z5 : hb < 0
  · have t5 : decide (hb < 0) = true := decide_eq_true (by omega)
    go_wp2_with fail
    go_ret
    exact ⟨rfl, hkA.trans_no hk1⟩
  have t5 : decide (hb < 0) = false := decide_eq_false (by omega)
  by_cases z6 : hb > 16777215
  · have t6 : decide (hb > 16777215) = true := decide_eq_true (by omega)
    go_wp2_with fail
    go_ret
    exact ⟨rfl, hkA.trans_no hk1⟩
  have t6 : decide (hb > 16777215) = false := decide_eq_false (by omega)
  have hsz1 := hk1.size
  go_wp2_with fail
  refine (new_c hc he hb hv w1).mono ?_
  rintro e w2 ⟨⟨rfl, hk2⟩, hs2, ha2⟩
  have HS2 := Lib.hid hs2
  have HA2 := Lib.hid ha2
  have hX2 := hk2.blk HX1.out (noB_not _)
  clear hs2 u0 u1 u2 u5 ha2
  have u0 := blk_cell hX2 (i := 0) rfl
  have u1 := blk_cell hX2 (i := 1) rfl
  have u2 := blk_cell hX2 (i := 2) rfl
  have u5 := blk_cell hX2 (i := 5) rfl
  have HX2 := Lib.hid hX2
  clear hX2
  have hI0 : RunI w (w2.alloc (.cells (rcells ⟨hc, he, hb, hv, [], 0, 0⟩ (.slice none 0 0)) 47)) w1.heap.size w2.heap.size 0 (oneB w1.heap.size) noB (newLk hc he hb hv) (.slice none 0 0) ⟨hc, he, hb, hv, [], 0, 0⟩ (.slice none 0 0) 0 := by
    have s1 := hk1.size
    have s0 := hkA.size
    have s2 := HS2.out
    have hkB : Keeps noB w2 (w2.alloc (.cells (rcells ⟨hc, he, hb, hv, [], 0, 0⟩ (.slice none 0 0)) 47)) := (Keeps.refl _ _).alloc _
    exact ⟨((hkA.trans_no hk1).trans_no hk2).trans_no hkB, HA2.out.no hkB, fun y hy => by unfold oneB at hy; omega, BsR.nil _ _ _ _, fun y hy => hy.elim, fun y hy => hy.elim, heap_alloc_new _ _, by omega, Rel.new _ _ _ _, Nat.le_refl _⟩
  have HI0 := Lib.hid hI0
  have hkA1 := hkA.trans_no hk1
  clear hI0 hk2
  go_wp2_with fail
  obtain ⟨p, hp⟩ : ∃ p, p = w1.heap.size := ⟨_, rfl⟩
  obtain ⟨bw, hbw⟩ : ∃ bw, bw = w2.heap.size := ⟨_, rfl⟩
  rw [← hp, ← hbw] at HI0
  rw [← hp, ← hbw]
  clear hp hbw HA2 HS2 u0 u1 u2 u5 HX1 HX2
  go_loopw [73] (fun i wr => ∃ n : Nat, n ≤ len ∧ i = .int .i64 n ∧ ∃ S D k vi r vb kn, RunI w wr p bw n S D k vi r vb kn)
    (fun i _ => len - (intOf i).toNat)
  case atStart => exact ⟨0, by omega, rfl, _, _, _, _, _, _, _, HI0.out⟩
  case round =>
    clear HI0
    obtain ⟨n, hn, rfl, S, D, k, vi, r, vb, kn, hI⟩ := hrel
    have HI := Lib.hid hI
    by_cases hlt : n < len
    · obtain ⟨b, off, rfl, hbl, hcc⟩ := (HRD.out.keep hI.kp) n hlt
      obtain ⟨p0, p1, p2, p3, p4, p5, p6, p7, p8⟩ := HQ.out n hlt
      obtain ⟨kd, e0, _, _⟩ := p0
      obtain ⟨da, dl, dc, e1, hdl, hdr, _⟩ := p1.read
      obtain ⟨pc, e2, _, _⟩ := p2
      obtain ⟨pe, e3, _, _⟩ := p3
      obtain ⟨pb, e4, _, _⟩ := p4
      obtain ⟨ps, e5, hps⟩ := p5
      obtain ⟨pk, e6, _, _⟩ := p6
      obtain ⟨pv, e7⟩ := p7
      obtain ⟨ya, yl, yc, e8, hyl, hyr, _⟩ := p8.read
      have c0 : wr.cell? ⟨b, off + n * 9, none⟩ = some (.int .i64 kd) := by rw [← e0]; exact hcc 0 (by omega)
      have c1 : wr.cell? ⟨b, off + n * 9 + 1, none⟩ = some (.slice da dl.length dc) := by rw [← e1, Nat.add_assoc]; exact hcc 1 (by omega)
      have c2 : wr.cell? ⟨b, off + n * 9 + 2, none⟩ = some (.int .i64 pc) := by rw [← e2, Nat.add_assoc]; exact hcc 2 (by omega)
      have c3 : wr.cell? ⟨b, off + n * 9 + 3, none⟩ = some (.int .i64 pe) := by rw [← e3, Nat.add_assoc]; exact hcc 3 (by omega)
      have c4 : wr.cell? ⟨b, off + n * 9 + 4, none⟩ = some (.int .i64 pb) := by rw [← e4, Nat.add_assoc]; exact hcc 4 (by omega)
      have c5 : wr.cell? ⟨b, off + n * 9 + 5, none⟩ = some (.int .i64 ps) := by rw [← e5, Nat.add_assoc]; exact hcc 5 (by omega)
      have c6 : wr.cell? ⟨b, off + n * 9 + 6, none⟩ = some (.int .i64 pk) := by rw [← e6, Nat.add_assoc]; exact hcc 6 (by omega)
      have c7 : wr.cell? ⟨b, off + n * 9 + 7, none⟩ = some (.bool pv) := by rw [← e7, Nat.add_assoc]; exact hcc 7 (by omega)
      have c8 : wr.cell? ⟨b, off + n * 9 + 8, none⟩ = some (.slice ya yl.length yc) := by rw [← e8, Nat.add_assoc]; exact hcc 8 (by omega)
      clear hcc e0 e1 e2 e3 e4 e5 e6 e7 e8 p1 p8 hI
      have HDR := Lib.hid hdr
      have HYR := Lib.hid hyr
      clear hdr hyr
      have hkB : Keeps noB wr (((wr.alloc (.cells #[.int .i64 kd, .slice da dl.length dc, .int .i64 pc, .int .i64 pe, .int .i64 pb, .int .i64 ps, .int .i64 pk, .bool pv, .slice ya yl.length yc] 49)).alloc (.cells #[] 5)).alloc (.cells #[] 5)) := (((Keeps.refl _ _).alloc _).alloc _).alloc _
      have hAB := (((Keeps.refl noB (wr.alloc (.cells #[.int .i64 kd, .slice da dl.length dc, .int .i64 pc, .int .i64 pe, .int .i64 pb, .int .i64 ps, .int .i64 pk, .bool pv, .slice ya yl.length yc] 49))).alloc (.cells #[] 5)).alloc (.cells #[] 5)).blk (heap_alloc_new wr _) (noB_not _)
      have hsB : (((wr.alloc (.cells #[.int .i64 kd, .slice da dl.length dc, .int .i64 pc, .int .i64 pe, .int .i64 pb, .int .i64 ps, .int .i64 pk, .bool pv, .slice ya yl.length yc] 49)).alloc (.cells #[] 5)).alloc (.cells #[] 5)).heap.size = wr.heap.size + 1 + 1 + 1 := by rw [alloc_size, alloc_size, alloc_size]
      have HB := Lib.hid (And.intro hkB (And.intro hAB hsB))
      clear hkB hAB hsB
      go_upto_region 13 with fail
      obtain ⟨bx, hbx⟩ : ∃ bx, bx = wr.heap.size + 1 := ⟨_, rfl⟩
      have HBX := Lib.hid hbx
      rw [← hbx] at HB ⊢
      clear hbx
      generalize ((wr.alloc (.cells #[.int .i64 kd, .slice da dl.length dc, .int .i64 pc, .int .i64 pe, .int .i64 pb, .int .i64 ps, .int .i64 pk, .bool pv, .slice ya yl.length yc] 49)).alloc (.cells #[] 5)).alloc (.cells #[] 5) = wB at *
      obtain ⟨bA, hbA⟩ : ∃ bA, bA = wr.heap.size := ⟨_, rfl⟩
      have HBA := Lib.hid hbA
      rw [← hbA]
      have hAc := HB.out.2.1
      rw [← hbA] at hAc
      have a0 := blk_cell hAc (i := 0) rfl
      have HAC := Lib.hid hAc
      clear hbA hAc c0 c1 c2 c3 c4 c5 c6 c7 c8
      go_upto_if 81 with fail
      go_cut [9, 10, 11, 12, 13, 14] (fun e f x y o o' wx => ∃ (E : Int) (lx : List Int) (ax ay : Option Addr) (cx cy : Nat) (Dx Dy : Nat → Prop) (ob : Bool), e = .int .i64 E ∧ f = .int .i64 E ∧ x = .slice ax lx.length cx ∧ y = .slice ay lx.length cy ∧ o = .bool ob ∧ o' = .bool ob ∧ ByR wx Dx ax lx ∧ ByR wx Dy ay lx ∧ ∃ S D k vi r vb kn, RunI w wx p bw (n + 1) S D k vi r vb kn)
      case first =>
        cases hkd : (kd == 0)
        · have a2 := blk_cell HAC.out (i := 2) rfl
          have a3 := blk_cell HAC.out (i := 3) rfl
          have a4 := blk_cell HAC.out (i := 4) rfl
          have a5 := blk_cell HAC.out (i := 5) rfl
          have a6 := blk_cell HAC.out (i := 6) rfl
          have a7 := blk_cell HAC.out (i := 7) rfl
          have a8 := blk_cell HAC.out (i := 8) rfl
          go_upto_region 23 with fail
          have hkC : Keeps noB wB (wB.alloc (.cells #[.int .i64 pc, .int .i64 pe, .int .i64 pb, .int .i64 ps, .int .i64 pk, .bool pv, .slice ya yl.length yc] 24)) := (Keeps.refl _ _).alloc _
          have hPc := heap_alloc_new wB (.cells #[.int .i64 pc, .int .i64 pe, .int .i64 pb, .int .i64 ps, .int .i64 pk, .bool pv, .slice ya yl.length yc] 24)
          have hsC : (wB.alloc (.cells #[.int .i64 pc, .int .i64 pe, .int .i64 pb, .int .i64 ps, .int .i64 pk, .bool pv, .slice ya yl.length yc] 24)).heap.size = wB.heap.size + 1 := alloc_size _ _
          generalize (wB.alloc (.cells #[.int .i64 pc, .int .i64 pe, .int .i64 pb, .int .i64 ps, .int .i64 pk, .bool pv, .slice ya yl.length yc] 24)) = wC at *
          obtain ⟨bp, hbp⟩ : ∃ bp, bp = wB.heap.size := ⟨_, rfl⟩
          rw [← hbp] at hPc ⊢
          have HBP := Lib.hid hbp
          have hkE := (Keeps.refl noB wC).alloc (.cells #[] 5)
          have p6 := blk_cell (hkE.blk hPc (noB_not _)) (i := 6) rfl
          have hyC := (((HYR.out.keep HI.out.kp (fun b _ => noB_not b)).keep HB.out.1 (fun b _ => noB_not b)).keep hkC (fun b _ => noB_not b))
          have hyE := hyC.keep hkE (fun b _ => noB_not b)
          have HPC := Lib.hid (And.intro hPc (And.intro hkC (And.intro hsC hyC)))
          clear a2 a3 a4 a5 a6 a7 a8 hPc hkC hsC hyC hbp
          go_wp2_with (at_builtin; refine wpList_append_by rfl _ _ rfl wC.heap.size _ _ _ rfl (own_bytes0 wC) ya yl yc _ rfl hyE (by omega) (by rw [alloc_size]; omega) ?_)
          intro v' w3 hown' hgrow
          obtain ⟨hk3, a3, c3, rfl, hO3⟩ := copy_own (by simpa using hown') hgrow
          obtain ⟨hPc, hkC, hsC, hyC⟩ := HPC.out
          have hP3 := hk3.blk hPc (noB_not _)
          have p6 := blk_cell hP3 (i := 6) rfl
          have f6 := blk_free hP3 6
          have hkD := (Keeps.refl (oneB bp) w3).set1 6 (.slice a3 yl.length c3)
          have hPD := heap_setCell_same w3 bp 6 (.slice a3 yl.length c3) hP3
          have hbpw := HBP.out
          have hOD := hO3.keep hkD (fun b h1 h2 e => by unfold oneB at e; omega)
          have H3 := Lib.hid (And.intro hk3 (And.intro hkD (And.intro hPD hOD)))
          clear hown' hgrow hyE hkE hk3 hkD hPD hOD hP3 hPc hkC hsC hyC hO3 hbpw
          go_upto_region 24 with fail
          obtain ⟨hk3, hkD, hPD, hOD⟩ := H3.out
          obtain ⟨hPc, hkC, hsC, hyC⟩ := HPC.out
          have hbpw := HBP.out
          have hsA := HBA.out
          have hsB := HB.out.2.2
          have hBX := HBX.out
          have hkBC := (hkC.trans_no hk3)
          have hkBD := hkBC.trans hkD (F := noB) (fun y hy e => by unfold oneB at e; omega)
          have hID := (HI.out.no HB.out.1).no hkBD
          have hsz3 : wC.heap.size ≤ (w3.setCell ⟨bp, 6, none⟩ (.slice a3 yl.length c3)).heap.size := by rw [setCell_size]; exact hk3.size
          have hyD := ((hyC.keep hk3 (fun b _ => noB_not b)).keep hkD (fun b hb e => by unfold oneB at e; have := HI.out.kp.size; omega))
          have hAD := hkBD.blk HAC.out (noB_not _)
          generalize w3.setCell ⟨bp, 6, none⟩ (.slice a3 yl.length c3) = wD at *
          have q0 := blk_cell hPD (i := 0) rfl
          have q1 := blk_cell hPD (i := 1) rfl
          have q2 := blk_cell hPD (i := 2) rfl
          have q3 := blk_cell hPD (i := 3) rfl
          have q4 := blk_cell hPD (i := 4) rfl
          have q5 := blk_cell hPD (i := 5) rfl
          have q6 := blk_cell hPD (i := 6) rfl
          have hSA : ∀ y, S y → y < bA := fun y hy => by rw [HBA.out]; exact HI.out.lk.lt y hy
          have hG := got_b hID.lk ⟨pc, pe, pb, ps, pk, pv, yl⟩ (fun y => wC.heap.size ≤ y) (fun y hy hS => by have := hSA y hS; omega) a3 c3 hyl hOD.byr hps
          simp only at hG
          have htk := hID.rel.takes ⟨pc, pe, pb, ps, pk, pv, yl⟩
          obtain ⟨kn5, hgr⟩ := hID.rel.got ⟨pc, pe, pb, ps, pk, pv, yl⟩
          rw [htk] at hG
          have hgl : gotL k ⟨pc, pe, pb, ps, pk, pv, yl⟩ = if r.takes ⟨pc, pe, pb, ps, pk, pv, yl⟩ then yl else [] := by unfold gotL; rw [htk]
          rw [hgl] at hG
          have H4 := Lib.hid (And.intro hID (And.intro hyD (And.intro hAD (And.intro hSA (And.intro hgr hsz3)))))
          clear hk3 hkD hPD hOD hPc hkC hsC hyC hkBC hkBD hID hyD hAD hSA htk hgl hgr p6 f6 hsz3 hbpw hsA hsB hBX
          go_wp2_with fail
          refine hG.mono ?_
          rintro e w4 ⟨a9, c9, ⟨rfl, hk4⟩, ⟨vi4, hl4⟩, hO9⟩
          clear hG q0 q1 q2 q3 q4 q5 q6
          obtain ⟨hID, hyD, hAD, hSA, hgr, hsz3⟩ := H4.out
          obtain ⟨va, vc, hvb⟩ := hID.bs.slice
          have hW4 := hk4.blk hID.wv (fun e => (hID.lo _ e).2 rfl)
          have hA4 := hk4.blk hAD (fun e => by have := hSA _ e; omega)
          have m0 := blk_cell hW4 (i := 0) rfl
          have m1 := blk_cell hW4 (i := 1) rfl
          have m2 := blk_cell hW4 (i := 2) rfl
          have m3 := blk_cell hW4 (i := 3) rfl
          have m4 := blk_cell hW4 (i := 4) rfl
          have m5 := blk_cell hW4 (i := 5) rfl
          have m6 := blk_cell hW4 (i := 6) rfl
          have a2 := blk_cell hA4 (i := 2) rfl
          have a3' := blk_cell hA4 (i := 3) rfl
          have a4 := blk_cell hA4 (i := 4) rfl
          have a5 := blk_cell hA4 (i := 5) rfl
          have a6 := blk_cell hA4 (i := 6) rfl
          have a7 := blk_cell hA4 (i := 7) rfl
          have a8 := blk_cell hA4 (i := 8) rfl
          have hRG := rgot_c (w := w4) (k := r) hvb ⟨pc, pe, pb, ps, pk, pv, yl⟩ ya yc hps
          unfold Rl.val at hRG
          simp only at hRG
          have hy4 := hyD.keep hk4 (fun b hb h => by have := (hID.lo b h).1; omega)
          have hbf : r.bs.length ≤ n := hID.few
          have H5 := Lib.hid (And.intro hID (And.intro hk4 (And.intro hl4 (And.intro hgr (And.intro hO9 (And.intro hy4 (And.intro hbf (And.intro hW4 hvb))))))))
          clear hID hyD hAD hSA hgr hsz3 hk4 hl4 hO9 hy4 hbf hW4 hA4 hvb H4 H3 HPC
          have hend : ∀ (w5 : World) (ob : Bool), Keeps noB w4 w5 → ∃ kn', RunI w (w5.setRow bw (rcells (r.got ⟨pc, pe, pb, ps, pk, pv, yl⟩) vb)) p bw (n + 1) S (fun y => D y ∨ (w4.heap.size ≤ y ∧ y < w5.heap.size)) (k.got ⟨pc, pe, pb, ps, pk, pv, yl⟩) vi4 (r.got ⟨pc, pe, pb, ps, pk, pv, yl⟩) vb kn' := fun w5 ob hk5 => by
            obtain ⟨hID, hk4, hl4, hgr, hO9, hy4, hbf, hW4, hvb⟩ := H5.out
            exact ⟨_, hID.pushed hk4 (fun y hy => .inl hy) hl4 hk5 (by rw [rgot_bs]; exact ((hID.bs.keep hk4 (fun y hy => (hID.ds y hy).1)).no hk5).mono (fun y _ hy => .inl hy)) hgr (by rw [rgot_bs]; omega)⟩
          have HEND := Lib.hid hend
          clear hend
          cases htk : r.takes ⟨pc, pe, pb, ps, pk, pv, yl⟩
          · simp only [htk, Bool.false_eq_true, if_false] at hRG ⊢
            have HTK := Lib.hid htk
            clear htk
            go_wp2_with fail
            refine hRG.mono ?_
            rintro e w5 ⟨rfl, hk5⟩
            clear hRG m0 m1 m2 m3 m4 m5 m6 a2 a3' a4 a5 a6 a7 a8
            obtain ⟨hID, hk4, hl4, hgr, hO9, hy4, hbf, hW4, hvb⟩ := H5.out
            have hW5 := hk5.blk hW4 (noB_not _)
            have hO6 := (hO9.keep hk5 (fun b _ _ => noB_not b)).keep ((Keeps.refl (oneB bw) w5).setRow bw (rcells (r.got ⟨pc, pe, pb, ps, pk, pv, yl⟩) vb) (.inl rfl)) (fun b h1 h2 h => by unfold oneB at h; subst h; have := lt_of_blk hID.wv; omega)
            rw [HTK.out] at hO6
            simp only [Bool.false_eq_true, if_false] at hO6
            obtain ⟨va, vc, rfl⟩ := hID.bs.slice
            have HO6 := Lib.hid (And.intro hO6 hk5)
            clear hID hk4 hl4 hgr hO9 hy4 hbf hW4 hvb hO6 hk5
            go_wp2_with (with_reducible refine wpList_store_row rfl 47 _ _ rfl bw (rcells (r.got ⟨pc, pe, pb, ps, pk, pv, yl⟩) (.slice va r.bs.length vc)) rfl rfl 47 _ hW5 (by kernel_rfl) rfl (by kernel_rfl) ?_)
            go_meet
            case rel =>
              obtain ⟨kn', hfin⟩ := HEND.out w5 true HO6.out.2
              exact ⟨0, [], _, _, _, _, _, noB, false, rfl, rfl, rfl, rfl, rfl, rfl, HO6.out.1.byr, fun i hi => absurd hi (by simp), _, _, _, _, _, _, _, hfin⟩
          · simp only [htk, if_true] at hRG ⊢
            have HTK := Lib.hid htk
            clear htk
            go_wp2_with fail
            refine hRG.mono ?_
            rintro e w5 ⟨rfl, hk5⟩
            clear hRG m0 m1 m2 m3 m4 m5 m6 a2 a3' a4 a5 a6 a7 a8
            obtain ⟨hID, hk4, hl4, hgr, hO9, hy4, hbf, hW4, hvb⟩ := H5.out
            have hW5 := hk5.blk hW4 (noB_not _)
            have hO6 := (hO9.keep hk5 (fun b _ _ => noB_not b)).keep ((Keeps.refl (oneB bw) w5).setRow bw (rcells (r.got ⟨pc, pe, pb, ps, pk, pv, yl⟩) vb) (.inl rfl)) (fun b h1 h2 h => by unfold oneB at h; subst h; have := lt_of_blk hID.wv; omega)
            rw [HTK.out] at hO6
            simp only [if_true] at hO6
            have hy6 := (hy4.keep hk5 (fun b _ => noB_not b)).keep ((Keeps.refl (oneB bw) w5).setRow bw (rcells (r.got ⟨pc, pe, pb, ps, pk, pv, yl⟩) vb) (.inl rfl)) (fun b hb h => by unfold oneB at h; subst h; have := hID.wlo; omega)
            obtain ⟨va, vc, rfl⟩ := hID.bs.slice
            have HO6 := Lib.hid (And.intro hO6 (And.intro hk5 hy6))
            clear hID hk4 hl4 hgr hO9 hy4 hbf hW4 hvb hO6 hk5 hy6
            go_wp2_with (with_reducible refine wpList_store_row rfl 47 _ _ rfl bw (rcells (r.got ⟨pc, pe, pb, ps, pk, pv, yl⟩) (.slice va r.bs.length vc)) rfl rfl 47 _ hW5 (by kernel_rfl) rfl (by kernel_rfl) ?_)
            go_meet
            case rel =>
              obtain ⟨kn', hfin⟩ := HEND.out w5 true HO6.out.2.1
              exact ⟨0, yl, _, _, _, _, _, _, true, rfl, rfl, rfl, rfl, rfl, rfl, HO6.out.1.byr, HO6.out.2.2, _, _, _, _, _, _, _, hfin⟩
        · have hkE := (Keeps.refl noB wB).alloc (.cells #[] 5)
          have a1 := blk_cell (hkE.blk HAC.out (noB_not _)) (i := 1) rfl
          have hdB := (HDR.out.keep HI.out.kp (fun b _ => noB_not b)).keep HB.out.1 (fun b _ => noB_not b)
          have hdr2 := hdB.keep hkE (fun b _ => noB_not b)
          go_wp2_with (at_builtin; refine wpList_append_by rfl _ _ rfl wB.heap.size _ _ _ rfl (own_bytes0 wB) da dl dc _ rfl hdr2 (by omega) (by rw [alloc_size]; omega) ?_)
          intro v' w3 hown' hgrow
          obtain ⟨hk3, a3, c3, rfl, hO3⟩ := copy_own (by simpa using hown') hgrow
          have hI3 := (HI.out.no HB.out.1).no hk3
          have hP := push_c hI3.lk _ a3 dl c3 hdl hO3.byr
          have hE := hI3.rel.pushE dl
          have hd3 := hdB.keep hk3 (fun b _ => noB_not b)
          have hA3 := hk3.blk HAC.out (noB_not _)
          obtain ⟨E, hEE⟩ : ∃ E, E = pushE k dl := ⟨_, rfl⟩
          have HE := Lib.hid (And.intro hE hEE)
          rw [← hEE] at hP
          have H3 := Lib.hid (And.intro hI3 (And.intro hO3 (And.intro hd3 (And.intro hA3 hk3))))
          clear hown' hgrow hdr2 hkE hdB a1 hI3 hE hEE hd3 hA3 hk3 hO3
          go_wp2_with fail
          refine hP.mono ?_
          rintro e w4 ⟨⟨rfl, hk4⟩, S4, hS1, hS2, vi4, t4, ht1, ht2, hl4⟩
          clear hP
          obtain ⟨hI3, hO3, hd3, hA3, hk3⟩ := H3.out
          have hbA3 : bA < w3.heap.size := lt_of_blk hA3
          have hSA : ∀ y, S y → y < bA := fun y hy => by rw [HBA.out]; exact HI.out.lk.lt y hy
          have hW4 := hk4.blk hI3.wv (fun e => (hI3.lo _ e).2 rfl)
          have hA4 := hk4.blk hA3 (fun e => by have := hSA _ e; omega)
          have m0 := blk_cell hW4 (i := 0) rfl
          have m1 := blk_cell hW4 (i := 1) rfl
          have m2 := blk_cell hW4 (i := 2) rfl
          have m3 := blk_cell hW4 (i := 3) rfl
          have m4 := blk_cell hW4 (i := 4) rfl
          have m5 := blk_cell hW4 (i := 5) rfl
          have m6 := blk_cell hW4 (i := 6) rfl
          have a1 := blk_cell hA4 (i := 1) rfl
          have hb4 := hI3.bs.keep hk4 (fun y hy => (hI3.ds y hy).1)
          have hd4 := hd3.keep hk4 (fun y hy e => by have := (hI3.lo y e).1; omega)
          have hle := hI3.rel.le
          have hkn := hI3.rel.known
          have hfew := hI3.few
          have hRP := rpush_c (k := r) hb4 (fun y hy => by have := hI3.dl y hy; have := hk4.size; omega) ⟨by omega, by omega⟩ (by omega) da dl dc hdl hd4
          unfold Rl.val at hRP
          rw [← HE.out.1, ← HE.out.2] at hRP
          have H4 := Lib.hid (And.intro hI3 (And.intro hO3 (And.intro hA3 (And.intro hk3 (And.intro hk4 (And.intro hS2 (And.intro hl4 (And.intro ht1 (And.intro ht2 (And.intro hW4 hSA))))))))))
          clear hI3 hO3 hA3 hk3 hk4 hS1 hS2 hl4 ht1 ht2 hW4 hSA hA4 hb4 hd4 hle hkn hfew hd3 H3 hbA3
          go_wp2_with fail
          refine hRP.mono ?_
          rintro e w5 ⟨vb5, ⟨rfl, hk5⟩, hb5⟩
          clear hRP m0 m1 m2 m3 m4 m5 m6 a1
          obtain ⟨a5, c5, rfl⟩ := hb5.slice
          obtain ⟨hI3, hO3, hA3, hk3, hk4, hS2, hl4, ht1, ht2, hW4, hSA⟩ := H4.out
          have hW5 := hk5.blk hW4 (noB_not _)
          have hbl : r.bs.length ≤ n := hI3.few
          have hrel := hI3.rel.push dl t4 ht1 ht2
          rw [← HE.out.2] at hrel
          have hI6 := hI3.pushed hk4 hS2 hl4 hk5 hb5 hrel (n5 := n + 1) (by have := rpush_len r dl; omega)
          have hO6 : ByO (w5.setRow bw (rcells (r.push dl) (.slice a5 (r.push dl).bs.length c5))) wB.heap.size a3 c3 dl := ((hO3.keep hk4 (fun b h1 h2 h => by have := hSA b h; have := hk3.size; have := HB.out.1.size; have := HBA.out; omega)).keep hk5 (fun b _ _ => noB_not b)).keep ((Keeps.refl (oneB bw) w5).setRow bw _ (.inl rfl)) (fun b h1 h2 h => by unfold oneB at h; subst h; have := lt_of_blk HI.out.wv; have := HB.out.1.size; omega)
          have H5 := Lib.hid (And.intro hI6 (And.intro hO6 (And.intro (hO3) (And.intro hI3 (And.intro hS2 (And.intro hSA (And.intro hk3 hk4)))))))
          clear hI6 hO6 hrel hI3 hS2 hSA hk3 hk4 hl4 ht1 ht2 hA3 hO3 hb5 hbl H4
          go_wp2_with (with_reducible refine wpList_store_row rfl 47 _ _ rfl bw (rcells (r.push dl) (.slice a5 (r.push dl).bs.length c5)) rfl rfl 47 _ hW5 (by kernel_rfl) rfl (by kernel_rfl) ?_)
          generalize w5.setRow bw (rcells (r.push dl) (.slice a5 (r.push dl).bs.length c5)) = w6 at *
          go_loopw [98] (fun v wx => ∃ q : Nat, q ≤ dl.length ∧ v = .int .i64 q ∧ Keeps (fun y => wB.heap.size ≤ y ∧ y < w3.heap.size) w6 wx ∧ (0 < dl.length → ∃ gq cs, a3 = some ⟨gq, 0, none⟩ ∧ wB.heap.size ≤ gq ∧ gq < w3.heap.size ∧ wx.heap[gq]? = some (.cells cs 5 (0, 0)) ∧ ∀ y, y < dl.length → ∃ z, cs[y]? = some (.int .u8 z)))
            (fun v _ => dl.length - (intOf v).toNat)
          case atStart =>
            obtain ⟨hI6, hO6, hO3, _⟩ := H5.out
            refine ⟨0, by omega, rfl, Keeps.refl _ _, fun h0 => ?_⟩
            rcases hO6 with ⟨_, h, _⟩ | ⟨gq, cs, rfl, hB, hb, h1, h2, _, h4⟩
            · rw [h] at h0; simp at h0
            · refine ⟨gq, cs, rfl, hB, ?_, hb, fun y hy => ⟨_, h4 y hy⟩⟩
              rcases hO3 with ⟨_, h, _⟩ | ⟨g', _, e', _, hb', _⟩
              · rw [h] at h0; simp at h0
              · simp at e'; subst e'; exact lt_of_blk hb'
          case round =>
            obtain ⟨q, hq, rfl, hkq, hcs⟩ := hrel
            by_cases hlt2 : q < dl.length
            · obtain ⟨gq, cs, rfl, hq1, hq2, hq3, hq4⟩ := hcs (by omega)
              obtain ⟨z, hz⟩ := hq4 q hlt2
              have g1 := blk_cell hq3 hz
              have g2 := blk_free hq3 q
              have HQ3 := Lib.hid hq3
              have HQ4 := Lib.hid hq4
              clear hq3 hq4 hz hcs
              go_wp2_with fail
              go_roundw
              case rel =>
                refine ⟨q + 1, by omega, by go_num, hkq.setCell _ _ (.inl ⟨hq1, hq2⟩), fun _ => ⟨gq, _, rfl, hq1, hq2, heap_setCell_same _ _ _ _ HQ3.out, fun y hy => ?_⟩⟩
                obtain ⟨z2, hz2⟩ := HQ4.out y hy
                have hys := (Array.getElem?_eq_some_iff.1 hz2).1
                rw [Array.getElem?_setIfInBounds]
                split
                · rename_i hty; subst hty; rw [if_pos hys]; exact ⟨_, rfl⟩
                · exact ⟨z2, hz2⟩
              case measure => simp [intOf]; omega
            · have : q = dl.length := by omega
              subst this
              clear hcs
              go_wp2_with fail
              go_meet
              case rel =>
                obtain ⟨hI6, hO6, hO3, hI3, hS2, hSA, hk3, hk4⟩ := H5.out
                have hsA := HBA.out
                have hsB := HB.out.2.2
                have hBX := HBX.out
                have hs3 := hk3.size
                have hs4 := hk4.size
                have hw0 := HI.out.kp.size
                refine ⟨E, [], _, _, _, _, noB, noB, false, rfl, rfl, rfl, rfl, rfl, rfl, fun i hi => absurd hi (by simp), fun i hi => absurd hi (by simp), _, _, _, _, _, _, _, hI6.far hkq (fun y ⟨y1, y2⟩ => ⟨by omega, fun hS => ?_, fun hD => ?_, fun e => ?_⟩)⟩
                · rcases hS2 y hS with h | h
                  · have := hSA y h; omega
                  · omega
                · rcases hD with h | h
                  · have := HI.out.dl y h; omega
                  · omega
                · have := lt_of_blk HI.out.wv; omega
      case rest =>
        obtain ⟨E, lx, ax, ay, cx, cy, Dx, Dy, ob, rfl, rfl, rfl, rfl, rfl, rfl, hx, hy, S', D', k', vi', r', vb', kn', hI⟩ := hcut
        have hrel := hI.rel
        have hfew := hI.few
        have hle := hrel.le
        have hkn := hrel.known
        have hlen := hrel.len
        have hS : ∀ w', Keeps noB wc w' → w'.cell? ⟨bw, 0, none⟩ = some (.int .i64 r'.c) ∧ w'.cell? ⟨bw, 1, none⟩ = some (.int .i64 r'.e) ∧ w'.cell? ⟨bw, 2, none⟩ = some (.int .i64 r'.b) ∧ w'.cell? ⟨bw, 3, none⟩ = some (.bool r'.v) ∧ w'.cell? ⟨bw, 4, none⟩ = some vb' ∧ w'.cell? ⟨bw, 5, none⟩ = some (.int .i64 r'.known) ∧ w'.cell? ⟨bw, 6, none⟩ = some (.int .i64 r'.heard) ∧
            (convert 22 9 (.slice ax lx.length cx)).run Try.prog w' = .ok (.string (strOf lx)) w' ∧ (convert 22 9 (.slice ay lx.length cy)).run Try.prog w' = .ok (.string (strOf lx)) w' := fun w' hk => by
          have hW := hk.blk hI.wv (noB_not _)
          exact ⟨blk_cell hW (i := 0) rfl, blk_cell hW (i := 1) rfl, blk_cell hW (i := 2) rfl, blk_cell hW (i := 3) rfl, blk_cell hW (i := 4) rfl, blk_cell hW (i := 5) rfl, blk_cell hW (i := 6) rfl, conv_c (hx.keep hk (fun b _ => noB_not b)) cx, conv_c (hy.keep hk (fun b _ => noB_not b)) cy⟩
        have hC12 : ∀ w', Keeps noB wc w' → Calls Try.prog 12 #[.pointer (some ⟨p, 0, none⟩)] w' fun e w2 => ∃ a c, e = .returned (.slice a (r'.pks kn').length c) ∧ Keeps noB wc w2 ∧ PkR w2 (fun x => w'.heap.size ≤ x) (.slice a (r'.pks kn').length c) r'.hd (r'.pks kn') := fun w' hk => by
          refine (packets_c (hI.lk.no hk)).mono ?_
          rintro e w2 ⟨v, ⟨he, hk2⟩, hp⟩
          rw [hrel.hd, hrel.pks] at hp
          obtain ⟨a, c, rfl⟩ := hp.slice
          exact ⟨a, c, he, hk.trans_no hk2, hp.row⟩
        have hC20 : ∀ w', Keeps noB wc w' → Calls Try.prog 20 #[.agg #[.int .i64 r'.c, .int .i64 r'.e, .int .i64 r'.b, .bool r'.v, vb', .int .i64 r'.known, .int .i64 r'.heard]] w' fun e w2 => ∃ a c, e = .returned (.slice a (r'.pks kn').length c) ∧ Keeps noB w' w2 ∧ Keeps noB wc w2 ∧ PkR w2 (fun x => D' x ∨ w'.heap.size ≤ x) (.slice a (r'.pks kn').length c) r'.hd (r'.pks kn') := fun w' hk => by
          refine (rpackets_c (k := r') (vb := vb') kn' hkn hle (hI.bs.no hk) (fun y hy => by have := hI.dl y hy; have := hk.size; omega) (by omega)).mono ?_
          rintro e w2 ⟨v, ⟨he, hk2⟩, hp⟩
          obtain ⟨a, c, rfl⟩ := hp.slice
          exact ⟨a, c, he, hk2, hk.trans_no hk2, hp⟩
        have hpl : (r'.pks kn').length ≤ 1000000 := by
          unfold Rl.pks
          split
          · simp
          · rw [rpks_len]; omega
        have hC14 : ∀ w', Keeps noB wc w' → Calls Try.prog 14 #[.pointer (some ⟨p, 0, none⟩)] w' (Ret (.int .i64 ((r'.bs.length : Int) - r'.known)) w') := fun w' hk => by
          have := open_c (hI.lk.no hk)
          rw [show (k'.L.length : Int) = (r'.bs.length : Int) - r'.known by omega] at this
          exact this
        have hC17 : ∀ w', Keeps noB wc w' → Calls Try.prog 17 #[.pointer (some ⟨p, 0, none⟩)] w' (Ret (.int .i64 (r'.bs.length : Int)) w') := fun w' hk => by
          have := sent_c (hI.lk.no hk)
          rw [hrel.sent] at this
          exact this
        have hC15 : ∀ w', Keeps noB wc w' → Calls Try.prog 15 #[.pointer (some ⟨p, 0, none⟩)] w' (Ret (.int .i64 r'.heard) w') := fun w' hk => by
          have := heard_c (hI.lk.no hk)
          rw [hrel.heard] at this
          exact this
        have hwr : IntKind.i64.wrap ((r'.bs.length : Int) - r'.known) = (r'.bs.length : Int) - r'.known := by rw [IntKind.wrap_i64]; omega
        have hk0 : 0 ≤ r'.known := by omega
        have hk1' : r'.known ≤ (r'.bs.length : Int) := by omega
        have hk2' : (r'.bs.length : Int) ≤ 1000 := by omega
        obtain ⟨vba, vbc, hvb⟩ := hI.bs.slice
        have HS := Lib.hid hS
        have HH := Lib.hid (And.intro hC12 (And.intro hC20 (And.intro hC14 (And.intro hC17 hC15))))
        have HHI := Lib.hid (And.intro hI hpl)
        clear hS hC12 hC20 hC14 hC17 hC15 hI hx hy hrel hfew hle hkn hlen hpl a0 HAC
        subst hvb
        go_upto_region 26 with fail
        go_region_held3 (fun w' => w'.cell? ⟨bw, 0, none⟩ = some (.int .i64 r'.c) ∧ w'.cell? ⟨bw, 1, none⟩ = some (.int .i64 r'.e) ∧ w'.cell? ⟨bw, 2, none⟩ = some (.int .i64 r'.b) ∧ w'.cell? ⟨bw, 3, none⟩ = some (.bool r'.v) ∧ w'.cell? ⟨bw, 4, none⟩ = some (.slice vba r'.bs.length vbc) ∧ w'.cell? ⟨bw, 5, none⟩ = some (.int .i64 r'.known) ∧ w'.cell? ⟨bw, 6, none⟩ = some (.int .i64 r'.heard) ∧
            (convert 22 9 (.slice ax lx.length cx)).run Try.prog w' = .ok (.string (strOf lx)) w' ∧ (convert 22 9 (.slice ay lx.length cy)).run Try.prog w' = .ok (.string (strOf lx)) w')
          (first | exact HS.out _ ((Keeps.refl noB wc).drew) | exact HS.out _ hk7 | exact HS.out _ hk8 | exact HS.out _ hk9)
          (first
            | (go_at_call 12; refine (HH.out.1 _ ((Keeps.refl noB wc).drew)).mono ?_; rintro e w7 ⟨a7, c7, rfl, hk7, hp7⟩)
            | (go_at_call 20; refine (HH.out.2.1 _ hk7).mono ?_; rintro e w8 ⟨a8, c8, rfl, hk78, hk8, hp8⟩)
            | (go_at_call 16; refine (samePks_true (hp7.no hk78) hp8 HHI.out.2).mono ?_; rintro e w9 ⟨rfl, hk89⟩; have hk9 := hk8.trans_no hk89)
            | (go_at_call 14; refine (HH.out.2.2.1 _ hk9).mono ?_; rintro e w10 ⟨rfl, rfl⟩)
            | (go_at_call 17; refine (HH.out.2.2.2.1 _ hk9).mono ?_; rintro e w11 ⟨rfl, rfl⟩)
            | (go_at_call 15; refine (HH.out.2.2.2.2 _ hk9).mono ?_; rintro e w12 ⟨rfl, rfl⟩))
        all_goals
          go_wp2_with fail
          go_roundw
          case rel => exact ⟨n + 1, by omega, by go_num, _, _, _, _, _, _, _, HHI.out.1.no hk9⟩
          case measure => simp [intOf]; omega
    · have : n = len := by omega
      subst this
      go_wp2_with fail
      go_ret
      exact ⟨rfl, HI.out.kp⟩
end Go.Proofs.Ytoeikgaikdbpbaa
