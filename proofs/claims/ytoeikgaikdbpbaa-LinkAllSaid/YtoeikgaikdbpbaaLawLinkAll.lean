/- LinkAll: if both ends' packets go out and arrive as often as something is under way, all is told, and nothing is under way any more: the law answers true at every input. No condition. -/
import Derived.Test.YtoeikgaikdbpbaaLkEx
import Derived.Deep.RegionHeld3
namespace Go.Proofs.Ytoeikgaikdbpbaa
open Go.RowKit

/-- Two links, apart, and the array of both. -/
structure TwoI (w wr : World) (ba pA pB : Nat) (SA SB : Nat → Prop) (A B : Lk) (va vb : Value) : Prop where
  kp : Keeps noB w wr
  la : LkAt wr SA pA A va
  lb : LkAt wr SB pB B vb
  lo : ∀ y, SA y ∨ SB y → w.heap.size ≤ y ∧ y ≠ ba
  ap : ∀ y, SA y → ¬ SB y
  ar : wr.heap[ba]? = some (.cells #[.pointer (some ⟨pA, 0, none⟩), .pointer (some ⟨pB, 0, none⟩)] 29 (0, 0))
theorem TwoI.no {w wr w1 : World} {ba pA pB : Nat} {SA SB : Nat → Prop} {A B : Lk} {va vb : Value} (h : TwoI w wr ba pA pB SA SB A B va vb) (hk : Keeps noB wr w1) : TwoI w w1 ba pA pB SA SB A B va vb :=
  ⟨h.kp.trans_no hk, h.la.no hk, h.lb.no hk, h.lo, h.ap, hk.blk h.ar (noB_not _)⟩
/-- The one end has turned. -/
theorem TwoI.turnA {w wr w1 : World} {ba pA pB : Nat} {SA SB SA' : Nat → Prop} {A B A' : Lk} {va vb va' : Value} (h : TwoI w wr ba pA pB SA SB A B va vb) (hk : Keeps SA wr w1) (hS : ∀ y, SA' y → SA y ∨ wr.heap.size ≤ y) (hl : LkAt w1 SA' pA A' va') : TwoI w w1 ba pA pB SA' SB A' B va' vb :=
  ⟨h.kp.trans hk (fun y hy e => by have := (h.lo y (.inl e)).1; omega), hl, h.lb.keep hk (fun x hx e => h.ap x e hx), fun y hy => by
    have hb := lt_of_blk h.ar
    have := h.kp.size
    rcases hy with hy | hy
    · rcases hS y hy with g | g
      · exact h.lo y (.inl g)
      · exact ⟨by omega, by omega⟩
    · exact h.lo y (.inr hy), fun y hy hB => by
    rcases hS y hy with g | g
    · exact h.ap y g hB
    · have := h.lb.lt y hB; omega, hk.blk h.ar (fun e => (h.lo _ (.inl e)).2 rfl)⟩
theorem TwoI.turnB {w wr w1 : World} {ba pA pB : Nat} {SA SB SB' : Nat → Prop} {A B B' : Lk} {va vb vb' : Value} (h : TwoI w wr ba pA pB SA SB A B va vb) (hk : Keeps SB wr w1) (hS : ∀ y, SB' y → SB y ∨ wr.heap.size ≤ y) (hl : LkAt w1 SB' pB B' vb') : TwoI w w1 ba pA pB SA SB' A B' va vb' :=
  ⟨h.kp.trans hk (fun y hy e => by have := (h.lo y (.inr e)).1; omega), h.la.keep hk (fun x hx e => h.ap x hx e), hl, fun y hy => by
    have hb := lt_of_blk h.ar
    have := h.kp.size
    rcases hy with hy | hy
    · exact h.lo y (.inl hy)
    · rcases hS y hy with g | g
      · exact h.lo y (.inr g)
      · exact ⟨by omega, by omega⟩, fun y hy hB => by
    rcases hS y hB with g | g
    · exact h.ap y hy g
    · have := h.la.lt y hy; omega, hk.blk h.ar (fun e => (h.lo _ (.inr e)).2 rfl)⟩
theorem TwoI.fin {w wm w5 wf : World} {ba pA pB : Nat} {A B : Lk} {va vb : Value} {F : Nat → Prop} (hkw : Keeps noB w w5) (hA : LkAt wm (oneB pA) pA A va) (hm : Keeps noB wm w5) (hB : LkAt w5 (oneB pB) pB B vb) (hpA : w.heap.size ≤ pA) (hne : pA ≠ pB) (hpB : w.heap.size ≤ pB) (hf : Keeps F w5 wf)
    (hF : ∀ y, F y → w.heap.size ≤ y ∧ y ≠ pA ∧ y ≠ pB) (har : wf.heap[ba]? = some (.cells #[.pointer (some ⟨pA, 0, none⟩), .pointer (some ⟨pB, 0, none⟩)] 29 (0, 0))) (hba : ba ≠ pA ∧ ba ≠ pB) : TwoI w wf ba pA pB (oneB pA) (oneB pB) A B va vb :=
  ⟨hkw.trans hf (fun y hy e => by have := (hF y e).1; omega), (hA.no hm).keep hf (fun x hx e => (hF x e).2.1 hx), hB.keep hf (fun x hx e => (hF x e).2.2 hx), fun y hy => by
    rcases hy with hy | hy
    · unfold oneB at hy; subst hy; exact ⟨hpA, hba.1.symm⟩
    · unfold oneB at hy; subst hy; exact ⟨hpB, hba.2.symm⟩, fun y h1 h2 => by unfold oneB at h1 h2; omega, har⟩
/-- What the cells of a step are. -/
def QN (w : World) (f : Nat → Value) : Prop := IsI (f 0) ∧ IsI (f 1) ∧ IsByS w (f 2)
set_option maxRecDepth 100000 in
set_option maxHeartbeats 16000000 in
theorem linkAll_w (x0 x1 x2 x3 x4 x5 x6 : Value) (a : Option Addr) (len cap : Nat) (g : Nat → Nat → Value) (w : World) (q0 : IsI x0) (q1 : IsI x1) (q2 : IsI x2) (q3 : IsI x3) (q4 : IsI x4) (q5 : IsB x5) (q6 : IsByS w x6)
    (hl : len ≤ maxLen) (hr : RdS w 3 a len g) (hq : ∀ k, k < len → QN w (g k)) :
    Calls Try.prog 4 #[.agg #[x0, x1, x2, x3, x4, x5, x6], .slice a len cap] w (RetK noB (.bool true) w) := by
  unfold maxLen at hl
  obtain ⟨hc, rfl, hc1, hc2⟩ := q0
  obtain ⟨he, rfl, he1, he2⟩ := q1
  obtain ⟨hb, rfl, hb1, hb2⟩ := q2
  obtain ⟨hs, rfl, _, _⟩ := q3
  obtain ⟨hk, rfl, _, _⟩ := q4
  obtain ⟨hv, rfl⟩ := q5
  obtain ⟨xa, xl, xc, rfl, _, _, _⟩ := q6.read
  clear q6
  have HQ := Lib.hid hq
  clear hq
  obtain ⟨wA, hwA⟩ : ∃ wA, wA = w.alloc (.cells #[.int .i64 hc, .int .i64 he, .int .i64 hb, .int .i64 hs, .int .i64 hk, .bool hv, .slice xa xl.length xc] 24) := ⟨_, rfl⟩
  have hkA : Keeps noB w wA := by rw [hwA]; exact (Keeps.refl _ _).alloc _
  have hX : wA.heap[w.heap.size]? = some (.cells #[.int .i64 hc, .int .i64 he, .int .i64 hb, .int .i64 hs, .int .i64 hk, .bool hv, .slice xa xl.length xc] 24 (0, 0)) := by rw [hwA]; exact heap_alloc_new _ _
  have HX := Lib.hid hX
  have HRD := Lib.hid hr
  clear hr hX
  go_enter Try.func4, Try.ntmps4
  go_upto_region 1 with fail
  rw [← hwA]
  clear hwA
  go_upto_region 3 with (go_at_call 9; refine (linkAlive_c wA).mono ?_; rintro e w1 ⟨rfl, hk1⟩)
  have hX1 := hk1.blk HX.out (noB_not _)
  have u0 := blk_cell hX1 (i := 0) rfl
  have u1 := blk_cell hX1 (i := 1) rfl
  have u2 := blk_cell hX1 (i := 2) rfl
  have u5 := blk_cell hX1 (i := 5) rfl
  have HX1 := Lib.hid hX1
  clear hX1
  by_cases z0 : len > 100
  · have t0 : decide ((len : Int) > 100) = true := decide_eq_true (by omega)
    go_wp2_with fail
    go_ret
    exact ⟨rfl, hkA.trans_no hk1⟩
  have t0 : decide ((len : Int) > 100) = false := decide_eq_false (by omega)
  by_cases z1 : hc < 0
  · have t1 : decide (hc < 0) = true := decide_eq_true (by omega)
    go_wp2_with fail
    go_ret
    exact ⟨rfl, hkA.trans_no hk1⟩
  have t1 : decide (hc < 0) = false := decide_eq_false (by omega)
  by_cases z2 : hc > 3
  · have t2 : decide (hc > 3) = true := decide_eq_true (by omega)
    go_wp2_with fail
    go_ret
    exact ⟨rfl, hkA.trans_no hk1⟩
  have t2 : decide (hc > 3) = false := decide_eq_false (by omega)
  by_cases z3 : he < 0
  · have t3 : decide (he < 0) = true := decide_eq_true (by omega)
    go_wp2_with fail
    go_ret
    exact ⟨rfl, hkA.trans_no hk1⟩
  have t3 : decide (he < 0) = false := decide_eq_false (by omega)
  by_cases z4 : he > 16777215
  · have t4 : decide (he > 16777215) = true := decide_eq_true (by omega)
    go_wp2_with fail
    go_ret
    exact ⟨rfl, hkA.trans_no hk1⟩
  have t4 : decide (he > 16777215) = false := decide_eq_false (by omega)
  by_cases z5 : hb < 0
  · have t5 : decide (hb < 0) = true := decide_eq_true (by omega)
    go_wp2_with fail
    go_ret
    exact ⟨rfl, hkA.trans_no hk1⟩
  have t5 : decide (hb < 0) = false := decide_eq_false (by omega)
  by_cases z6 : hb > 16777215
  · have t6 : decide (hb > 16777215) = true := decide_eq_true (by omega)
    go_wp2_with fail
    go_ret
    exact ⟨rfl, hkA.trans_no hk1⟩
  have t6 : decide (hb > 16777215) = false := decide_eq_false (by omega)
  go_wp2_with fail
  have HK1 := Lib.hid hk1
  have HKA := Lib.hid hkA
  go_cut [5] (fun s5 wx => ∃ ba pA pB SA SB va vb, s5 = .pointer (some ⟨ba, 0, none⟩) ∧ TwoI w wx ba pA pB SA SB (newLk hc he hb false) (newLk hc he hb true) va vb)
  case first =>
    have hS : ∀ w', Keeps noB w1 w' → w'.cell? ⟨w.heap.size, 0, none⟩ = some (.int .i64 hc) ∧ w'.cell? ⟨w.heap.size, 1, none⟩ = some (.int .i64 he) ∧ w'.cell? ⟨w.heap.size, 2, none⟩ = some (.int .i64 hb) := fun w' hk => by
      have hW := hk.blk HX1.out (noB_not _)
      exact ⟨blk_cell hW (i := 0) rfl, blk_cell hW (i := 1) rfl, blk_cell hW (i := 2) rfl⟩
    have HS := Lib.hid hS
    have hN : ∀ b w', Keeps noB w1 w' → Calls Try.prog 10 #[.int .i64 hc, .int .i64 he, .int .i64 hb, .bool b] w' fun e w2 => e = .returned (.pointer (some ⟨w'.heap.size, 0, none⟩)) ∧ Keeps noB w' w2 ∧ Keeps noB w1 w2 ∧ LkAt w2 (oneB w'.heap.size) w'.heap.size (newLk hc he hb b) (.slice none 0 0) := fun b w' hk => by
      refine (new_c hc he hb b w').mono ?_
      rintro e w2 ⟨⟨he, hk2⟩, _, ha⟩
      exact ⟨he, hk2, hk.trans_no hk2, ha⟩
    have HN := Lib.hid hN
    clear hS hN u0 u1 u2 u5 hk1 hkA
    go_region_held3 (fun w' => w'.cell? ⟨w.heap.size, 0, none⟩ = some (.int .i64 hc) ∧ w'.cell? ⟨w.heap.size, 1, none⟩ = some (.int .i64 he) ∧ w'.cell? ⟨w.heap.size, 2, none⟩ = some (.int .i64 hb))
      (first | (refine HS.out _ ?_; repeat (first | exact hk5 | exact Keeps.refl noB w1 | refine Keeps.drew ?_ | refine Keeps.alloc ?_ _ | refine Keeps.setCell ?_ _ _ (.inr (by first | exact Nat.le_refl _ | (dsimp only; omega))))))
      (first
        | (go_at_call 10; refine (HN.out _ _ (by first | exact hk5 | exact hk5.alloc _ | exact ((Keeps.refl noB w1).drew) | exact ((Keeps.refl noB w1).alloc _).drew)).mono ?_; rintro e w5 ⟨rfl, hkx5, hk5, ha5⟩; have hsz5 := hk5.size; (first | (have hZ := hkx5.blk hZ (noB_not _); have z0 := blk_cell hZ (i := 0) rfl; have z1 := blk_cell hZ (i := 1) rfl; have f0 := blk_free hZ 0; have f1 := blk_free hZ 1) | (have hZ := hkx5.blk (heap_alloc_new _ _) (noB_not _); have z0 := blk_cell hZ (i := 0) rfl; have z1 := blk_cell hZ (i := 1) rfl; have f0 := blk_free hZ 0; have f1 := blk_free hZ 1) | skip)))
    · go_wp2_with fail
      go_meet
      case rel =>
        have hkw1 := HKA.out.trans_no HK1.out
        have hszw := hkw1.size
        have haA := ‹LkAt _ _ _ (newLk hc he hb false) _›
        have hzA : w1.heap.size < _ := haA.lt _ rfl
        have hzB := ha5.lt _ rfl
        have hzx := hkx5.size
        refine ⟨_, _, _, _, _, _, _, rfl, TwoI.fin (F := noB) (hkw1.trans_no hk5) haA hkx5 ha5 hszw (Nat.ne_of_lt hzA) (by omega) ((Keeps.refl noB w5).alloc _) (fun y hy => hy.elim) (heap_alloc_new _ _) ⟨?_, ?_⟩⟩
        · show w5.heap.size ≠ w1.heap.size; omega
        · omega
    · go_wp2_with fail
      go_meet
      case rel =>
        have hkw1 := HKA.out.trans_no HK1.out
        have hszw := hkw1.size
        have haA := ‹LkAt _ _ _ (newLk hc he hb false) _›
        have hzA : w1.heap.size < _ := haA.lt _ rfl
        have hzB := ha5.lt _ rfl
        have hzx := hkx5.size
        rw [alloc_size] at ha5 hzx hzB
        have hne : w1.heap.size ≠ _ + 1 := Nat.ne_of_lt (Nat.lt_succ_of_lt hzA)
        refine ⟨_, _, _, _, _, _, _, rfl, TwoI.fin (F := oneB _) (hkw1.trans_no hk5) haA (((Keeps.refl noB _).alloc _).trans_no hkx5) ha5 hszw hne (by omega) (((Keeps.refl (oneB _) w5).set1 _ _).set1 _ _) (fun y hy => ?_) (heap_setCell_same _ _ _ _ (heap_setCell_same _ _ _ _ hZ)) ⟨?_, ?_⟩⟩
        · unfold oneB at hy; subst hy; refine ⟨by omega, ?_, by omega⟩; show _ ≠ w1.heap.size; omega
        · show _ ≠ w1.heap.size; omega
        · omega
    · go_wp2_with fail
      go_meet
      case rel =>
        have hkw1 := HKA.out.trans_no HK1.out
        have hszw := hkw1.size
        have haA := ‹LkAt _ _ _ (newLk hc he hb false) _›
        have hzA := haA.lt _ rfl
        have hp1 : (w1.alloc (Obj.cells #[Value.pointer none, Value.pointer none] 29)).drew.heap.size = w1.heap.size + 1 := alloc_size _ _
        rw [hp1] at haA hzA
        have hzB := ha5.lt _ rfl
        have hzx := hkx5.size
        refine ⟨_, _, _, _, _, _, _, rfl, TwoI.fin (F := oneB w1.heap.size) (hkw1.trans_no hk5) haA hkx5 ha5 (by omega) (Nat.ne_of_lt hzA) (by omega) (((Keeps.refl (oneB _) w5).set1 _ _).set1 _ _) (fun y hy => ?_) (heap_setCell_same _ _ _ _ (heap_setCell_same _ _ _ _ hZ)) ⟨?_, ?_⟩⟩
        · unfold oneB at hy; subst hy; exact ⟨by omega, by omega, by omega⟩
        · omega
        · omega
  case rest =>
    clear hk1 hkA
    obtain ⟨ba, pA, pB, SA, SB, va, vb, rfl, hT⟩ := hcut
    have hs1 := HK1.out.size
    have HT0 := Lib.hid hT
    clear hT HX1 HK1 HKA HX hs1
    go_wp2_with fail
    go_loopw [6, 7, 67] (fun sent told i wr => ∃ n : Nat, n ≤ len ∧ i = .int .i64 n ∧ ∃ (s t : Int) (A B : Lk) (SA SB : Nat → Prop) (va vb : Value), sent = .int .i64 s ∧ told = .int .i64 t ∧ TwoI w wr ba pA pB SA SB A B va vb ∧ Good A B t s ∧ s ≤ n)
      (fun _ _ i _ => len - (intOf i).toNat)
    case atStart => exact ⟨0, by omega, rfl, 0, 0, _, _, _, _, _, _, rfl, rfl, HT0.out, Good.new hc he hb, Int.le_refl _⟩
    case round =>
      clear HT0
      obtain ⟨n, hn, rfl, s, tt, A, B, SA, SB, va, vb, rfl, rfl, hT, hG, hs⟩ := hrel
      have hbds : 0 ≤ s ∧ s ≤ 100 ∧ 0 ≤ tt ∧ tt ≤ s := by
        have h1 := hG.told; have h2 := hG.sent; have h3 := hG.na; have h4 := hG.nb; have h5 := hG.ha; have h6 := hG.hb
        omega
      obtain ⟨hb1s, hb2s, hb3s, hb4s⟩ := hbds
      have HT := Lib.hid (And.intro hT hG)
      by_cases hlt : n < len
      · obtain ⟨b, off, rfl, hbl, hcc⟩ := (HRD.out.keep hT.kp) n hlt
        obtain ⟨p0, p1, p2⟩ := HQ.out n hlt
        obtain ⟨kd, e0, _, _⟩ := p0
        obtain ⟨nn, e1, _, _⟩ := p1
        obtain ⟨da, dl, dc, e2, hdl, hdr, _⟩ := p2.read
        have c0 : wr.cell? ⟨b, off + n * 3, none⟩ = some (.int .i64 kd) := by rw [← e0]; exact hcc 0 (by omega)
        have c1 : wr.cell? ⟨b, off + n * 3 + 1, none⟩ = some (.int .i64 nn) := by rw [← e1, Nat.add_assoc]; exact hcc 1 (by omega)
        have c2 : wr.cell? ⟨b, off + n * 3 + 2, none⟩ = some (.slice da dl.length dc) := by rw [← e2, Nat.add_assoc]; exact hcc 2 (by omega)
        clear hcc e0 e1 e2 p2 hT hG
        have hkB : Keeps noB wr (wr.alloc (.cells #[.int .i64 kd, .int .i64 nn, .slice da dl.length dc] 34)) := (Keeps.refl _ _).alloc _
        have hXB := heap_alloc_new wr (.cells #[.int .i64 kd, .int .i64 nn, .slice da dl.length dc] 34)
        have hTB := HT.out.1.no hkB
        have hdB := (hdr.keep HT.out.1.kp (fun b _ => noB_not b)).keep hkB (fun b _ => noB_not b)
        obtain ⟨bx, hbx⟩ : ∃ bx, bx = wr.heap.size := ⟨_, rfl⟩
        have hxB : wr.heap.size < (wr.alloc (.cells #[.int .i64 kd, .int .i64 nn, .slice da dl.length dc] 34)).heap.size := by rw [alloc_size]; omega
        have hSx : ∀ y, (SA y ∨ SB y) → y < wr.heap.size := fun y hy => by rcases hy with hy | hy; exact HT.out.1.la.lt y hy; exact HT.out.1.lb.lt y hy
        have HB := Lib.hid (And.intro hTB (And.intro hXB (And.intro hdB (And.intro hxB (And.intro HT.out.2 hSx)))))
        clear hkB hTB hXB hdB hdr hxB hSx
        go_upto_region 10 with fail
        have HBX := Lib.hid hbx
        rw [← hbx] at HB ⊢
        clear hbx HT c0 c1 c2
        generalize wr.alloc (.cells #[.int .i64 kd, .int .i64 nn, .slice da dl.length dc] 34) = wB at *
        have hSF : ∀ (F : Nat → Prop) w', Keeps F wB w' → ¬ F bx → ¬ F ba → w'.cell? ⟨bx, 0, none⟩ = some (.int .i64 kd) ∧ w'.cell? ⟨bx, 2, none⟩ = some (.slice da dl.length dc) ∧ w'.cell? ⟨ba, 0, none⟩ = some (.pointer (some ⟨pA, 0, none⟩)) ∧ w'.cell? ⟨ba, 1, none⟩ = some (.pointer (some ⟨pB, 0, none⟩)) := fun F w' hk f1 f2 => by
          have h1 := hk.blk HB.out.2.1 f1
          have h2 := hk.blk HB.out.1.ar f2
          exact ⟨blk_cell h1 (i := 0) rfl, blk_cell h1 (i := 2) rfl, blk_cell h2 (i := 0) rfl, blk_cell h2 (i := 1) rfl⟩
        have hS := fun w' hk => hSF noB w' hk (noB_not _) (noB_not _)
        have HS := Lib.hid hS
        have HSF := Lib.hid hSF
        clear hS hSF
        by_cases hk2 : kd < 2
        rotate_left
        · have d1 : decide (kd < 2) = false := decide_eq_false hk2
          have x0 := (HS.out _ (Keeps.refl noB wB)).1
          go_quiet (fail)
          have hTD := HB.out.1.no ((Keeps.refl noB wB).drewN nq)
          have x0 := (HS.out _ ((Keeps.refl noB wB).drewN nq)).1
          generalize wB.drewN nq = wD at *
          have HTD := Lib.hid hTD
          clear hTD
          go_wp2_with fail
          go_loopw [7, 10] (fun told kv wx => ∃ kk : Nat, kk ≤ 4 ∧ kv = .int .i64 kk ∧ told = .int .i64 (stg A B tt kk).2.2 ∧ ∃ va' vb', TwoI w wx ba pA pB SA SB (stg A B tt kk).1 (stg A B tt kk).2.1 va' vb')
            (fun _ kv _ => 4 - (intOf kv).toNat)
          case atStart => exact ⟨0, by omega, rfl, rfl, _, _, HTD.out⟩
          case round =>
            clear HTD x0
            obtain ⟨kk, hkk, rfl, rfl, va', vb', hTk⟩ := hrel
            have hkwr := hTk.kp
            rcases (show kk = 0 ∨ kk = 1 ∨ kk = 2 ∨ kk = 3 ∨ kk = 4 by omega) with rfl | rfl | rfl | rfl | rfl
            · have hP : PassOK A B := HB.out.2.2.2.2.1.p0
              have hT : TwoI w wr ba pA pB SA SB A B va' vb' := hTk
              have hbd := HB.out.2.2.2.2.1.stg_bound
              have hstep : stg A B tt 1 = (A, A.pass B, (stg A B tt 0).2.2 + A.L.length) := rfl
              obtain ⟨nk, hnk⟩ : ∃ nk, nk = (stg A B tt 0).2.2 := ⟨_, rfl⟩
              have hnb : 0 ≤ nk ∧ nk ≤ 100 := by rw [hnk]; show 0 ≤ tt ∧ tt ≤ 100; omega
              have hnx : A.L.length ≤ 8 := hT.la.few
              have hsent : B.heard + A.L.length ≤ 1000000000 := by have := HB.out.2.2.2.2.1.na; have := HB.out.1.la.sb; omega
              rw [← hnk]
              have HST := Lib.hid (And.intro hstep hnk)
              clear hTk hstep hnk hbd
              have c0 := blk_cell hT.ar (i := 0) rfl
              have c1 := blk_cell hT.ar (i := 1) rfl
              have hPk := packets_c hT.la
              obtain ⟨X, hX⟩ : ∃ X, X = A := ⟨_, rfl⟩
              obtain ⟨Y, hY⟩ : ∃ Y, Y = B := ⟨_, rfl⟩
              rw [← hX] at hPk hnx hsent
              rw [← hY] at hsent
              rw [← hX, ← hY] at hP hT
              have HXY := Lib.hid (And.intro hX hY)
              clear hX hY
              have hHT := Lib.hid (And.intro hT hP)
              clear hT hP
              go_wp2_with fail
              refine hPk.mono ?_
              rintro e w6 ⟨v6, ⟨rfl, hk6⟩, hp6⟩
              clear hPk c0 c1
              obtain ⟨a6, c6, rfl⟩ := hp6.slice
              have hT6 := hHT.out.1.no hk6
              have hpl : X.pks.length ≤ 8 := by have h1 := pks_len X; split at h1 <;> omega
              obtain ⟨B0, hB0⟩ : ∃ B0, B0 = wr.heap.size := ⟨_, rfl⟩
              have hSB0 : ∀ y, SB y → y < B0 := fun y hy => by rw [hB0]; exact hHT.out.1.lb.lt y hy
              have hRow : PkR w6 (fun x => B0 ≤ x) (.slice a6 X.pks.length c6) X.hd X.pks := by rw [hB0]; exact hp6.row
              have HP6 := Lib.hid (And.intro hRow (And.intro hT6 hSB0))
              clear hRow hSB0 hB0
              have HPL := Lib.hid hpl
              clear hp6 hT6 hk6
              go_wp2_with fail
              go_loopw [7, 106] (fun told iv wx => ∃ j : Nat, j ≤ X.pks.length ∧ iv = .int .i64 j ∧ told = .int .i64 (exRun X Y nk (X.pks.take j)).2 ∧ Keeps SB w6 wx ∧ ∃ vx vy, TwoI w wx ba pA pB SA SB X (exRun X Y nk (X.pks.take j)).1 vx vy)
                (fun _ iv _ => X.pks.length - (intOf iv).toNat)
              case atStart => exact ⟨0, by omega, rfl, rfl, Keeps.refl _ _, _, _, HP6.out.2.1⟩
              case round =>
                obtain ⟨j, hj, rfl, rfl, hkY, vx, vy, hTj⟩ := hrel
                by_cases hlt2 : j < X.pks.length
                · have hpR := HP6.out.1.keep hkY (fun b _ h1 h2 => by have := HP6.out.2.2 b h2; have h1' : B0 ≤ b := h1; omega)
                  obtain ⟨gq, oq, rfl, hgq, hDq, ab, cb, y0, y1, y2, y3, y4, y5, y6, hbr⟩ := hpR.at_ hlt2
                  have hrb := exRun_n X Y nk (X.pks.take j)
                  rw [List.length_take] at hrb
                  have hsc := exRun_succ X Y nk X.pks j hlt2
                  have hnum := hHT.out.2.num hsent _ (List.getElem_mem hlt2)
                  obtain ⟨x, hx⟩ : ∃ x, x = X.pks[j] := ⟨_, rfl⟩
                  have hxl : X.pks[j].2.length ≤ 140737488351232 := Nat.le_trans (pks_bod (fun t ht => (hHT.out.1.la.bods t ht).2) _ (List.getElem_mem hlt2)) (by omega)
                  rw [← hx] at y3 y6 hbr hsc hnum hxl
                  clear hx
                  generalize hru : exRun X Y nk (X.pks.take j) = ru at *
                  have hrb' : 0 ≤ ru.2 ∧ ru.2 ≤ 200 := by have := HPL.out; omega
                  obtain ⟨hrb1, hrb2⟩ := hrb'
                  have HSC := Lib.hid (And.intro hsc hru)
                  have HTJ := Lib.hid (And.intro hTj (And.intro hkY (And.intro hbr (And.intro hnum hxl))))
                  clear hpR hrb hsc hru hTj hkY hbr hnum hxl hDq hgq
                  go_upto_region 19 with fail
                  have hkE : Keeps noB wr (wr.alloc (.cells #[.int .i64 X.hd.c, .int .i64 X.hd.e, .int .i64 X.hd.b, .int .i64 x.1, .int .i64 X.hd.k, .bool X.hd.v, .slice ab x.2.length cb] 24)) := (Keeps.refl _ _).alloc _
                  have hPE := heap_alloc_new wr (.cells #[.int .i64 X.hd.c, .int .i64 X.hd.e, .int .i64 X.hd.b, .int .i64 x.1, .int .i64 X.hd.k, .bool X.hd.v, .slice ab x.2.length cb] 24)
                  have hTE := HTJ.out.1.no hkE
                  have hbE := HTJ.out.2.2.1.keep hkE (fun b _ => noB_not b)
                  obtain ⟨bq, hbq⟩ : ∃ bq, bq = wr.heap.size := ⟨_, rfl⟩
                  have hkYE := HTJ.out.2.1.trans_no hkE
                  have hbqS : ∀ y, SB y → y ≠ bq := fun y hy => by have := HTJ.out.1.lb.lt y hy; omega
                  rw [← hbq] at hPE ⊢
                  clear hbq hkE
                  generalize wr.alloc (.cells #[.int .i64 X.hd.c, .int .i64 X.hd.e, .int .i64 X.hd.b, .int .i64 x.1, .int .i64 X.hd.k, .bool X.hd.v, .slice ab x.2.length cb] 24) = wE at *
                  have hE : ∀ b, (fun b => B0 ≤ b) b → ¬ SB b := fun b h1 h2 => by have := HP6.out.2.2 b h2; have h1' : B0 ≤ b := h1; omega
                  have hGE : ∀ w', Keeps noB wE w' → Calls Try.prog 13 #[.pointer (some ⟨pB, 0, none⟩), .agg #[.int .i64 X.hd.c, .int .i64 X.hd.e, .int .i64 X.hd.b, .int .i64 x.1, .int .i64 X.hd.k, .bool X.hd.v, .slice ab x.2.length cb]] w' fun e w2 => ∃ a' n' c', e = .returned (.tuple #[.slice a' n' c', .bool (ru.1.takes (exQ X x))]) ∧ Keeps SB wE w2 ∧ ∃ vx vy, TwoI w w2 ba pA pB SA SB X (ru.1.got (exQ X x)) vx vy := fun w' hk => by
                    have h' := hTE.no hk
                    refine (got_b h'.lb (exQ X x) _ hE ab cb HTJ.out.2.2.2.2 (hbE.keep hk (fun b _ => noB_not b)) HTJ.out.2.2.2.1).mono ?_
                    rintro e w2 ⟨a', c', ⟨he, hk2⟩, ⟨vi', hl'⟩, _⟩
                    exact ⟨a', _, c', he, (hk.of_no).trans hk2 (fun _ _ h => h), _, _, h'.turnB hk2 (fun y hy => .inl hy) hl'⟩
                  have hSE : ∀ w', Keeps noB wE w' → w'.cell? ⟨ba, 0, none⟩ = some (.pointer (some ⟨pA, 0, none⟩)) ∧ w'.cell? ⟨ba, 1, none⟩ = some (.pointer (some ⟨pB, 0, none⟩)) ∧ w'.cell? ⟨bq, 0, none⟩ = some (.int .i64 X.hd.c) ∧ w'.cell? ⟨bq, 1, none⟩ = some (.int .i64 X.hd.e) ∧ w'.cell? ⟨bq, 2, none⟩ = some (.int .i64 X.hd.b) ∧ w'.cell? ⟨bq, 3, none⟩ = some (.int .i64 x.1) ∧ w'.cell? ⟨bq, 4, none⟩ = some (.int .i64 X.hd.k) ∧ w'.cell? ⟨bq, 5, none⟩ = some (.bool X.hd.v) ∧ w'.cell? ⟨bq, 6, none⟩ = some (.slice ab x.2.length cb) := fun w' hk => by
                    have h1 := hk.blk hTE.ar (noB_not _)
                    have h2 := hk.blk hPE (noB_not _)
                    exact ⟨blk_cell h1 (i := 0) rfl, blk_cell h1 (i := 1) rfl, blk_cell h2 (i := 0) rfl, blk_cell h2 (i := 1) rfl, blk_cell h2 (i := 2) rfl, blk_cell h2 (i := 3) rfl, blk_cell h2 (i := 4) rfl, blk_cell h2 (i := 5) rfl, blk_cell h2 (i := 6) rfl⟩
                  have hSF2 : ∀ w', Keeps SB wE w' → w'.cell? ⟨ba, 0, none⟩ = some (.pointer (some ⟨pA, 0, none⟩)) ∧ w'.cell? ⟨ba, 1, none⟩ = some (.pointer (some ⟨pB, 0, none⟩)) ∧ w'.cell? ⟨bq, 0, none⟩ = some (.int .i64 X.hd.c) ∧ w'.cell? ⟨bq, 1, none⟩ = some (.int .i64 X.hd.e) ∧ w'.cell? ⟨bq, 2, none⟩ = some (.int .i64 X.hd.b) ∧ w'.cell? ⟨bq, 3, none⟩ = some (.int .i64 x.1) ∧ w'.cell? ⟨bq, 4, none⟩ = some (.int .i64 X.hd.k) ∧ w'.cell? ⟨bq, 5, none⟩ = some (.bool X.hd.v) ∧ w'.cell? ⟨bq, 6, none⟩ = some (.slice ab x.2.length cb) := fun w' hk => by
                    have h1 := hk.blk hTE.ar (fun e => (hTE.lo _ (.inr e)).2 rfl)
                    have h2 := hk.blk hPE (fun e => hbqS _ e rfl)
                    exact ⟨blk_cell h1 (i := 0) rfl, blk_cell h1 (i := 1) rfl, blk_cell h2 (i := 0) rfl, blk_cell h2 (i := 1) rfl, blk_cell h2 (i := 2) rfl, blk_cell h2 (i := 3) rfl, blk_cell h2 (i := 4) rfl, blk_cell h2 (i := 5) rfl, blk_cell h2 (i := 6) rfl⟩
                  have HSF2 := Lib.hid hSF2
                  obtain ⟨ob, hob⟩ : ∃ ob, ob = ru.1.takes (exQ X x) := ⟨_, rfl⟩
                  rw [← hob] at hGE
                  have HOB := Lib.hid hob
                  have HGE := Lib.hid hGE
                  have HSE := Lib.hid hSE
                  have HKY := Lib.hid hkYE
                  clear hob hGE hSE hSF2 hbqS hTE hPE hbE hE hkYE y0 y1 y2 y3 y4 y5 y6
                  obtain ⟨s0, s1, s2, s3, s4, s5, s6, s7, s8⟩ := HSE.out _ (Keeps.refl noB wE)
                  go_region_with (go_at_call 13; refine (HGE.out _ ((Keeps.refl noB wE).drew)).mono ?_; rintro e w7 ⟨a7, n7, c7, rfl, hk7, vx7, vy7, hT7⟩)
                  all_goals
                    have HT7 := Lib.hid (And.intro hT7 hk7)
                    clear hT7 hk7
                    cases ob
                    · go_wp2_with fail
                      go_roundw
                      case rel =>
                        obtain ⟨hsc, hru⟩ := HSC.out
                        refine ⟨j + 1, by omega, by go_num, ?_, HKY.out.trans HT7.out.2 (fun _ _ h => h), vx7, vy7, ?_⟩
                        · rw [hsc]; unfold exStep; simp only [← HOB.out]; try rfl
                        · rw [hsc]; exact HT7.out.1
                      case measure => simp [intOf]; omega
                    · go_wp2_with fail
                      go_roundw
                      case rel =>
                        obtain ⟨hsc, hru⟩ := HSC.out
                        refine ⟨j + 1, by omega, by go_num, ?_, HKY.out.trans HT7.out.2 (fun _ _ h => h), vx7, vy7, ?_⟩
                        · rw [hsc]; unfold exStep; simp only [← HOB.out, if_true]
                        · rw [hsc]; exact HT7.out.1
                      case measure => simp [intOf]; omega
                · have hje : j = X.pks.length := by omega
                  subst hje
                  rw [List.take_length, exRun_pass hHT.out.2] at hTj
                  have hfin := exRun_pass hHT.out.2 nk
                  rw [List.take_length, hfin]
                  obtain ⟨tn, htn⟩ : ∃ tn, tn = nk + (X.L.length : Int) := ⟨_, rfl⟩
                  have HTJ := Lib.hid (And.intro hTj htn)
                  try simp only
                  rw [← htn]
                  clear hTj hfin htn hkY
                  go_wp2_with fail
                  go_roundw
                  case rel =>
                    obtain ⟨hstep, hnk⟩ := HST.out
                    obtain ⟨hX, hY⟩ := HXY.out
                    refine ⟨1, by omega, by go_num, ?_, vx, vy, ?_⟩
                    · subst hX; rw [hstep, HTJ.out.2, hnk]
                    · subst hX hY; rw [hstep]; exact HTJ.out.1
                  case measure => simp [intOf]
            · have hP : PassOK (A.pass B) A := HB.out.2.2.2.2.1.p1
              have hT : TwoI w wr ba pA pB SA SB A (A.pass B) va' vb' := hTk
              have hbd := HB.out.2.2.2.2.1.stg_bound
              have hstep : stg A B tt 2 = ((A.pass B).pass A, A.pass B, (stg A B tt 1).2.2 + (A.pass B).L.length) := rfl
              obtain ⟨nk, hnk⟩ : ∃ nk, nk = (stg A B tt 1).2.2 := ⟨_, rfl⟩
              have hnb : 0 ≤ nk ∧ nk ≤ 100 := by rw [hnk]; omega
              have hnx : (A.pass B).L.length ≤ 8 := hT.lb.few
              have hsent : A.heard + (A.pass B).L.length ≤ 1000000000 := by have h1 := HB.out.2.2.2.2.1.nb; have := HB.out.1.lb.sb; rw [HB.out.2.2.2.2.1.e1]; show A.heard + (B.L.length : Int) ≤ _; omega
              rw [← hnk]
              have HST := Lib.hid (And.intro hstep hnk)
              clear hTk hstep hnk hbd
              have c0 := blk_cell hT.ar (i := 0) rfl
              have c1 := blk_cell hT.ar (i := 1) rfl
              have hPk := packets_c hT.lb
              obtain ⟨X, hX⟩ : ∃ X, X = (A.pass B) := ⟨_, rfl⟩
              obtain ⟨Y, hY⟩ : ∃ Y, Y = A := ⟨_, rfl⟩
              rw [← hX] at hPk hnx hsent
              rw [← hY] at hsent
              rw [← hX, ← hY] at hP hT
              have HXY := Lib.hid (And.intro hX hY)
              clear hX hY
              have hHT := Lib.hid (And.intro hT hP)
              clear hT hP
              go_wp2_with fail
              refine hPk.mono ?_
              rintro e w6 ⟨v6, ⟨rfl, hk6⟩, hp6⟩
              clear hPk c0 c1
              obtain ⟨a6, c6, rfl⟩ := hp6.slice
              have hT6 := hHT.out.1.no hk6
              have hpl : X.pks.length ≤ 8 := by have h1 := pks_len X; split at h1 <;> omega
              obtain ⟨B0, hB0⟩ : ∃ B0, B0 = wr.heap.size := ⟨_, rfl⟩
              have hSB0 : ∀ y, SA y → y < B0 := fun y hy => by rw [hB0]; exact hHT.out.1.la.lt y hy
              have hRow : PkR w6 (fun x => B0 ≤ x) (.slice a6 X.pks.length c6) X.hd X.pks := by rw [hB0]; exact hp6.row
              have HP6 := Lib.hid (And.intro hRow (And.intro hT6 hSB0))
              clear hRow hSB0 hB0
              have HPL := Lib.hid hpl
              clear hp6 hT6 hk6
              go_wp2_with fail
              go_loopw [7, 106] (fun told iv wx => ∃ j : Nat, j ≤ X.pks.length ∧ iv = .int .i64 j ∧ told = .int .i64 (exRun X Y nk (X.pks.take j)).2 ∧ Keeps SA w6 wx ∧ ∃ vx vy, TwoI w wx ba pA pB SA SB (exRun X Y nk (X.pks.take j)).1 X vx vy)
                (fun _ iv _ => X.pks.length - (intOf iv).toNat)
              case atStart => exact ⟨0, by omega, rfl, rfl, Keeps.refl _ _, _, _, HP6.out.2.1⟩
              case round =>
                obtain ⟨j, hj, rfl, rfl, hkY, vx, vy, hTj⟩ := hrel
                by_cases hlt2 : j < X.pks.length
                · have hpR := HP6.out.1.keep hkY (fun b _ h1 h2 => by have := HP6.out.2.2 b h2; have h1' : B0 ≤ b := h1; omega)
                  obtain ⟨gq, oq, rfl, hgq, hDq, ab, cb, y0, y1, y2, y3, y4, y5, y6, hbr⟩ := hpR.at_ hlt2
                  have hrb := exRun_n X Y nk (X.pks.take j)
                  rw [List.length_take] at hrb
                  have hsc := exRun_succ X Y nk X.pks j hlt2
                  have hnum := hHT.out.2.num hsent _ (List.getElem_mem hlt2)
                  obtain ⟨x, hx⟩ : ∃ x, x = X.pks[j] := ⟨_, rfl⟩
                  have hxl : X.pks[j].2.length ≤ 140737488351232 := Nat.le_trans (pks_bod (fun t ht => (hHT.out.1.lb.bods t ht).2) _ (List.getElem_mem hlt2)) (by omega)
                  rw [← hx] at y3 y6 hbr hsc hnum hxl
                  clear hx
                  generalize hru : exRun X Y nk (X.pks.take j) = ru at *
                  have hrb' : 0 ≤ ru.2 ∧ ru.2 ≤ 200 := by have := HPL.out; omega
                  obtain ⟨hrb1, hrb2⟩ := hrb'
                  have HSC := Lib.hid (And.intro hsc hru)
                  have HTJ := Lib.hid (And.intro hTj (And.intro hkY (And.intro hbr (And.intro hnum hxl))))
                  clear hpR hrb hsc hru hTj hkY hbr hnum hxl hDq hgq
                  go_upto_region 19 with fail
                  have hkE : Keeps noB wr (wr.alloc (.cells #[.int .i64 X.hd.c, .int .i64 X.hd.e, .int .i64 X.hd.b, .int .i64 x.1, .int .i64 X.hd.k, .bool X.hd.v, .slice ab x.2.length cb] 24)) := (Keeps.refl _ _).alloc _
                  have hPE := heap_alloc_new wr (.cells #[.int .i64 X.hd.c, .int .i64 X.hd.e, .int .i64 X.hd.b, .int .i64 x.1, .int .i64 X.hd.k, .bool X.hd.v, .slice ab x.2.length cb] 24)
                  have hTE := HTJ.out.1.no hkE
                  have hbE := HTJ.out.2.2.1.keep hkE (fun b _ => noB_not b)
                  obtain ⟨bq, hbq⟩ : ∃ bq, bq = wr.heap.size := ⟨_, rfl⟩
                  have hkYE := HTJ.out.2.1.trans_no hkE
                  have hbqS : ∀ y, SA y → y ≠ bq := fun y hy => by have := HTJ.out.1.la.lt y hy; omega
                  rw [← hbq] at hPE ⊢
                  clear hbq hkE
                  generalize wr.alloc (.cells #[.int .i64 X.hd.c, .int .i64 X.hd.e, .int .i64 X.hd.b, .int .i64 x.1, .int .i64 X.hd.k, .bool X.hd.v, .slice ab x.2.length cb] 24) = wE at *
                  have hE : ∀ b, (fun b => B0 ≤ b) b → ¬ SA b := fun b h1 h2 => by have := HP6.out.2.2 b h2; have h1' : B0 ≤ b := h1; omega
                  have hGE : ∀ w', Keeps noB wE w' → Calls Try.prog 13 #[.pointer (some ⟨pA, 0, none⟩), .agg #[.int .i64 X.hd.c, .int .i64 X.hd.e, .int .i64 X.hd.b, .int .i64 x.1, .int .i64 X.hd.k, .bool X.hd.v, .slice ab x.2.length cb]] w' fun e w2 => ∃ a' n' c', e = .returned (.tuple #[.slice a' n' c', .bool (ru.1.takes (exQ X x))]) ∧ Keeps SA wE w2 ∧ ∃ vx vy, TwoI w w2 ba pA pB SA SB (ru.1.got (exQ X x)) X vx vy := fun w' hk => by
                    have h' := hTE.no hk
                    refine (got_b h'.la (exQ X x) _ hE ab cb HTJ.out.2.2.2.2 (hbE.keep hk (fun b _ => noB_not b)) HTJ.out.2.2.2.1).mono ?_
                    rintro e w2 ⟨a', c', ⟨he, hk2⟩, ⟨vi', hl'⟩, _⟩
                    exact ⟨a', _, c', he, (hk.of_no).trans hk2 (fun _ _ h => h), _, _, h'.turnA hk2 (fun y hy => .inl hy) hl'⟩
                  have hSE : ∀ w', Keeps noB wE w' → w'.cell? ⟨ba, 0, none⟩ = some (.pointer (some ⟨pA, 0, none⟩)) ∧ w'.cell? ⟨ba, 1, none⟩ = some (.pointer (some ⟨pB, 0, none⟩)) ∧ w'.cell? ⟨bq, 0, none⟩ = some (.int .i64 X.hd.c) ∧ w'.cell? ⟨bq, 1, none⟩ = some (.int .i64 X.hd.e) ∧ w'.cell? ⟨bq, 2, none⟩ = some (.int .i64 X.hd.b) ∧ w'.cell? ⟨bq, 3, none⟩ = some (.int .i64 x.1) ∧ w'.cell? ⟨bq, 4, none⟩ = some (.int .i64 X.hd.k) ∧ w'.cell? ⟨bq, 5, none⟩ = some (.bool X.hd.v) ∧ w'.cell? ⟨bq, 6, none⟩ = some (.slice ab x.2.length cb) := fun w' hk => by
                    have h1 := hk.blk hTE.ar (noB_not _)
                    have h2 := hk.blk hPE (noB_not _)
                    exact ⟨blk_cell h1 (i := 0) rfl, blk_cell h1 (i := 1) rfl, blk_cell h2 (i := 0) rfl, blk_cell h2 (i := 1) rfl, blk_cell h2 (i := 2) rfl, blk_cell h2 (i := 3) rfl, blk_cell h2 (i := 4) rfl, blk_cell h2 (i := 5) rfl, blk_cell h2 (i := 6) rfl⟩
                  have hSF2 : ∀ w', Keeps SA wE w' → w'.cell? ⟨ba, 0, none⟩ = some (.pointer (some ⟨pA, 0, none⟩)) ∧ w'.cell? ⟨ba, 1, none⟩ = some (.pointer (some ⟨pB, 0, none⟩)) ∧ w'.cell? ⟨bq, 0, none⟩ = some (.int .i64 X.hd.c) ∧ w'.cell? ⟨bq, 1, none⟩ = some (.int .i64 X.hd.e) ∧ w'.cell? ⟨bq, 2, none⟩ = some (.int .i64 X.hd.b) ∧ w'.cell? ⟨bq, 3, none⟩ = some (.int .i64 x.1) ∧ w'.cell? ⟨bq, 4, none⟩ = some (.int .i64 X.hd.k) ∧ w'.cell? ⟨bq, 5, none⟩ = some (.bool X.hd.v) ∧ w'.cell? ⟨bq, 6, none⟩ = some (.slice ab x.2.length cb) := fun w' hk => by
                    have h1 := hk.blk hTE.ar (fun e => (hTE.lo _ (.inl e)).2 rfl)
                    have h2 := hk.blk hPE (fun e => hbqS _ e rfl)
                    exact ⟨blk_cell h1 (i := 0) rfl, blk_cell h1 (i := 1) rfl, blk_cell h2 (i := 0) rfl, blk_cell h2 (i := 1) rfl, blk_cell h2 (i := 2) rfl, blk_cell h2 (i := 3) rfl, blk_cell h2 (i := 4) rfl, blk_cell h2 (i := 5) rfl, blk_cell h2 (i := 6) rfl⟩
                  have HSF2 := Lib.hid hSF2
                  obtain ⟨ob, hob⟩ : ∃ ob, ob = ru.1.takes (exQ X x) := ⟨_, rfl⟩
                  rw [← hob] at hGE
                  have HOB := Lib.hid hob
                  have HGE := Lib.hid hGE
                  have HSE := Lib.hid hSE
                  have HKY := Lib.hid hkYE
                  clear hob hGE hSE hSF2 hbqS hTE hPE hbE hE hkYE y0 y1 y2 y3 y4 y5 y6
                  obtain ⟨s0, s1, s2, s3, s4, s5, s6, s7, s8⟩ := HSE.out _ (Keeps.refl noB wE)
                  go_region_with (go_at_call 13; refine (HGE.out _ ((Keeps.refl noB wE).drew)).mono ?_; rintro e w7 ⟨a7, n7, c7, rfl, hk7, vx7, vy7, hT7⟩)
                  all_goals
                    have HT7 := Lib.hid (And.intro hT7 hk7)
                    clear hT7 hk7
                    cases ob
                    · go_wp2_with fail
                      go_roundw
                      case rel =>
                        obtain ⟨hsc, hru⟩ := HSC.out
                        refine ⟨j + 1, by omega, by go_num, ?_, HKY.out.trans HT7.out.2 (fun _ _ h => h), vx7, vy7, ?_⟩
                        · rw [hsc]; unfold exStep; simp only [← HOB.out]; try rfl
                        · rw [hsc]; exact HT7.out.1
                      case measure => simp [intOf]; omega
                    · go_wp2_with fail
                      go_roundw
                      case rel =>
                        obtain ⟨hsc, hru⟩ := HSC.out
                        refine ⟨j + 1, by omega, by go_num, ?_, HKY.out.trans HT7.out.2 (fun _ _ h => h), vx7, vy7, ?_⟩
                        · rw [hsc]; unfold exStep; simp only [← HOB.out, if_true]
                        · rw [hsc]; exact HT7.out.1
                      case measure => simp [intOf]; omega
                · have hje : j = X.pks.length := by omega
                  subst hje
                  rw [List.take_length, exRun_pass hHT.out.2] at hTj
                  have hfin := exRun_pass hHT.out.2 nk
                  rw [List.take_length, hfin]
                  obtain ⟨tn, htn⟩ : ∃ tn, tn = nk + (X.L.length : Int) := ⟨_, rfl⟩
                  have HTJ := Lib.hid (And.intro hTj htn)
                  try simp only
                  rw [← htn]
                  clear hTj hfin htn hkY
                  go_wp2_with fail
                  go_roundw
                  case rel =>
                    obtain ⟨hstep, hnk⟩ := HST.out
                    obtain ⟨hX, hY⟩ := HXY.out
                    refine ⟨2, by omega, by go_num, ?_, vx, vy, ?_⟩
                    · subst hX; rw [hstep, HTJ.out.2, hnk]
                    · subst hX hY; rw [hstep]; exact HTJ.out.1
                  case measure => simp [intOf]
            · have hP : PassOK ((A.pass B).pass A) (A.pass B) := HB.out.2.2.2.2.1.p2
              have hT : TwoI w wr ba pA pB SA SB ((A.pass B).pass A) (A.pass B) va' vb' := hTk
              have hbd := HB.out.2.2.2.2.1.stg_bound
              have hstep : stg A B tt 3 = ((A.pass B).pass A, ((A.pass B).pass A).pass (A.pass B), (stg A B tt 2).2.2 + ((A.pass B).pass A).L.length) := rfl
              obtain ⟨nk, hnk⟩ : ∃ nk, nk = (stg A B tt 2).2.2 := ⟨_, rfl⟩
              have hnb : 0 ≤ nk ∧ nk ≤ 100 := by rw [hnk]; omega
              have hnx : ((A.pass B).pass A).L.length ≤ 8 := hT.la.few
              have hsent : (A.pass B).heard + ((A.pass B).pass A).L.length ≤ 1000000000 := by have h1 := HB.out.1.la.sb; rw [HB.out.2.2.2.2.1.e2, HB.out.2.2.2.2.1.e1]; show A.sent + (([] : List It).length : Int) ≤ _; simp; omega
              rw [← hnk]
              have HST := Lib.hid (And.intro hstep hnk)
              clear hTk hstep hnk hbd
              have c0 := blk_cell hT.ar (i := 0) rfl
              have c1 := blk_cell hT.ar (i := 1) rfl
              have hPk := packets_c hT.la
              obtain ⟨X, hX⟩ : ∃ X, X = ((A.pass B).pass A) := ⟨_, rfl⟩
              obtain ⟨Y, hY⟩ : ∃ Y, Y = (A.pass B) := ⟨_, rfl⟩
              rw [← hX] at hPk hnx hsent
              rw [← hY] at hsent
              rw [← hX, ← hY] at hP hT
              have HXY := Lib.hid (And.intro hX hY)
              clear hX hY
              have hHT := Lib.hid (And.intro hT hP)
              clear hT hP
              go_wp2_with fail
              refine hPk.mono ?_
              rintro e w6 ⟨v6, ⟨rfl, hk6⟩, hp6⟩
              clear hPk c0 c1
              obtain ⟨a6, c6, rfl⟩ := hp6.slice
              have hT6 := hHT.out.1.no hk6
              have hpl : X.pks.length ≤ 8 := by have h1 := pks_len X; split at h1 <;> omega
              obtain ⟨B0, hB0⟩ : ∃ B0, B0 = wr.heap.size := ⟨_, rfl⟩
              have hSB0 : ∀ y, SB y → y < B0 := fun y hy => by rw [hB0]; exact hHT.out.1.lb.lt y hy
              have hRow : PkR w6 (fun x => B0 ≤ x) (.slice a6 X.pks.length c6) X.hd X.pks := by rw [hB0]; exact hp6.row
              have HP6 := Lib.hid (And.intro hRow (And.intro hT6 hSB0))
              clear hRow hSB0 hB0
              have HPL := Lib.hid hpl
              clear hp6 hT6 hk6
              go_wp2_with fail
              go_loopw [7, 106] (fun told iv wx => ∃ j : Nat, j ≤ X.pks.length ∧ iv = .int .i64 j ∧ told = .int .i64 (exRun X Y nk (X.pks.take j)).2 ∧ Keeps SB w6 wx ∧ ∃ vx vy, TwoI w wx ba pA pB SA SB X (exRun X Y nk (X.pks.take j)).1 vx vy)
                (fun _ iv _ => X.pks.length - (intOf iv).toNat)
              case atStart => exact ⟨0, by omega, rfl, rfl, Keeps.refl _ _, _, _, HP6.out.2.1⟩
              case round =>
                obtain ⟨j, hj, rfl, rfl, hkY, vx, vy, hTj⟩ := hrel
                by_cases hlt2 : j < X.pks.length
                · have hpR := HP6.out.1.keep hkY (fun b _ h1 h2 => by have := HP6.out.2.2 b h2; have h1' : B0 ≤ b := h1; omega)
                  obtain ⟨gq, oq, rfl, hgq, hDq, ab, cb, y0, y1, y2, y3, y4, y5, y6, hbr⟩ := hpR.at_ hlt2
                  have hrb := exRun_n X Y nk (X.pks.take j)
                  rw [List.length_take] at hrb
                  have hsc := exRun_succ X Y nk X.pks j hlt2
                  have hnum := hHT.out.2.num hsent _ (List.getElem_mem hlt2)
                  obtain ⟨x, hx⟩ : ∃ x, x = X.pks[j] := ⟨_, rfl⟩
                  have hxl : X.pks[j].2.length ≤ 140737488351232 := Nat.le_trans (pks_bod (fun t ht => (hHT.out.1.la.bods t ht).2) _ (List.getElem_mem hlt2)) (by omega)
                  rw [← hx] at y3 y6 hbr hsc hnum hxl
                  clear hx
                  generalize hru : exRun X Y nk (X.pks.take j) = ru at *
                  have hrb' : 0 ≤ ru.2 ∧ ru.2 ≤ 200 := by have := HPL.out; omega
                  obtain ⟨hrb1, hrb2⟩ := hrb'
                  have HSC := Lib.hid (And.intro hsc hru)
                  have HTJ := Lib.hid (And.intro hTj (And.intro hkY (And.intro hbr (And.intro hnum hxl))))
                  clear hpR hrb hsc hru hTj hkY hbr hnum hxl hDq hgq
                  go_upto_region 19 with fail
                  have hkE : Keeps noB wr (wr.alloc (.cells #[.int .i64 X.hd.c, .int .i64 X.hd.e, .int .i64 X.hd.b, .int .i64 x.1, .int .i64 X.hd.k, .bool X.hd.v, .slice ab x.2.length cb] 24)) := (Keeps.refl _ _).alloc _
                  have hPE := heap_alloc_new wr (.cells #[.int .i64 X.hd.c, .int .i64 X.hd.e, .int .i64 X.hd.b, .int .i64 x.1, .int .i64 X.hd.k, .bool X.hd.v, .slice ab x.2.length cb] 24)
                  have hTE := HTJ.out.1.no hkE
                  have hbE := HTJ.out.2.2.1.keep hkE (fun b _ => noB_not b)
                  obtain ⟨bq, hbq⟩ : ∃ bq, bq = wr.heap.size := ⟨_, rfl⟩
                  have hkYE := HTJ.out.2.1.trans_no hkE
                  have hbqS : ∀ y, SB y → y ≠ bq := fun y hy => by have := HTJ.out.1.lb.lt y hy; omega
                  rw [← hbq] at hPE ⊢
                  clear hbq hkE
                  generalize wr.alloc (.cells #[.int .i64 X.hd.c, .int .i64 X.hd.e, .int .i64 X.hd.b, .int .i64 x.1, .int .i64 X.hd.k, .bool X.hd.v, .slice ab x.2.length cb] 24) = wE at *
                  have hE : ∀ b, (fun b => B0 ≤ b) b → ¬ SB b := fun b h1 h2 => by have := HP6.out.2.2 b h2; have h1' : B0 ≤ b := h1; omega
                  have hGE : ∀ w', Keeps noB wE w' → Calls Try.prog 13 #[.pointer (some ⟨pB, 0, none⟩), .agg #[.int .i64 X.hd.c, .int .i64 X.hd.e, .int .i64 X.hd.b, .int .i64 x.1, .int .i64 X.hd.k, .bool X.hd.v, .slice ab x.2.length cb]] w' fun e w2 => ∃ a' n' c', e = .returned (.tuple #[.slice a' n' c', .bool (ru.1.takes (exQ X x))]) ∧ Keeps SB wE w2 ∧ ∃ vx vy, TwoI w w2 ba pA pB SA SB X (ru.1.got (exQ X x)) vx vy := fun w' hk => by
                    have h' := hTE.no hk
                    refine (got_b h'.lb (exQ X x) _ hE ab cb HTJ.out.2.2.2.2 (hbE.keep hk (fun b _ => noB_not b)) HTJ.out.2.2.2.1).mono ?_
                    rintro e w2 ⟨a', c', ⟨he, hk2⟩, ⟨vi', hl'⟩, _⟩
                    exact ⟨a', _, c', he, (hk.of_no).trans hk2 (fun _ _ h => h), _, _, h'.turnB hk2 (fun y hy => .inl hy) hl'⟩
                  have hSE : ∀ w', Keeps noB wE w' → w'.cell? ⟨ba, 0, none⟩ = some (.pointer (some ⟨pA, 0, none⟩)) ∧ w'.cell? ⟨ba, 1, none⟩ = some (.pointer (some ⟨pB, 0, none⟩)) ∧ w'.cell? ⟨bq, 0, none⟩ = some (.int .i64 X.hd.c) ∧ w'.cell? ⟨bq, 1, none⟩ = some (.int .i64 X.hd.e) ∧ w'.cell? ⟨bq, 2, none⟩ = some (.int .i64 X.hd.b) ∧ w'.cell? ⟨bq, 3, none⟩ = some (.int .i64 x.1) ∧ w'.cell? ⟨bq, 4, none⟩ = some (.int .i64 X.hd.k) ∧ w'.cell? ⟨bq, 5, none⟩ = some (.bool X.hd.v) ∧ w'.cell? ⟨bq, 6, none⟩ = some (.slice ab x.2.length cb) := fun w' hk => by
                    have h1 := hk.blk hTE.ar (noB_not _)
                    have h2 := hk.blk hPE (noB_not _)
                    exact ⟨blk_cell h1 (i := 0) rfl, blk_cell h1 (i := 1) rfl, blk_cell h2 (i := 0) rfl, blk_cell h2 (i := 1) rfl, blk_cell h2 (i := 2) rfl, blk_cell h2 (i := 3) rfl, blk_cell h2 (i := 4) rfl, blk_cell h2 (i := 5) rfl, blk_cell h2 (i := 6) rfl⟩
                  have hSF2 : ∀ w', Keeps SB wE w' → w'.cell? ⟨ba, 0, none⟩ = some (.pointer (some ⟨pA, 0, none⟩)) ∧ w'.cell? ⟨ba, 1, none⟩ = some (.pointer (some ⟨pB, 0, none⟩)) ∧ w'.cell? ⟨bq, 0, none⟩ = some (.int .i64 X.hd.c) ∧ w'.cell? ⟨bq, 1, none⟩ = some (.int .i64 X.hd.e) ∧ w'.cell? ⟨bq, 2, none⟩ = some (.int .i64 X.hd.b) ∧ w'.cell? ⟨bq, 3, none⟩ = some (.int .i64 x.1) ∧ w'.cell? ⟨bq, 4, none⟩ = some (.int .i64 X.hd.k) ∧ w'.cell? ⟨bq, 5, none⟩ = some (.bool X.hd.v) ∧ w'.cell? ⟨bq, 6, none⟩ = some (.slice ab x.2.length cb) := fun w' hk => by
                    have h1 := hk.blk hTE.ar (fun e => (hTE.lo _ (.inr e)).2 rfl)
                    have h2 := hk.blk hPE (fun e => hbqS _ e rfl)
                    exact ⟨blk_cell h1 (i := 0) rfl, blk_cell h1 (i := 1) rfl, blk_cell h2 (i := 0) rfl, blk_cell h2 (i := 1) rfl, blk_cell h2 (i := 2) rfl, blk_cell h2 (i := 3) rfl, blk_cell h2 (i := 4) rfl, blk_cell h2 (i := 5) rfl, blk_cell h2 (i := 6) rfl⟩
                  have HSF2 := Lib.hid hSF2
                  obtain ⟨ob, hob⟩ : ∃ ob, ob = ru.1.takes (exQ X x) := ⟨_, rfl⟩
                  rw [← hob] at hGE
                  have HOB := Lib.hid hob
                  have HGE := Lib.hid hGE
                  have HSE := Lib.hid hSE
                  have HKY := Lib.hid hkYE
                  clear hob hGE hSE hSF2 hbqS hTE hPE hbE hE hkYE y0 y1 y2 y3 y4 y5 y6
                  obtain ⟨s0, s1, s2, s3, s4, s5, s6, s7, s8⟩ := HSE.out _ (Keeps.refl noB wE)
                  go_region_with (go_at_call 13; refine (HGE.out _ ((Keeps.refl noB wE).drew)).mono ?_; rintro e w7 ⟨a7, n7, c7, rfl, hk7, vx7, vy7, hT7⟩)
                  all_goals
                    have HT7 := Lib.hid (And.intro hT7 hk7)
                    clear hT7 hk7
                    cases ob
                    · go_wp2_with fail
                      go_roundw
                      case rel =>
                        obtain ⟨hsc, hru⟩ := HSC.out
                        refine ⟨j + 1, by omega, by go_num, ?_, HKY.out.trans HT7.out.2 (fun _ _ h => h), vx7, vy7, ?_⟩
                        · rw [hsc]; unfold exStep; simp only [← HOB.out]; try rfl
                        · rw [hsc]; exact HT7.out.1
                      case measure => simp [intOf]; omega
                    · go_wp2_with fail
                      go_roundw
                      case rel =>
                        obtain ⟨hsc, hru⟩ := HSC.out
                        refine ⟨j + 1, by omega, by go_num, ?_, HKY.out.trans HT7.out.2 (fun _ _ h => h), vx7, vy7, ?_⟩
                        · rw [hsc]; unfold exStep; simp only [← HOB.out, if_true]
                        · rw [hsc]; exact HT7.out.1
                      case measure => simp [intOf]; omega
                · have hje : j = X.pks.length := by omega
                  subst hje
                  rw [List.take_length, exRun_pass hHT.out.2] at hTj
                  have hfin := exRun_pass hHT.out.2 nk
                  rw [List.take_length, hfin]
                  obtain ⟨tn, htn⟩ : ∃ tn, tn = nk + (X.L.length : Int) := ⟨_, rfl⟩
                  have HTJ := Lib.hid (And.intro hTj htn)
                  try simp only
                  rw [← htn]
                  clear hTj hfin htn hkY
                  go_wp2_with fail
                  go_roundw
                  case rel =>
                    obtain ⟨hstep, hnk⟩ := HST.out
                    obtain ⟨hX, hY⟩ := HXY.out
                    refine ⟨3, by omega, by go_num, ?_, vx, vy, ?_⟩
                    · subst hX; rw [hstep, HTJ.out.2, hnk]
                    · subst hX hY; rw [hstep]; exact HTJ.out.1
                  case measure => simp [intOf]
            · have hP : PassOK (((A.pass B).pass A).pass (A.pass B)) ((A.pass B).pass A) := HB.out.2.2.2.2.1.p3
              have hT : TwoI w wr ba pA pB SA SB ((A.pass B).pass A) (((A.pass B).pass A).pass (A.pass B)) va' vb' := hTk
              have hbd := HB.out.2.2.2.2.1.stg_bound
              have hstep : stg A B tt 4 = ((((A.pass B).pass A).pass (A.pass B)).pass ((A.pass B).pass A), ((A.pass B).pass A).pass (A.pass B), (stg A B tt 3).2.2 + (((A.pass B).pass A).pass (A.pass B)).L.length) := rfl
              obtain ⟨nk, hnk⟩ : ∃ nk, nk = (stg A B tt 3).2.2 := ⟨_, rfl⟩
              have hnb : 0 ≤ nk ∧ nk ≤ 100 := by rw [hnk]; omega
              have hnx : (((A.pass B).pass A).pass (A.pass B)).L.length ≤ 8 := hT.lb.few
              have hsent : ((A.pass B).pass A).heard + (((A.pass B).pass A).pass (A.pass B)).L.length ≤ 1000000000 := by have h1 := HB.out.1.lb.sb; rw [HB.out.2.2.2.2.1.e3, HB.out.2.2.2.2.1.e2]; show B.sent + (([] : List It).length : Int) ≤ _; simp; omega
              rw [← hnk]
              have HST := Lib.hid (And.intro hstep hnk)
              clear hTk hstep hnk hbd
              have c0 := blk_cell hT.ar (i := 0) rfl
              have c1 := blk_cell hT.ar (i := 1) rfl
              have hPk := packets_c hT.lb
              obtain ⟨X, hX⟩ : ∃ X, X = (((A.pass B).pass A).pass (A.pass B)) := ⟨_, rfl⟩
              obtain ⟨Y, hY⟩ : ∃ Y, Y = ((A.pass B).pass A) := ⟨_, rfl⟩
              rw [← hX] at hPk hnx hsent
              rw [← hY] at hsent
              rw [← hX, ← hY] at hP hT
              have HXY := Lib.hid (And.intro hX hY)
              clear hX hY
              have hHT := Lib.hid (And.intro hT hP)
              clear hT hP
              go_wp2_with fail
              refine hPk.mono ?_
              rintro e w6 ⟨v6, ⟨rfl, hk6⟩, hp6⟩
              clear hPk c0 c1
              obtain ⟨a6, c6, rfl⟩ := hp6.slice
              have hT6 := hHT.out.1.no hk6
              have hpl : X.pks.length ≤ 8 := by have h1 := pks_len X; split at h1 <;> omega
              obtain ⟨B0, hB0⟩ : ∃ B0, B0 = wr.heap.size := ⟨_, rfl⟩
              have hSB0 : ∀ y, SA y → y < B0 := fun y hy => by rw [hB0]; exact hHT.out.1.la.lt y hy
              have hRow : PkR w6 (fun x => B0 ≤ x) (.slice a6 X.pks.length c6) X.hd X.pks := by rw [hB0]; exact hp6.row
              have HP6 := Lib.hid (And.intro hRow (And.intro hT6 hSB0))
              clear hRow hSB0 hB0
              have HPL := Lib.hid hpl
              clear hp6 hT6 hk6
              go_wp2_with fail
              go_loopw [7, 106] (fun told iv wx => ∃ j : Nat, j ≤ X.pks.length ∧ iv = .int .i64 j ∧ told = .int .i64 (exRun X Y nk (X.pks.take j)).2 ∧ Keeps SA w6 wx ∧ ∃ vx vy, TwoI w wx ba pA pB SA SB (exRun X Y nk (X.pks.take j)).1 X vx vy)
                (fun _ iv _ => X.pks.length - (intOf iv).toNat)
              case atStart => exact ⟨0, by omega, rfl, rfl, Keeps.refl _ _, _, _, HP6.out.2.1⟩
              case round =>
                obtain ⟨j, hj, rfl, rfl, hkY, vx, vy, hTj⟩ := hrel
                by_cases hlt2 : j < X.pks.length
                · have hpR := HP6.out.1.keep hkY (fun b _ h1 h2 => by have := HP6.out.2.2 b h2; have h1' : B0 ≤ b := h1; omega)
                  obtain ⟨gq, oq, rfl, hgq, hDq, ab, cb, y0, y1, y2, y3, y4, y5, y6, hbr⟩ := hpR.at_ hlt2
                  have hrb := exRun_n X Y nk (X.pks.take j)
                  rw [List.length_take] at hrb
                  have hsc := exRun_succ X Y nk X.pks j hlt2
                  have hnum := hHT.out.2.num hsent _ (List.getElem_mem hlt2)
                  obtain ⟨x, hx⟩ : ∃ x, x = X.pks[j] := ⟨_, rfl⟩
                  have hxl : X.pks[j].2.length ≤ 140737488351232 := Nat.le_trans (pks_bod (fun t ht => (hHT.out.1.lb.bods t ht).2) _ (List.getElem_mem hlt2)) (by omega)
                  rw [← hx] at y3 y6 hbr hsc hnum hxl
                  clear hx
                  generalize hru : exRun X Y nk (X.pks.take j) = ru at *
                  have hrb' : 0 ≤ ru.2 ∧ ru.2 ≤ 200 := by have := HPL.out; omega
                  obtain ⟨hrb1, hrb2⟩ := hrb'
                  have HSC := Lib.hid (And.intro hsc hru)
                  have HTJ := Lib.hid (And.intro hTj (And.intro hkY (And.intro hbr (And.intro hnum hxl))))
                  clear hpR hrb hsc hru hTj hkY hbr hnum hxl hDq hgq
                  go_upto_region 19 with fail
                  have hkE : Keeps noB wr (wr.alloc (.cells #[.int .i64 X.hd.c, .int .i64 X.hd.e, .int .i64 X.hd.b, .int .i64 x.1, .int .i64 X.hd.k, .bool X.hd.v, .slice ab x.2.length cb] 24)) := (Keeps.refl _ _).alloc _
                  have hPE := heap_alloc_new wr (.cells #[.int .i64 X.hd.c, .int .i64 X.hd.e, .int .i64 X.hd.b, .int .i64 x.1, .int .i64 X.hd.k, .bool X.hd.v, .slice ab x.2.length cb] 24)
                  have hTE := HTJ.out.1.no hkE
                  have hbE := HTJ.out.2.2.1.keep hkE (fun b _ => noB_not b)
                  obtain ⟨bq, hbq⟩ : ∃ bq, bq = wr.heap.size := ⟨_, rfl⟩
                  have hkYE := HTJ.out.2.1.trans_no hkE
                  have hbqS : ∀ y, SA y → y ≠ bq := fun y hy => by have := HTJ.out.1.la.lt y hy; omega
                  rw [← hbq] at hPE ⊢
                  clear hbq hkE
                  generalize wr.alloc (.cells #[.int .i64 X.hd.c, .int .i64 X.hd.e, .int .i64 X.hd.b, .int .i64 x.1, .int .i64 X.hd.k, .bool X.hd.v, .slice ab x.2.length cb] 24) = wE at *
                  have hE : ∀ b, (fun b => B0 ≤ b) b → ¬ SA b := fun b h1 h2 => by have := HP6.out.2.2 b h2; have h1' : B0 ≤ b := h1; omega
                  have hGE : ∀ w', Keeps noB wE w' → Calls Try.prog 13 #[.pointer (some ⟨pA, 0, none⟩), .agg #[.int .i64 X.hd.c, .int .i64 X.hd.e, .int .i64 X.hd.b, .int .i64 x.1, .int .i64 X.hd.k, .bool X.hd.v, .slice ab x.2.length cb]] w' fun e w2 => ∃ a' n' c', e = .returned (.tuple #[.slice a' n' c', .bool (ru.1.takes (exQ X x))]) ∧ Keeps SA wE w2 ∧ ∃ vx vy, TwoI w w2 ba pA pB SA SB (ru.1.got (exQ X x)) X vx vy := fun w' hk => by
                    have h' := hTE.no hk
                    refine (got_b h'.la (exQ X x) _ hE ab cb HTJ.out.2.2.2.2 (hbE.keep hk (fun b _ => noB_not b)) HTJ.out.2.2.2.1).mono ?_
                    rintro e w2 ⟨a', c', ⟨he, hk2⟩, ⟨vi', hl'⟩, _⟩
                    exact ⟨a', _, c', he, (hk.of_no).trans hk2 (fun _ _ h => h), _, _, h'.turnA hk2 (fun y hy => .inl hy) hl'⟩
                  have hSE : ∀ w', Keeps noB wE w' → w'.cell? ⟨ba, 0, none⟩ = some (.pointer (some ⟨pA, 0, none⟩)) ∧ w'.cell? ⟨ba, 1, none⟩ = some (.pointer (some ⟨pB, 0, none⟩)) ∧ w'.cell? ⟨bq, 0, none⟩ = some (.int .i64 X.hd.c) ∧ w'.cell? ⟨bq, 1, none⟩ = some (.int .i64 X.hd.e) ∧ w'.cell? ⟨bq, 2, none⟩ = some (.int .i64 X.hd.b) ∧ w'.cell? ⟨bq, 3, none⟩ = some (.int .i64 x.1) ∧ w'.cell? ⟨bq, 4, none⟩ = some (.int .i64 X.hd.k) ∧ w'.cell? ⟨bq, 5, none⟩ = some (.bool X.hd.v) ∧ w'.cell? ⟨bq, 6, none⟩ = some (.slice ab x.2.length cb) := fun w' hk => by
                    have h1 := hk.blk hTE.ar (noB_not _)
                    have h2 := hk.blk hPE (noB_not _)
                    exact ⟨blk_cell h1 (i := 0) rfl, blk_cell h1 (i := 1) rfl, blk_cell h2 (i := 0) rfl, blk_cell h2 (i := 1) rfl, blk_cell h2 (i := 2) rfl, blk_cell h2 (i := 3) rfl, blk_cell h2 (i := 4) rfl, blk_cell h2 (i := 5) rfl, blk_cell h2 (i := 6) rfl⟩
                  have hSF2 : ∀ w', Keeps SA wE w' → w'.cell? ⟨ba, 0, none⟩ = some (.pointer (some ⟨pA, 0, none⟩)) ∧ w'.cell? ⟨ba, 1, none⟩ = some (.pointer (some ⟨pB, 0, none⟩)) ∧ w'.cell? ⟨bq, 0, none⟩ = some (.int .i64 X.hd.c) ∧ w'.cell? ⟨bq, 1, none⟩ = some (.int .i64 X.hd.e) ∧ w'.cell? ⟨bq, 2, none⟩ = some (.int .i64 X.hd.b) ∧ w'.cell? ⟨bq, 3, none⟩ = some (.int .i64 x.1) ∧ w'.cell? ⟨bq, 4, none⟩ = some (.int .i64 X.hd.k) ∧ w'.cell? ⟨bq, 5, none⟩ = some (.bool X.hd.v) ∧ w'.cell? ⟨bq, 6, none⟩ = some (.slice ab x.2.length cb) := fun w' hk => by
                    have h1 := hk.blk hTE.ar (fun e => (hTE.lo _ (.inl e)).2 rfl)
                    have h2 := hk.blk hPE (fun e => hbqS _ e rfl)
                    exact ⟨blk_cell h1 (i := 0) rfl, blk_cell h1 (i := 1) rfl, blk_cell h2 (i := 0) rfl, blk_cell h2 (i := 1) rfl, blk_cell h2 (i := 2) rfl, blk_cell h2 (i := 3) rfl, blk_cell h2 (i := 4) rfl, blk_cell h2 (i := 5) rfl, blk_cell h2 (i := 6) rfl⟩
                  have HSF2 := Lib.hid hSF2
                  obtain ⟨ob, hob⟩ : ∃ ob, ob = ru.1.takes (exQ X x) := ⟨_, rfl⟩
                  rw [← hob] at hGE
                  have HOB := Lib.hid hob
                  have HGE := Lib.hid hGE
                  have HSE := Lib.hid hSE
                  have HKY := Lib.hid hkYE
                  clear hob hGE hSE hSF2 hbqS hTE hPE hbE hE hkYE y0 y1 y2 y3 y4 y5 y6
                  obtain ⟨s0, s1, s2, s3, s4, s5, s6, s7, s8⟩ := HSE.out _ (Keeps.refl noB wE)
                  go_region_with (go_at_call 13; refine (HGE.out _ ((Keeps.refl noB wE).drew)).mono ?_; rintro e w7 ⟨a7, n7, c7, rfl, hk7, vx7, vy7, hT7⟩)
                  all_goals
                    have HT7 := Lib.hid (And.intro hT7 hk7)
                    clear hT7 hk7
                    cases ob
                    · go_wp2_with fail
                      go_roundw
                      case rel =>
                        obtain ⟨hsc, hru⟩ := HSC.out
                        refine ⟨j + 1, by omega, by go_num, ?_, HKY.out.trans HT7.out.2 (fun _ _ h => h), vx7, vy7, ?_⟩
                        · rw [hsc]; unfold exStep; simp only [← HOB.out]; try rfl
                        · rw [hsc]; exact HT7.out.1
                      case measure => simp [intOf]; omega
                    · go_wp2_with fail
                      go_roundw
                      case rel =>
                        obtain ⟨hsc, hru⟩ := HSC.out
                        refine ⟨j + 1, by omega, by go_num, ?_, HKY.out.trans HT7.out.2 (fun _ _ h => h), vx7, vy7, ?_⟩
                        · rw [hsc]; unfold exStep; simp only [← HOB.out, if_true]
                        · rw [hsc]; exact HT7.out.1
                      case measure => simp [intOf]; omega
                · have hje : j = X.pks.length := by omega
                  subst hje
                  rw [List.take_length, exRun_pass hHT.out.2] at hTj
                  have hfin := exRun_pass hHT.out.2 nk
                  rw [List.take_length, hfin]
                  obtain ⟨tn, htn⟩ : ∃ tn, tn = nk + (X.L.length : Int) := ⟨_, rfl⟩
                  have HTJ := Lib.hid (And.intro hTj htn)
                  try simp only
                  rw [← htn]
                  clear hTj hfin htn hkY
                  go_wp2_with fail
                  go_roundw
                  case rel =>
                    obtain ⟨hstep, hnk⟩ := HST.out
                    obtain ⟨hX, hY⟩ := HXY.out
                    refine ⟨4, by omega, by go_num, ?_, vx, vy, ?_⟩
                    · subst hX; rw [hstep, HTJ.out.2, hnk]
                    · subst hX hY; rw [hstep]; exact HTJ.out.1
                  case measure => simp [intOf]
            · have hT : TwoI w wr ba pA pB SA SB (stg A B tt 4).1 (stg A B tt 4).2.1 va' vb' := hTk
              obtain ⟨hGd, hAe, hBe, hse⟩ := HB.out.2.2.2.2.1.done
              rw [hse] at hGd ⊢
              have hO : ∀ q, (q = pA ∨ q = pB) → Calls Try.prog 14 #[.pointer (some ⟨q, 0, none⟩)] wr.drew (Ret (.int .i64 0) wr.drew) := fun q hq => by
                have hT' := hT.no ((Keeps.refl noB wr).drew)
                rcases hq with rfl | rfl
                · have := open_c hT'.la; rw [hAe] at this; exact this
                · have := open_c hT'.lb; rw [hBe] at this; exact this
              have hS4 : ∀ w', Keeps noB wr w' → w'.cell? ⟨ba, 0, none⟩ = some (.pointer (some ⟨pA, 0, none⟩)) ∧ w'.cell? ⟨ba, 1, none⟩ = some (.pointer (some ⟨pB, 0, none⟩)) := fun w' hk => by
                have h1 := hk.blk hT.ar (noB_not _)
                exact ⟨blk_cell h1 (i := 0) rfl, blk_cell h1 (i := 1) rfl⟩
              have HO := Lib.hid hO
              have HS4 := Lib.hid hS4
              have HTG := Lib.hid (And.intro hT hGd)
              clear hO hS4 hT hTk hGd hAe hBe hse
              go_upto_region 23 with fail
              go_region_held3 (fun w' => w'.cell? ⟨ba, 0, none⟩ = some (.pointer (some ⟨pA, 0, none⟩)) ∧ w'.cell? ⟨ba, 1, none⟩ = some (.pointer (some ⟨pB, 0, none⟩)))
                (first | exact HS4.out _ ((Keeps.refl noB wr).drew))
                (first | (go_at_call 14; refine (HO.out _ (by first | exact .inl rfl | exact .inr rfl)).mono ?_; rintro e w7 ⟨rfl, rfl⟩))
              all_goals
                go_wp2_with fail
                go_roundw
                case rel => exact ⟨n + 1, by omega, by go_num, s, s, _, _, _, _, _, _, rfl, rfl, HTG.out.1.no ((Keeps.refl noB wr).drew), HTG.out.2, by omega⟩
                case measure => simp [intOf]; omega
        · have d1 : decide (kd < 2) = true := decide_eq_true hk2
          by_cases hk0 : kd < 0
          · have d2 : decide (kd ≥ 0) = false := decide_eq_false (by omega)
            have x0 := (HS.out _ (Keeps.refl noB wB)).1
            go_quiet (fail)
            have x0 := (HS.out _ ((Keeps.refl noB wB).drewN nq)).1
            go_wp2_with fail
            go_roundw
            case rel => exact ⟨n + 1, by omega, by go_num, s, tt, _, _, _, _, _, _, rfl, rfl, HB.out.1.no ((Keeps.refl noB wB).drewN nq), HB.out.2.2.2.2.1, by omega⟩
            case measure => simp [intOf]; omega
          · have hk01 : kd = 0 ∨ kd = 1 := by omega
            clear hk2 hk0 d1
            rcases hk01 with rfl | rfl
            · by_cases hE : pushE A dl = 0
              · have hPU : ∀ w3, Keeps noB wB w3 → ∀ a3 c3 D3, ByR w3 D3 a3 dl → Calls Try.prog 11 #[.pointer (some ⟨pA, 0, none⟩), .slice a3 dl.length c3] w3 fun e w4 => e = .returned (.int .i64 0) ∧ Keeps SA wB w4 ∧ ∃ (A' B' : Lk) (SA' SB' : Nat → Prop) (va' vb' : Value), TwoI w w4 ba pA pB SA' SB' A' B' va' vb' ∧ Good A' B' tt (s + 1) := fun w3 hk a3 c3 D3 hr3 => by
                  have h3 := HB.out.1.no hk
                  refine (push_c h3.la D3 a3 dl c3 hdl hr3).mono ?_
                  rintro e w4 ⟨⟨he, hk4⟩, S4, _, hS2, v4, t4, ht1, ht2, hl4⟩
                  rw [hE] at he; rw [if_pos hE] at hl4
                  exact ⟨he, (hk.of_no).trans hk4 (fun _ _ h => h), _, _, _, _, _, _, h3.turnA hk4 hS2 hl4, HB.out.2.2.2.2.1.pushA t4 ht1⟩
                have HPU := Lib.hid hPU
                clear hPU
                have hnx : ¬ SA bx := fun h => by have := HB.out.2.2.2.2.2 _ (.inl h); exact absurd this (Nat.lt_irrefl _)
                have hna : ¬ SA ba := fun h => (HB.out.1.lo _ (.inl h)).2 rfl
                go_region_held3 (fun w' => w'.cell? ⟨bx, 0, none⟩ = some (.int .i64 0) ∧ w'.cell? ⟨bx, 2, none⟩ = some (.slice da dl.length dc) ∧ w'.cell? ⟨ba, 0, none⟩ = some (.pointer (some ⟨pA, 0, none⟩)) ∧ w'.cell? ⟨ba, 1, none⟩ = some (.pointer (some ⟨pB, 0, none⟩)))
                  (first | exact HS.out _ ((Keeps.refl noB wB).drew) | exact HS.out _ (((Keeps.refl noB wB).alloc _).drew) | exact HS.out _ hk3 | exact HSF.out _ _ hk4 hnx hna)
                  (first
                    | (refine step_append_byg (by rfl) _ _ rfl wB.heap.size _ _ _ rfl (own_keep_no (own_bytes0 wB) ((Keeps.refl noB _).drew)) da dl dc _ rfl (HB.out.2.2.1.keep (((Keeps.refl noB wB).alloc _).drew) (fun b _ => noB_not b)) (by omega) (by show wB.heap.size ≤ (wB.alloc _).heap.size; rw [alloc_size]; omega) ?_; intro v' w3 hown' hgrow; obtain ⟨hk3', a3, c3, rfl, hO3⟩ := copy_own (w := wB.drew) (by simpa using hown') hgrow; have hk3 := ((Keeps.refl noB wB).drew).trans_no hk3')
                    | (go_at_call 11; refine (HPU.out _ hk3 a3 c3 _ hO3.byr).mono ?_; rintro e w4 ⟨rfl, hk4, A', B', SA', SB', va', vb', hT4, hG4⟩))
                have x0 := (HSF.out _ _ hk4 hnx hna).1
                have HT4 := Lib.hid (And.intro hT4 hG4)
                clear hT4 hG4 hk4 hk3 hk3' hO3 hown' hgrow hnx hna
                go_wp2_with fail
                go_roundw
                case rel => exact ⟨n + 1, by omega, by go_num, _, tt, _, _, _, _, _, _, rfl, rfl, HT4.out.1, HT4.out.2, by omega⟩
                case measure => simp [intOf]; omega
              · have hPU : ∀ w3, Keeps noB wB w3 → ∀ a3 c3 D3, ByR w3 D3 a3 dl → Calls Try.prog 11 #[.pointer (some ⟨pA, 0, none⟩), .slice a3 dl.length c3] w3 fun e w4 => e = .returned (.int .i64 (pushE A dl)) ∧ Keeps SA wB w4 ∧ ∃ (A' B' : Lk) (SA' SB' : Nat → Prop) (va' vb' : Value), TwoI w w4 ba pA pB SA' SB' A' B' va' vb' ∧ Good A' B' tt s := fun w3 hk a3 c3 D3 hr3 => by
                  have h3 := HB.out.1.no hk
                  refine (push_c h3.la D3 a3 dl c3 hdl hr3).mono ?_
                  rintro e w4 ⟨⟨he, hk4⟩, S4, _, hS2, v4, t4, ht1, ht2, hl4⟩
                  rw [if_neg hE] at hl4
                  exact ⟨he, (hk.of_no).trans hk4 (fun _ _ h => h), _, _, _, _, _, _, h3.turnA hk4 hS2 hl4, HB.out.2.2.2.2.1⟩
                have hE0 : (pushE A dl == 0) = false := by simp [hE]
                obtain ⟨E, hEE⟩ : ∃ E, E = pushE A dl := ⟨_, rfl⟩
                rw [← hEE] at hPU hE0
                clear hEE
                have HPU := Lib.hid hPU
                clear hPU
                have hnx : ¬ SA bx := fun h => by have := HB.out.2.2.2.2.2 _ (.inl h); exact absurd this (Nat.lt_irrefl _)
                have hna : ¬ SA ba := fun h => (HB.out.1.lo _ (.inl h)).2 rfl
                go_region_held3 (fun w' => w'.cell? ⟨bx, 0, none⟩ = some (.int .i64 0) ∧ w'.cell? ⟨bx, 2, none⟩ = some (.slice da dl.length dc) ∧ w'.cell? ⟨ba, 0, none⟩ = some (.pointer (some ⟨pA, 0, none⟩)) ∧ w'.cell? ⟨ba, 1, none⟩ = some (.pointer (some ⟨pB, 0, none⟩)))
                  (first | exact HS.out _ ((Keeps.refl noB wB).drew) | exact HS.out _ (((Keeps.refl noB wB).alloc _).drew) | exact HS.out _ hk3 | exact HSF.out _ _ hk4 hnx hna)
                  (first
                    | (refine step_append_byg (by rfl) _ _ rfl wB.heap.size _ _ _ rfl (own_keep_no (own_bytes0 wB) ((Keeps.refl noB _).drew)) da dl dc _ rfl (HB.out.2.2.1.keep (((Keeps.refl noB wB).alloc _).drew) (fun b _ => noB_not b)) (by omega) (by show wB.heap.size ≤ (wB.alloc _).heap.size; rw [alloc_size]; omega) ?_; intro v' w3 hown' hgrow; obtain ⟨hk3', a3, c3, rfl, hO3⟩ := copy_own (w := wB.drew) (by simpa using hown') hgrow; have hk3 := ((Keeps.refl noB wB).drew).trans_no hk3')
                    | (go_at_call 11; refine (HPU.out _ hk3 a3 c3 _ hO3.byr).mono ?_; rintro e w4 ⟨rfl, hk4, A', B', SA', SB', va', vb', hT4, hG4⟩))
                have x0 := (HSF.out _ _ hk4 hnx hna).1
                have HT4 := Lib.hid (And.intro hT4 hG4)
                clear hT4 hG4 hk4 hk3 hk3' hO3 hown' hgrow hnx hna
                go_wp2_with fail
                go_roundw
                case rel => exact ⟨n + 1, by omega, by go_num, _, tt, _, _, _, _, _, _, rfl, rfl, HT4.out.1, HT4.out.2, by omega⟩
                case measure => simp [intOf]; omega
            · by_cases hE : pushE B dl = 0
              · have hPU : ∀ w3, Keeps noB wB w3 → ∀ a3 c3 D3, ByR w3 D3 a3 dl → Calls Try.prog 11 #[.pointer (some ⟨pB, 0, none⟩), .slice a3 dl.length c3] w3 fun e w4 => e = .returned (.int .i64 0) ∧ Keeps SB wB w4 ∧ ∃ (A' B' : Lk) (SA' SB' : Nat → Prop) (va' vb' : Value), TwoI w w4 ba pA pB SA' SB' A' B' va' vb' ∧ Good A' B' tt (s + 1) := fun w3 hk a3 c3 D3 hr3 => by
                  have h3 := HB.out.1.no hk
                  refine (push_c h3.lb D3 a3 dl c3 hdl hr3).mono ?_
                  rintro e w4 ⟨⟨he, hk4⟩, S4, _, hS2, v4, t4, ht1, ht2, hl4⟩
                  rw [hE] at he; rw [if_pos hE] at hl4
                  exact ⟨he, (hk.of_no).trans hk4 (fun _ _ h => h), _, _, _, _, _, _, h3.turnB hk4 hS2 hl4, HB.out.2.2.2.2.1.pushB t4 ht1⟩
                have HPU := Lib.hid hPU
                clear hPU
                have hnx : ¬ SB bx := fun h => by have := HB.out.2.2.2.2.2 _ (.inr h); exact absurd this (Nat.lt_irrefl _)
                have hna : ¬ SB ba := fun h => (HB.out.1.lo _ (.inr h)).2 rfl
                go_region_held3 (fun w' => w'.cell? ⟨bx, 0, none⟩ = some (.int .i64 1) ∧ w'.cell? ⟨bx, 2, none⟩ = some (.slice da dl.length dc) ∧ w'.cell? ⟨ba, 0, none⟩ = some (.pointer (some ⟨pA, 0, none⟩)) ∧ w'.cell? ⟨ba, 1, none⟩ = some (.pointer (some ⟨pB, 0, none⟩)))
                  (first | exact HS.out _ ((Keeps.refl noB wB).drew) | exact HS.out _ (((Keeps.refl noB wB).alloc _).drew) | exact HS.out _ hk3 | exact HSF.out _ _ hk4 hnx hna)
                  (first
                    | (refine step_append_byg (by rfl) _ _ rfl wB.heap.size _ _ _ rfl (own_keep_no (own_bytes0 wB) ((Keeps.refl noB _).drew)) da dl dc _ rfl (HB.out.2.2.1.keep (((Keeps.refl noB wB).alloc _).drew) (fun b _ => noB_not b)) (by omega) (by show wB.heap.size ≤ (wB.alloc _).heap.size; rw [alloc_size]; omega) ?_; intro v' w3 hown' hgrow; obtain ⟨hk3', a3, c3, rfl, hO3⟩ := copy_own (w := wB.drew) (by simpa using hown') hgrow; have hk3 := ((Keeps.refl noB wB).drew).trans_no hk3')
                    | (go_at_call 11; refine (HPU.out _ hk3 a3 c3 _ hO3.byr).mono ?_; rintro e w4 ⟨rfl, hk4, A', B', SA', SB', va', vb', hT4, hG4⟩))
                have x0 := (HSF.out _ _ hk4 hnx hna).1
                have HT4 := Lib.hid (And.intro hT4 hG4)
                clear hT4 hG4 hk4 hk3 hk3' hO3 hown' hgrow hnx hna
                go_wp2_with fail
                go_roundw
                case rel => exact ⟨n + 1, by omega, by go_num, _, tt, _, _, _, _, _, _, rfl, rfl, HT4.out.1, HT4.out.2, by omega⟩
                case measure => simp [intOf]; omega
              · have hPU : ∀ w3, Keeps noB wB w3 → ∀ a3 c3 D3, ByR w3 D3 a3 dl → Calls Try.prog 11 #[.pointer (some ⟨pB, 0, none⟩), .slice a3 dl.length c3] w3 fun e w4 => e = .returned (.int .i64 (pushE B dl)) ∧ Keeps SB wB w4 ∧ ∃ (A' B' : Lk) (SA' SB' : Nat → Prop) (va' vb' : Value), TwoI w w4 ba pA pB SA' SB' A' B' va' vb' ∧ Good A' B' tt s := fun w3 hk a3 c3 D3 hr3 => by
                  have h3 := HB.out.1.no hk
                  refine (push_c h3.lb D3 a3 dl c3 hdl hr3).mono ?_
                  rintro e w4 ⟨⟨he, hk4⟩, S4, _, hS2, v4, t4, ht1, ht2, hl4⟩
                  rw [if_neg hE] at hl4
                  exact ⟨he, (hk.of_no).trans hk4 (fun _ _ h => h), _, _, _, _, _, _, h3.turnB hk4 hS2 hl4, HB.out.2.2.2.2.1⟩
                have hE0 : (pushE B dl == 0) = false := by simp [hE]
                obtain ⟨E, hEE⟩ : ∃ E, E = pushE B dl := ⟨_, rfl⟩
                rw [← hEE] at hPU hE0
                clear hEE
                have HPU := Lib.hid hPU
                clear hPU
                have hnx : ¬ SB bx := fun h => by have := HB.out.2.2.2.2.2 _ (.inr h); exact absurd this (Nat.lt_irrefl _)
                have hna : ¬ SB ba := fun h => (HB.out.1.lo _ (.inr h)).2 rfl
                go_region_held3 (fun w' => w'.cell? ⟨bx, 0, none⟩ = some (.int .i64 1) ∧ w'.cell? ⟨bx, 2, none⟩ = some (.slice da dl.length dc) ∧ w'.cell? ⟨ba, 0, none⟩ = some (.pointer (some ⟨pA, 0, none⟩)) ∧ w'.cell? ⟨ba, 1, none⟩ = some (.pointer (some ⟨pB, 0, none⟩)))
                  (first | exact HS.out _ ((Keeps.refl noB wB).drew) | exact HS.out _ (((Keeps.refl noB wB).alloc _).drew) | exact HS.out _ hk3 | exact HSF.out _ _ hk4 hnx hna)
                  (first
                    | (refine step_append_byg (by rfl) _ _ rfl wB.heap.size _ _ _ rfl (own_keep_no (own_bytes0 wB) ((Keeps.refl noB _).drew)) da dl dc _ rfl (HB.out.2.2.1.keep (((Keeps.refl noB wB).alloc _).drew) (fun b _ => noB_not b)) (by omega) (by show wB.heap.size ≤ (wB.alloc _).heap.size; rw [alloc_size]; omega) ?_; intro v' w3 hown' hgrow; obtain ⟨hk3', a3, c3, rfl, hO3⟩ := copy_own (w := wB.drew) (by simpa using hown') hgrow; have hk3 := ((Keeps.refl noB wB).drew).trans_no hk3')
                    | (go_at_call 11; refine (HPU.out _ hk3 a3 c3 _ hO3.byr).mono ?_; rintro e w4 ⟨rfl, hk4, A', B', SA', SB', va', vb', hT4, hG4⟩))
                have x0 := (HSF.out _ _ hk4 hnx hna).1
                have HT4 := Lib.hid (And.intro hT4 hG4)
                clear hT4 hG4 hk4 hk3 hk3' hO3 hown' hgrow hnx hna
                go_wp2_with fail
                go_roundw
                case rel => exact ⟨n + 1, by omega, by go_num, _, tt, _, _, _, _, _, _, rfl, rfl, HT4.out.1, HT4.out.2, by omega⟩
                case measure => simp [intOf]; omega
      · have : n = len := by omega
        subst this
        go_wp2_with fail
        go_ret
        exact ⟨rfl, HT.out.1.kp⟩
end Go.Proofs.Ytoeikgaikdbpbaa
