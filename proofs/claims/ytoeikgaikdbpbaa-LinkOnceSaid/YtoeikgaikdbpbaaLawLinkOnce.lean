/- LinkOnce: whatever is lost, doubled or late between two ends: what is told at one is a beginning of what was handed in at the other: the law answers true at every input. No condition. -/
import Derived.Test.YtoeikgaikdbpbaaLkOnW
import Derived.Deep.RegionHeld3
namespace Go.Proofs.Ytoeikgaikdbpbaa
open Go.RowKit

/-- What the cells of a step are. -/
def QN (w : World) (f : Nat → Value) : Prop := IsI (f 0) ∧ IsI (f 1) ∧ IsByS w (f 2)
set_option maxRecDepth 100000 in
set_option maxHeartbeats 16000000 in
theorem linkOnce_w (x0 x1 x2 x3 x4 x5 x6 : Value) (a : Option Addr) (len cap : Nat) (g : Nat → Nat → Value) (w : World) (q0 : IsI x0) (q1 : IsI x1) (q2 : IsI x2) (q3 : IsI x3) (q4 : IsI x4) (q5 : IsB x5) (q6 : IsByS w x6)
    (hl : len ≤ maxLen) (hr : RdS w 3 a len g) (hq : ∀ k, k < len → QN w (g k)) :
    Calls Try.prog 3 #[.agg #[x0, x1, x2, x3, x4, x5, x6], .slice a len cap] w (RetK noB (.bool true) w) := by
  unfold maxLen at hl
  obtain ⟨hc, rfl, hc1, hc2⟩ := q0
  obtain ⟨he, rfl, he1, he2⟩ := q1
  obtain ⟨hb, rfl, hb1, hb2⟩ := q2
  obtain ⟨hs, rfl, _, _⟩ := q3
  obtain ⟨hk, rfl, _, _⟩ := q4
  obtain ⟨hv, rfl⟩ := q5
  obtain ⟨xa, xl, xc, rfl, _, _, _⟩ := q6.read
  clear q6
  have HQ := Lib.hid hq
  clear hq
  obtain ⟨wA, hwA⟩ : ∃ wA, wA = w.alloc (.cells #[.int .i64 hc, .int .i64 he, .int .i64 hb, .int .i64 hs, .int .i64 hk, .bool hv, .slice xa xl.length xc] 24) := ⟨_, rfl⟩
  have hkA : Keeps noB w wA := by rw [hwA]; exact (Keeps.refl _ _).alloc _
  have hX : wA.heap[w.heap.size]? = some (.cells #[.int .i64 hc, .int .i64 he, .int .i64 hb, .int .i64 hs, .int .i64 hk, .bool hv, .slice xa xl.length xc] 24 (0, 0)) := by rw [hwA]; exact heap_alloc_new _ _
  have HX := Lib.hid hX
  have HRD := Lib.hid hr
  clear hr hX
  go_enter Try.func3, Try.ntmps3
  go_upto_region 1 with fail
  rw [← hwA]
  clear hwA
  go_upto_region 3 with (go_at_call 9; refine (linkAlive_c wA).mono ?_; rintro e w1 ⟨rfl, hk1⟩)
  have hX1 := hk1.blk HX.out (noB_not _)
  have u0 := blk_cell hX1 (i := 0) rfl
  have u1 := blk_cell hX1 (i := 1) rfl
  have u2 := blk_cell hX1 (i := 2) rfl
  have u5 := blk_cell hX1 (i := 5) rfl
  have HX1 := Lib.hid hX1
  clear hX1
  by_cases z0 : len > 150
  · have t0 : decide ((len : Int) > 150) = true := decide_eq_true (by omega)
    go_wp2_with fail
    go_ret
    exact ⟨rfl, hkA.trans_no hk1⟩
  have t0 : decide ((len : Int) > 150) = false := decide_eq_false (by omega)
  by_cases z1 : hc < 0
  · have t1 : decide (hc < 0) = true := decide_eq_true (by omega)
    go_wp2_with fail
    go_ret
    exact ⟨rfl, hkA.trans_no hk1⟩
  have t1 : decide (hc < 0) = false := decide_eq_false (by omega)
  by_cases z2 : hc > 3
  · have t2 : decide (hc > 3) = true := decide_eq_true (by omega)
    go_wp2_with fail
    go_ret
    exact ⟨rfl, hkA.trans_no hk1⟩
  have t2 : decide (hc > 3) = false := decide_eq_false (by omega)
  by_cases z3 : he < 0
  · have t3 : decide (he < 0) = true := decide_eq_true (by omega)
    go_wp2_with fail
    go_ret
    exact ⟨rfl, hkA.trans_no hk1⟩
  have t3 : decide (he < 0) = false := decide_eq_false (by omega)
  by_cases z4 : he > 16777215
  · have t4 : decide (he > 16777215) = true := decide_eq_true (by omega)
    go_wp2_with fail
    go_ret
    exact ⟨rfl, hkA.trans_no hk1⟩
  have t4 : decide (he > 16777215) = false := decide_eq_false (by omega)
  by_cases z5 : hb < 0
  · have t5 : decide (hb < 0) = true := decide_eq_true (by omega)
    go_wp2_with fail
    go_ret
    exact ⟨rfl, hkA.trans_no hk1⟩
  have t5 : decide (hb < 0) = false := decide_eq_false (by omega)
  by_cases z6 : hb > 16777215
  · have t6 : decide (hb > 16777215) = true := decide_eq_true (by omega)
    go_wp2_with fail
    go_ret
    exact ⟨rfl, hkA.trans_no hk1⟩
  have t6 : decide (hb > 16777215) = false := decide_eq_false (by omega)
  go_wp2_with fail
  have HK1 := Lib.hid hk1
  have HKA := Lib.hid hkA
  go_cut [5] (fun s5 wx => ∃ ba pA pB SA SB va vb, s5 = .pointer (some ⟨ba, 0, none⟩) ∧ TwoJ w wx ba pA pB SA SB (newLk hc he hb false) (newLk hc he hb true) va vb ∧ w.heap.size ≤ ba)
  case first =>
    as_aux_lemma =>
    have hS : ∀ w', Keeps noB w1 w' → w'.cell? ⟨w.heap.size, 0, none⟩ = some (.int .i64 hc) ∧ w'.cell? ⟨w.heap.size, 1, none⟩ = some (.int .i64 he) ∧ w'.cell? ⟨w.heap.size, 2, none⟩ = some (.int .i64 hb) := fun w' hk => by
      have hW := hk.blk HX1.out (noB_not _)
      exact ⟨blk_cell hW (i := 0) rfl, blk_cell hW (i := 1) rfl, blk_cell hW (i := 2) rfl⟩
    have HS := Lib.hid hS
    have hN : ∀ b w', Keeps noB w1 w' → Calls Try.prog 10 #[.int .i64 hc, .int .i64 he, .int .i64 hb, .bool b] w' fun e w2 => e = .returned (.pointer (some ⟨w'.heap.size, 0, none⟩)) ∧ Keeps noB w' w2 ∧ Keeps noB w1 w2 ∧ LkAt w2 (oneB w'.heap.size) w'.heap.size (newLk hc he hb b) (.slice none 0 0) := fun b w' hk => by
      refine (new_c hc he hb b w').mono ?_
      rintro e w2 ⟨⟨he, hk2⟩, _, ha⟩
      exact ⟨he, hk2, hk.trans_no hk2, ha⟩
    have HN := Lib.hid hN
    clear hS hN u0 u1 u2 u5 hk1 hkA
    go_region_held3 (fun w' => w'.cell? ⟨w.heap.size, 0, none⟩ = some (.int .i64 hc) ∧ w'.cell? ⟨w.heap.size, 1, none⟩ = some (.int .i64 he) ∧ w'.cell? ⟨w.heap.size, 2, none⟩ = some (.int .i64 hb))
      (first | (refine HS.out _ ?_; repeat (first | exact hk5 | exact Keeps.refl noB w1 | refine Keeps.drew ?_ | refine Keeps.alloc ?_ _ | refine Keeps.setCell ?_ _ _ (.inr (by first | exact Nat.le_refl _ | (dsimp only; omega))))))
      (first
        | (go_at_call 10; refine (HN.out _ _ (by first | exact hk5 | exact hk5.alloc _ | exact ((Keeps.refl noB w1).drew) | exact ((Keeps.refl noB w1).alloc _).drew)).mono ?_; rintro e w5 ⟨rfl, hkx5, hk5, ha5⟩; have hsz5 := hk5.size; (first | (have hZ := hkx5.blk hZ (noB_not _); have z0 := blk_cell hZ (i := 0) rfl; have z1 := blk_cell hZ (i := 1) rfl; have f0 := blk_free hZ 0; have f1 := blk_free hZ 1) | (have hZ := hkx5.blk (heap_alloc_new _ _) (noB_not _); have z0 := blk_cell hZ (i := 0) rfl; have z1 := blk_cell hZ (i := 1) rfl; have f0 := blk_free hZ 0; have f1 := blk_free hZ 1) | skip)))
    · go_wp2_with fail
      go_meet
      case rel =>
        have hkw1 := HKA.out.trans_no HK1.out
        have hszw := hkw1.size
        have haA := ‹LkAt _ _ _ (newLk hc he hb false) _›
        have hzA : w1.heap.size < _ := haA.lt _ rfl
        have hzB := ha5.lt _ rfl
        have hzx := hkx5.size
        refine ⟨_, _, _, _, _, _, _, rfl, TwoJ.fin (F := noB) (hkw1.trans_no hk5) haA hkx5 ha5 hszw (Nat.ne_of_lt hzA) (by omega) ((Keeps.refl noB w5).alloc _) (fun y hy => hy.elim) (heap_alloc_new _ _) ⟨?_, ?_⟩, by omega⟩
        · show w5.heap.size ≠ w1.heap.size; omega
        · omega
    · go_wp2_with fail
      go_meet
      case rel =>
        have hkw1 := HKA.out.trans_no HK1.out
        have hszw := hkw1.size
        have haA := ‹LkAt _ _ _ (newLk hc he hb false) _›
        have hzA : w1.heap.size < _ := haA.lt _ rfl
        have hzB := ha5.lt _ rfl
        have hzx := hkx5.size
        rw [alloc_size] at ha5 hzx hzB
        have hne : w1.heap.size ≠ _ + 1 := Nat.ne_of_lt (Nat.lt_succ_of_lt hzA)
        refine ⟨_, _, _, _, _, _, _, rfl, TwoJ.fin (F := oneB _) (hkw1.trans_no hk5) haA (((Keeps.refl noB _).alloc _).trans_no hkx5) ha5 hszw hne (by omega) (((Keeps.refl (oneB _) w5).set1 _ _).set1 _ _) (fun y hy => ?_) (heap_setCell_same _ _ _ _ (heap_setCell_same _ _ _ _ hZ)) ⟨?_, ?_⟩, by omega⟩
        · unfold oneB at hy; subst hy; refine ⟨by omega, ?_, by omega⟩; show _ ≠ w1.heap.size; omega
        · show _ ≠ w1.heap.size; omega
        · omega
    · go_wp2_with fail
      go_meet
      case rel =>
        have hkw1 := HKA.out.trans_no HK1.out
        have hszw := hkw1.size
        have haA := ‹LkAt _ _ _ (newLk hc he hb false) _›
        have hzA := haA.lt _ rfl
        have hp1 : (w1.alloc (Obj.cells #[Value.pointer none, Value.pointer none] 29)).drew.heap.size = w1.heap.size + 1 := alloc_size _ _
        rw [hp1] at haA hzA
        have hzB := ha5.lt _ rfl
        have hzx := hkx5.size
        refine ⟨_, _, _, _, _, _, _, rfl, TwoJ.fin (F := oneB w1.heap.size) (hkw1.trans_no hk5) haA hkx5 ha5 (by omega) (Nat.ne_of_lt hzA) (by omega) (((Keeps.refl (oneB _) w5).set1 _ _).set1 _ _) (fun y hy => ?_) (heap_setCell_same _ _ _ _ (heap_setCell_same _ _ _ _ hZ)) ⟨?_, ?_⟩, by omega⟩
        · unfold oneB at hy; subst hy; exact ⟨by omega, by omega, by omega⟩
        · omega
        · omega
  case rest =>
    clear hk1 hkA
    rename World => wq
    obtain ⟨ba, pA, pB, SA, SB, va, vb, rfl, hT, hbal⟩ := hcut
    have hN : Onc (two (newLk hc he hb false) (newLk hc he hb true)) (fun _ => []) (fun _ => []) (fun _ => 0) [] := Onc.new hc he hb _ rfl rfl
    have HT0 := Lib.hid (And.intro (OnI.start hT hbal) hN)
    clear hT HX1 HK1 HKA HX hbal hN
    go_wp2_with fail
    generalize tag0 SA SB ba wq.heap.size = T0 at *
    generalize ((wq.alloc (Obj.cells #[Value.slice none 0 0, Value.slice none 0 0] 31)).alloc (Obj.cells #[Value.slice none 0 0, Value.slice none 0 0] 31)).alloc (Obj.cells #[] 24) = wS at *
    generalize wq.heap.size + 1 + 1 = bz at *
    generalize wq.heap.size + 1 = bo at *
    generalize wq.heap.size = bi at *
    generalize two pA pB = p at *
    generalize two (newLk hc he hb false) (newLk hc he hb true) = K0 at *
    go_loopw [8, 74] (fun vw i wr => ∃ n : Nat, n ≤ len ∧ i = .int .i64 n ∧ ∃ T K vI vO I O W kn, OnI w wr T ba bi bo p K vI vO vw I O W ∧ Onc K I O kn W ∧ W.length ≤ 8 * n ∧ ∀ j, j < 2 → (I j).length ≤ n)
      (fun _ i _ => len - (intOf i).toNat)
    case atStart => exact ⟨0, by omega, rfl, _, _, _, _, _, _, _, _, HT0.out.1, HT0.out.2, by simp, fun j _ => by simp⟩
    case round =>
      clear HT0
      obtain ⟨n, hn, rfl, T, K, vI, vO, I, O, W, kn, hI, hO, hWl, hIl⟩ := hrel
      obtain ⟨aW, cW, rfl⟩ := hI.wy.slice
      have HI := Lib.hid (And.intro hI (And.intro hO (And.intro hWl hIl)))
      by_cases hlt : n < len
      · obtain ⟨b, off, rfl, hbl, hcc⟩ := (HRD.out.keep hI.kp) n hlt
        obtain ⟨p0, p1, p2⟩ := HQ.out n hlt
        obtain ⟨kd, e0, _, _⟩ := p0
        obtain ⟨nn, e1, _, _⟩ := p1
        obtain ⟨da, dl, dc, e2, hdl, hdr, _⟩ := p2.read
        have c0 : wr.cell? ⟨b, off + n * 3, none⟩ = some (.int .i64 kd) := by rw [← e0]; exact hcc 0 (by omega)
        have c1 : wr.cell? ⟨b, off + n * 3 + 1, none⟩ = some (.int .i64 nn) := by rw [← e1, Nat.add_assoc]; exact hcc 1 (by omega)
        have c2 : wr.cell? ⟨b, off + n * 3 + 2, none⟩ = some (.slice da dl.length dc) := by rw [← e2, Nat.add_assoc]; exact hcc 2 (by omega)
        clear hcc e0 e1 e2 p2 hI hO hWl hIl
        have hkB : Keeps noB wr (wr.alloc (.cells #[.int .i64 kd, .int .i64 nn, .slice da dl.length dc] 34)) := (Keeps.refl _ _).alloc _
        have hXB := heap_alloc_new wr (.cells #[.int .i64 kd, .int .i64 nn, .slice da dl.length dc] 34)
        have hIB := HI.out.1.no hkB
        have hdB := (hdr.keep HI.out.1.kp (fun b _ => noB_not b)).keep hkB (fun b _ => noB_not b)
        have hbx0 : T wr.heap.size = 0 := by
          rcases Nat.eq_zero_or_pos (T wr.heap.size) with h | h
          · exact h
          · have := HI.out.1.th wr.heap.size (by omega); omega
        obtain ⟨bx, hbx⟩ : ∃ bx, bx = wr.heap.size := ⟨_, rfl⟩
        rw [← hbx] at hXB hbx0
        have HB := Lib.hid (And.intro hIB (And.intro hXB (And.intro hdB (And.intro hbx0 HI.out.2))))
        clear hkB hXB hIB hdB hbx0 hdr
        go_upto_block 2 with fail
        rw [← hbx]
        clear hbx HI c0 c1 c2
        generalize wr.alloc (.cells #[.int .i64 kd, .int .i64 nn, .slice da dl.length dc] 34) = wB at *
        go_cut [8] (fun vw wx => ∃ T K vI vO I O W kn, OnI w wx T ba bi bo p K vI vO vw I O W ∧ Onc K I O kn W ∧ W.length ≤ 8 * (n + 1) ∧ (∀ j, j < 2 → (I j).length ≤ n + 1))
        case first =>
          have HN : Hid (-9223372036854775808 ≤ nn ∧ nn ≤ 9223372036854775807 ∧ dl.length ≤ 140737488351232 ∧ n < 150) := Lib.hid ⟨by omega, by omega, hdl, by omega⟩
          refine once_sw kd w wB T ba bi bo bx p K vI vO I O W kn aW cW n nn da dl dc HN HB _ _ _ _ _ _ _ _ _ _ _ _ _ _ _ _ _ _ _ _ _ _ _ _ _ _ _ _ _ _ _ _ _ _ _ _ _ _ _ _ _ _ _ _ _ _ _ _ _ _ _ _ _ _ _ _ _ _ _ _ _ _ _ _ _ _ _ _ _ _ _ _ _ _ _ _ _ _ _ _ _ _ _ _ _ _ _ _ _ _ _ _ _ _ _ _ _ _ _ _ _ _ _ _ _ _ _ _ _ _ _ _ _ _ _ _ _ _ _ _ _ _ _ _ _ _ _ _ _ _ _ _ _ _ _ _ _ _ _ _ _ _ _ _ _ _ _ _ _ _ _ _ _ _ _ _ _ _ _ _ _ _ _ _ _ _ _ _ _ _ _ _ _ _ _ _ _ _ _ _ _ _ _ _ _ _ _ _ _ _ _ _ _ _ _ _ _ _ _ _ _ _ _ _ _ _ _ _ _ _ _ _ _ _ _ _ _ _ _ _ _ _ _ _ _ _ ?_ ?_
          · intro T1 K1 vI1 vO1 I1 O1 W1 kn1 vW1 wx c11 c12 c13 c14 c80 c81 c82 c83 c84 c85 c86 c87 c88 c89 c90 c91 c92 c93 c94 c95 c96 c97 c98 c99 c100 c101 c102 c103 c104 c105 c106 c107 c108 c109 c110 c111 c112 c113 c114 c115 c116 c117 c118 c119 c120 c121 c122 c123 c124 c125 c126 c127 c128 c129 c130 c131 c132 c133 c134 c135 c136 c137 c138 c139 c140 c141 c142 c143 c144 c145 c146 c147 c148 c149 c150 c151 c152 c153 c154 c155 c156 c157 c158 c159 c160 c161 c162 c163 c164 c165 c166 c167 c168 hI1 hO1 hW1 hL1
            dsimp only
            go_step
            go_meet
            case rel => exact ⟨_, _, _, _, _, _, _, _, hI1, hO1, hW1, hL1⟩
          · intro T1 K1 vI1 vO1 I1 O1 W1 kn1 vW1 wx c11 c12 c13 c14 c80 c81 c82 c83 c84 c85 c86 c87 c88 c89 c90 c91 c92 c93 c94 c95 c96 c97 c98 c99 c100 c101 c102 c103 c104 c105 c106 c107 c108 c109 c110 c111 c112 c113 c114 c115 c116 c117 c118 c119 c120 c121 c122 c123 c124 c125 c126 c127 c128 c129 c130 c131 c132 c133 c134 c135 c136 c137 c138 c139 c140 c141 c142 c143 c144 c145 c146 c147 c148 c149 c150 c151 c152 c153 c154 c155 c156 c157 c158 c159 c160 c161 c162 c163 c164 c165 c166 c167 c168 hI1 hO1 hW1 hL1
            dsimp only [Exit.inBlock, Exit.then]
            rw [if_pos rfl]
            go_wp2_with fail
            go_roundw
            case rel => exact ⟨n + 1, by omega, by go_num, _, _, _, _, _, _, _, _, hI1, hO1, hW1, hL1⟩
            case measure => simp [intOf]; omega
        case rest =>
          rename World => wc
          obtain ⟨T', K', vI', vO', I', O', W', kn', hI, hO, hWl, hIl⟩ := hcut
          have HIO := Lib.hid (And.intro hI (And.intro hO (And.intro hWl hIl)))
          clear hI hO hWl hIl
          go_wp2_with fail
          go_loopw [15] (fun v wx => ∃ q : Nat, q ≤ 2 ∧ v = .int .i64 q ∧ Keeps noB wc wx) (fun v _ => 2 - (intOf v).toNat)
          case atStart => exact ⟨0, by omega, rfl, Keeps.refl _ _⟩
          case round =>
            obtain ⟨q, hq, rfl, hkq⟩ := hrel
            obtain ⟨hI, hO, hWl, hIl⟩ := HIO.out
            rcases (show q = 0 ∨ q = 1 ∨ q = 2 by omega) with rfl | rfl | rfl
            · as_aux_lemma =>
              have hlen := hO.len (j := 0) (by omega)
              obtain ⟨vx, hlx⟩ := hI.lk 1 (by omega)
              obtain ⟨vy, hly⟩ := hI.lk 0 (by omega)
              obtain ⟨_, _, _, hRx⟩ := hO.rel 1 (by omega)
              obtain ⟨_, _, _, hRy⟩ := hO.rel 0 (by omega)
              have hop := hRx.len
              have hkx := hO.knl 1 (by omega)
              have hpre := hO.pre 0 (by omega)
              have hhd := hRy.heard
              have hso := hI.so 0 (by omega)
              have hsi := hI.si 1 (by omega)
              have hIr := hIl 1 (by omega)
              simp only [Nat.sub_zero, Nat.sub_self] at hlen hop hkx hpre hhd
              obtain ⟨ao, co, hvo⟩ := hso.slice
              obtain ⟨ai, ci, hvi⟩ := hsi.slice
              obtain ⟨lO, hlO⟩ : ∃ l, l = (O' 0).length := ⟨_, rfl⟩
              obtain ⟨lI, hlI⟩ : ∃ l, l = (I' 1).length := ⟨_, rfl⟩
              obtain ⟨lL, hlL⟩ : ∃ l, l = (K' 1).L.length := ⟨_, rfl⟩
              have hC14 : ∀ w', Keeps noB wc w' → Calls Try.prog 14 #[.pointer (some ⟨p 1, 0, none⟩)] w' (Ret (.int .i64 lL) w') := fun w' hk => by
                rw [hlL]; exact open_c (hlx.no hk)
              have hC15 : ∀ w', Keeps noB wc w' → Calls Try.prog 15 #[.pointer (some ⟨p 0, 0, none⟩)] w' (Ret (.int .i64 lO) w') := fun w' hk => by
                have := heard_c (hly.no hk)
                rw [hhd] at this
                rw [hlO]; exact this
              have hS : ∀ w', Keeps noB wc w' → w'.cell? ⟨ba, 0, none⟩ = some (.pointer (some ⟨p 0, 0, none⟩)) ∧ w'.cell? ⟨ba, 1, none⟩ = some (.pointer (some ⟨p 1, 0, none⟩)) ∧ w'.cell? ⟨bo, 0, none⟩ = some (.slice ao lO co) ∧ w'.cell? ⟨bi, 1, none⟩ = some (.slice ai lI ci) := fun w' hk => by
                have h1 := hk.blk hI.ar (noB_not _)
                have h2 := hk.blk hI.ir (noB_not _)
                have h3 := hk.blk hI.or (noB_not _)
                refine ⟨blk_cell h1 (i := 0) rfl, blk_cell h1 (i := 1) rfl, ?_, ?_⟩
                · rw [hlO, ← hvo]; exact blk_cell h3 (i := 0) rfl
                · rw [hlI, ← hvi]; exact blk_cell h2 (i := 1) rfl
              have d1 : decide ((lO : Int) > lI) = false := decide_eq_false (by omega)
              have d1n : decide (lI < lO) = false := decide_eq_false (by omega)
              have d1m : lO ≤ lI := by omega
              have d2 : decide ((lL : Int) < (lI : Int) - lO) = false := decide_eq_false (by omega)
              have d3 : IntKind.i64.wrap ((lI : Int) - lO) = (lI : Int) - lO := by rw [IntKind.wrap_i64]; omega
              have hsoX : ∀ w', Keeps noB wc w' → ∀ i (h : i < (O' 0).length), ∃ (g gi : Nat) (sx : ByteArray), ao = some ⟨g, 0, none⟩ ∧ ai = some ⟨gi, 0, none⟩ ∧ i < lI ∧ w'.cell? ⟨g, i, none⟩ = some (.string sx) ∧ w'.cell? ⟨gi, i, none⟩ = some (.string sx) := fun w' hk i hi => by
                rw [hvo] at hso
                rw [hvi] at hsi
                obtain ⟨g, rfl, hc1⟩ := (hso.keep hk (D' := fun _ => True) (fun _ _ => noB_not _) (fun _ _ => trivial)).cell hi
                have hg := hpre i _ (List.getElem?_eq_getElem hi)
                obtain ⟨hi2, hg2⟩ := List.getElem?_eq_some_iff.1 hg
                obtain ⟨gi, rfl, hc2⟩ := (hsi.keep hk (D' := fun _ => True) (fun _ _ => noB_not _) (fun _ _ => trivial)).cell hi2
                rw [hg2] at hc2
                exact ⟨g, gi, _, rfl, rfl, by omega, hc1, hc2⟩
              have HH := Lib.hid (And.intro hC14 (And.intro hC15 (And.intro hS hsoX)))
              have HL := Lib.hid hlO
              have hsz : lO ≤ 1000 ∧ lI ≤ 1000 := by omega
              obtain ⟨hz1, hz2⟩ := hsz
              clear hC14 hC15 hS hsoX hlen hlx hly hRx hRy hop hkx hpre hhd hso hsi hvo hvi hlO hlI hlL hIr hI hO hWl hIl
              have hkd := hkq
              go_upto_region 36 with fail
              go_region_held3 (fun w' => w'.cell? ⟨ba, 0, none⟩ = some (.pointer (some ⟨p 0, 0, none⟩)) ∧ w'.cell? ⟨ba, 1, none⟩ = some (.pointer (some ⟨p 1, 0, none⟩)) ∧ w'.cell? ⟨bo, 0, none⟩ = some (.slice ao lO co) ∧ w'.cell? ⟨bi, 1, none⟩ = some (.slice ai lI ci))
                (first | exact HH.out.2.2.1 _ (hkq.drew))
                (first
                  | (go_at_call 14; refine (HH.out.1 _ (hkq.drew)).mono ?_; rintro e w10 ⟨rfl, rfl⟩)
                  | (go_at_call 15; refine (HH.out.2.1 _ (hkq.drew)).mono ?_; rintro e w12 ⟨rfl, rfl⟩))
              all_goals
                go_wp2_with fail
                go_loopw [215] (fun v wx => ∃ i : Nat, i ≤ lO ∧ v = .int .i64 i ∧ Keeps noB wc wx) (fun v _ => lO - (intOf v).toNat)
                case atStart => exact ⟨0, by omega, rfl, hkq.drew⟩
                case round =>
                  obtain ⟨i, hi, rfl, hki⟩ := hrel
                  by_cases hlt2 : i < lO
                  · obtain ⟨g, gi, sx, rfl, rfl, hiI, e1, e2⟩ := HH.out.2.2.2 _ hki i (by rw [← HL.out]; exact hlt2)
                    have e3 := (HH.out.2.2.1 _ hki).2.2.2
                    go_wp2_with fail
                    go_roundw
                    case rel => exact ⟨i + 1, by omega, by go_num, hki⟩
                    case measure => simp [intOf]; omega
                  · have : i = lO := by omega
                    subst this
                    go_wp2_with fail
                    go_roundw
                    case rel => exact ⟨1, by omega, by go_num, hki⟩
                    case measure => simp [intOf]
            · as_aux_lemma =>
              have hlen := hO.len (j := 1) (by omega)
              obtain ⟨vx, hlx⟩ := hI.lk 0 (by omega)
              obtain ⟨vy, hly⟩ := hI.lk 1 (by omega)
              obtain ⟨_, _, _, hRx⟩ := hO.rel 0 (by omega)
              obtain ⟨_, _, _, hRy⟩ := hO.rel 1 (by omega)
              have hop := hRx.len
              have hkx := hO.knl 0 (by omega)
              have hpre := hO.pre 1 (by omega)
              have hhd := hRy.heard
              have hso := hI.so 1 (by omega)
              have hsi := hI.si 0 (by omega)
              have hIr := hIl 0 (by omega)
              simp only [Nat.sub_zero, Nat.sub_self] at hlen hop hkx hpre hhd
              obtain ⟨ao, co, hvo⟩ := hso.slice
              obtain ⟨ai, ci, hvi⟩ := hsi.slice
              obtain ⟨lO, hlO⟩ : ∃ l, l = (O' 1).length := ⟨_, rfl⟩
              obtain ⟨lI, hlI⟩ : ∃ l, l = (I' 0).length := ⟨_, rfl⟩
              obtain ⟨lL, hlL⟩ : ∃ l, l = (K' 0).L.length := ⟨_, rfl⟩
              have hC14 : ∀ w', Keeps noB wc w' → Calls Try.prog 14 #[.pointer (some ⟨p 0, 0, none⟩)] w' (Ret (.int .i64 lL) w') := fun w' hk => by
                rw [hlL]; exact open_c (hlx.no hk)
              have hC15 : ∀ w', Keeps noB wc w' → Calls Try.prog 15 #[.pointer (some ⟨p 1, 0, none⟩)] w' (Ret (.int .i64 lO) w') := fun w' hk => by
                have := heard_c (hly.no hk)
                rw [hhd] at this
                rw [hlO]; exact this
              have hS : ∀ w', Keeps noB wc w' → w'.cell? ⟨ba, 1, none⟩ = some (.pointer (some ⟨p 1, 0, none⟩)) ∧ w'.cell? ⟨ba, 0, none⟩ = some (.pointer (some ⟨p 0, 0, none⟩)) ∧ w'.cell? ⟨bo, 1, none⟩ = some (.slice ao lO co) ∧ w'.cell? ⟨bi, 0, none⟩ = some (.slice ai lI ci) := fun w' hk => by
                have h1 := hk.blk hI.ar (noB_not _)
                have h2 := hk.blk hI.ir (noB_not _)
                have h3 := hk.blk hI.or (noB_not _)
                refine ⟨blk_cell h1 (i := 1) rfl, blk_cell h1 (i := 0) rfl, ?_, ?_⟩
                · rw [hlO, ← hvo]; exact blk_cell h3 (i := 1) rfl
                · rw [hlI, ← hvi]; exact blk_cell h2 (i := 0) rfl
              have d1 : decide ((lO : Int) > lI) = false := decide_eq_false (by omega)
              have d1n : decide (lI < lO) = false := decide_eq_false (by omega)
              have d1m : lO ≤ lI := by omega
              have d2 : decide ((lL : Int) < (lI : Int) - lO) = false := decide_eq_false (by omega)
              have d3 : IntKind.i64.wrap ((lI : Int) - lO) = (lI : Int) - lO := by rw [IntKind.wrap_i64]; omega
              have hsoX : ∀ w', Keeps noB wc w' → ∀ i (h : i < (O' 1).length), ∃ (g gi : Nat) (sx : ByteArray), ao = some ⟨g, 0, none⟩ ∧ ai = some ⟨gi, 0, none⟩ ∧ i < lI ∧ w'.cell? ⟨g, i, none⟩ = some (.string sx) ∧ w'.cell? ⟨gi, i, none⟩ = some (.string sx) := fun w' hk i hi => by
                rw [hvo] at hso
                rw [hvi] at hsi
                obtain ⟨g, rfl, hc1⟩ := (hso.keep hk (D' := fun _ => True) (fun _ _ => noB_not _) (fun _ _ => trivial)).cell hi
                have hg := hpre i _ (List.getElem?_eq_getElem hi)
                obtain ⟨hi2, hg2⟩ := List.getElem?_eq_some_iff.1 hg
                obtain ⟨gi, rfl, hc2⟩ := (hsi.keep hk (D' := fun _ => True) (fun _ _ => noB_not _) (fun _ _ => trivial)).cell hi2
                rw [hg2] at hc2
                exact ⟨g, gi, _, rfl, rfl, by omega, hc1, hc2⟩
              have HH := Lib.hid (And.intro hC14 (And.intro hC15 (And.intro hS hsoX)))
              have HL := Lib.hid hlO
              have hsz : lO ≤ 1000 ∧ lI ≤ 1000 := by omega
              obtain ⟨hz1, hz2⟩ := hsz
              clear hC14 hC15 hS hsoX hlen hlx hly hRx hRy hop hkx hpre hhd hso hsi hvo hvi hlO hlI hlL hIr hI hO hWl hIl
              have hkd := hkq
              go_upto_region 36 with fail
              go_region_held3 (fun w' => w'.cell? ⟨ba, 1, none⟩ = some (.pointer (some ⟨p 1, 0, none⟩)) ∧ w'.cell? ⟨ba, 0, none⟩ = some (.pointer (some ⟨p 0, 0, none⟩)) ∧ w'.cell? ⟨bo, 1, none⟩ = some (.slice ao lO co) ∧ w'.cell? ⟨bi, 0, none⟩ = some (.slice ai lI ci))
                (first | exact HH.out.2.2.1 _ (hkq.drew))
                (first
                  | (go_at_call 14; refine (HH.out.1 _ (hkq.drew)).mono ?_; rintro e w10 ⟨rfl, rfl⟩)
                  | (go_at_call 15; refine (HH.out.2.1 _ (hkq.drew)).mono ?_; rintro e w12 ⟨rfl, rfl⟩))
              all_goals
                go_wp2_with fail
                go_loopw [215] (fun v wx => ∃ i : Nat, i ≤ lO ∧ v = .int .i64 i ∧ Keeps noB wc wx) (fun v _ => lO - (intOf v).toNat)
                case atStart => exact ⟨0, by omega, rfl, hkq.drew⟩
                case round =>
                  obtain ⟨i, hi, rfl, hki⟩ := hrel
                  by_cases hlt2 : i < lO
                  · obtain ⟨g, gi, sx, rfl, rfl, hiI, e1, e2⟩ := HH.out.2.2.2 _ hki i (by rw [← HL.out]; exact hlt2)
                    have e3 := (HH.out.2.2.1 _ hki).2.2.2
                    go_wp2_with fail
                    go_roundw
                    case rel => exact ⟨i + 1, by omega, by go_num, hki⟩
                    case measure => simp [intOf]; omega
                  · have : i = lO := by omega
                    subst this
                    go_wp2_with fail
                    go_roundw
                    case rel => exact ⟨2, by omega, by go_num, hki⟩
                    case measure => simp [intOf]
            · clear hI hO hWl hIl
              go_wp2_with fail
              go_roundw
              case rel =>
                obtain ⟨hI, hO, hWl, hIl⟩ := HIO.out
                exact ⟨n + 1, by omega, by go_num, _, _, _, _, _, _, _, _, hI.no hkq, hO, hWl, hIl⟩
              case measure => simp [intOf]; omega
      · have : n = len := by omega
        subst this
        go_wp2_with fail
        go_ret
        exact ⟨rfl, HI.out.1.kp⟩
end Go.Proofs.Ytoeikgaikdbpbaa
