/- QueueRuns: whatever is done with a queue: all answers are the document's: the law answers true at every input. Printed by mk_qruns.py. No condition. -/
import Derived.Test.YtlpimkmkcfbddaaQrL
import Derived.Test.YtlpimkmkcfbddaaQueAlive
import Derived.Test.YtlpimkmkcfbddaaHeldM
namespace Go.Proofs.Ytlpimkmkcfbddaa
open Go.RowKit

def Q6 (f : Nat → Value) : Prop := IsI (f 0) ∧ IsI (f 1) ∧ IsI (f 2) ∧ IsI (f 3) ∧ IsI (f 4) ∧ IsB (f 5)
set_option maxRecDepth 100000 in
set_option maxHeartbeats 16000000 in
theorem queueRuns_w (a : Option Addr) (len cap : Nat) (g : Nat → Nat → Value) (x0 x1 x2 x3 x4 x5 : Value) (w : World) (hl : len ≤ maxLen) (hr : RdS w 6 a len g) (hq : ∀ k, k < len → Q6 (g k)) (q0 : IsI x0) (q1 : IsI x1) (q2 : IsI x2) (q3 : IsI x3) (q4 : IsI x4) (q5 : IsB x5) :
    Calls Try.prog 16 #[.slice a len cap, .agg #[x0, x1, x2, x3, x4, x5]] w (RetK noB (.bool true) w) := by
  unfold maxLen at hl
  obtain ⟨z0, rfl, _, _⟩ := q0
  obtain ⟨z1, rfl, _, _⟩ := q1
  obtain ⟨z2, rfl, _, _⟩ := q2
  obtain ⟨z3, rfl, _, _⟩ := q3
  obtain ⟨z4, rfl, _, _⟩ := q4
  obtain ⟨z5, rfl⟩ := q5
  have HQ := Lib.hid (And.intro hr hq)
  clear hr hq
  obtain ⟨wA, hwA⟩ : ∃ wA, wA = w.alloc (.cells #[.int .i64 z0, .int .i64 z1, .int .i64 z2, .int .i64 z3, .int .i64 z4, .bool z5] 82) := ⟨_, rfl⟩
  have hkA : Keeps noB w wA := by rw [hwA]; exact (Keeps.refl _ _).alloc _
  have hX : wA.heap[w.heap.size]? = some (.cells #[.int .i64 z0, .int .i64 z1, .int .i64 z2, .int .i64 z3, .int .i64 z4, .bool z5] 82 (0, 0)) := by rw [hwA]; exact heap_alloc_new _ _
  have HA := Lib.hid (And.intro hkA hX)
  clear hkA hX
  by_cases h100 : 100 < len
  · have d0 : decide ((len : Int) > 100) = true := decide_eq_true (by omega)
    go_enter Try.func16, Try.ntmps16
    go_upto_region 1 with fail
    rw [← hwA]
    clear hwA
    go_wp2_with (go_at_call 46; refine (queueAlive_c _).mono ?_; rintro e w1 ⟨rfl, hk1⟩)
    go_ret
    exact ⟨rfl, HA.out.1.trans_no hk1⟩
  · have d0 : decide ((len : Int) > 100) = false := decide_eq_false (by omega)
    go_enter Try.func16, Try.ntmps16
    go_upto_region 1 with fail
    rw [← hwA]
    clear hwA
    go_wp2_with (first | (go_at_call 46; refine (queueAlive_c _).mono ?_; rintro e w1 ⟨rfl, hk1⟩) | (go_at_call 45; refine (new_q _).mono ?_; rintro e w2 ⟨⟨rfl, hk2⟩, hs2, hq2⟩))
    obtain ⟨bq, hbq⟩ : ∃ b, b = w.heap.size := ⟨_, rfl⟩
    have hI : QI w (w2.alloc (.cells #[.slice none 0 0, .slice none 0 0] 85)) w.heap.size (w1.heap.size + 2) (w1.heap.size + 1) w1.heap.size #[.int .i64 z0, .int .i64 z1, .int .i64 z2, .int .i64 z3, .int .i64 z4, .bool z5] (fun x => w1.heap.size ≤ x ∧ x < w1.heap.size + 2) (.slice none 0 0) (.slice none 0 0) (.slice none 0 0) [] [] [] [] := by
      have hkA := HA.out.1
      have hX := HA.out.2
      have s1 := hkA.size
      have s2 := hk1.size
      have s4 := lt_of_blk hX
      have k3 : Keeps noB w2 (w2.alloc (.cells #[.slice none 0 0, .slice none 0 0] 85)) := (Keeps.refl _ _).alloc _
      exact ⟨((hkA.trans_no hk1).trans_no hk2).trans_no k3, hq2.no k3, .inl ⟨⟨rfl, .inl ⟨rfl, rfl⟩⟩, fun k e => by simp [Value.ownBlock] at e⟩, fun y hy => by omega, k3.blk (hk2.blk (hk1.blk hX (noB_not _)) (noB_not _)) (noB_not _), fun e => by omega, by rw [← hs2]; exact heap_alloc_new _ _, by omega, fun e => by omega,
        ⟨⟨rfl, .inl ⟨rfl, rfl⟩⟩, ⟨rfl, .inl ⟨rfl, rfl⟩⟩⟩, fun k e => by simp [Value.ownBlock] at e, fun k e => by simp [Value.ownBlock] at e, by omega⟩
    have HI0 := Lib.hid hI
    clear hI hk1 hk2 hq2 HA
    rw [← hbq] at HI0
    rw [← hbq]
    clear hbq
    generalize w2.alloc (.cells #[.slice none 0 0, .slice none 0 0] 85) = wS at *
    clear hs2
    obtain ⟨bw, hbw⟩ : ∃ p, p = w1.heap.size + 2 := ⟨_, rfl⟩
    rw [← hbw] at HI0
    rw [← hbw]
    clear hbw
    obtain ⟨p, hp⟩ : ∃ p, p = w1.heap.size + 1 := ⟨_, rfl⟩
    rw [← hp] at HI0
    rw [← hp]
    clear hp
    generalize w1.heap.size = r at *
    go_loopw [28] (fun i wr => ∃ k : Nat, k ≤ len ∧ i = .int .i64 k ∧ ∃ S v va vb ws l, QI w wr bq bw p r #[.int .i64 z0, .int .i64 z1, .int .i64 z2, .int .i64 z3, .int .i64 z4, .bool z5] S v va vb ws l ws l ∧ QOk k ws l)
      (fun i _ => len - (intOf i).toNat)
    case atStart => exact ⟨0, by omega, rfl, _, _, _, _, _, _, HI0.out, ⟨WOk.nil, List.nodup_nil, Nat.le_refl _⟩⟩
    case round =>
      clear HI0
      obtain ⟨k, hk, rfl, S, v, va, vb, ws, l, hI, hok⟩ := hrel
      obtain ⟨qa, qn, qb, qd, rfl, rfl⟩ := hI.rq.slices
      have HOK := Lib.hid hok
      clear hok
      have HI := Lib.hid hI
      by_cases hlt : k < len
      · obtain ⟨ba, off, rfl, hb, hc⟩ := (HQ.out.1.keep hI.kp) k hlt
        obtain ⟨⟨n0, e0, l0, m0⟩, ⟨n1, e1, _⟩, ⟨n2, e2, _⟩, ⟨n3, e3, _⟩, ⟨n4, e4, _⟩, ⟨n5, e5⟩⟩ := HQ.out.2 k hlt
        have c0 : wr.cell? ⟨ba, off + k * 6, none⟩ = some (.int .i64 n0) := by rw [← e0]; exact hc 0 (by omega)
        have c1 : wr.cell? ⟨ba, off + k * 6 + 1, none⟩ = some (.int .i64 n1) := by rw [← e1]; exact hc 1 (by omega)
        have c2 : wr.cell? ⟨ba, off + k * 6 + 2, none⟩ = some (.int .i64 n2) := by rw [← e2]; exact hc 2 (by omega)
        have c3 : wr.cell? ⟨ba, off + k * 6 + 3, none⟩ = some (.int .i64 n3) := by rw [← e3]; exact hc 3 (by omega)
        have c4 : wr.cell? ⟨ba, off + k * 6 + 4, none⟩ = some (.int .i64 n4) := by rw [← e4]; exact hc 4 (by omega)
        have c5 : wr.cell? ⟨ba, off + k * 6 + 5, none⟩ = some (.bool n5) := by rw [← e5]; exact hc 5 (by omega)
        have hkB : Keeps noB wr (wr.alloc (.cells #[.int .i64 n0, .int .i64 n1, .int .i64 n2, .int .i64 n3, .int .i64 n4, .bool n5] 82)) := (Keeps.refl _ _).alloc _
        have hXB := heap_alloc_new wr (.cells #[.int .i64 n0, .int .i64 n1, .int .i64 n2, .int .i64 n3, .int .i64 n4, .bool n5] 82)
        have hIB := hI.no hkB
        have hne : ¬ S wr.heap.size ∧ wr.heap.size ≠ bw := ⟨fun e => by have := hI.q.lt _ e; omega, by have := lt_of_blk hI.rt; omega⟩
        obtain ⟨bx, hbx⟩ : ∃ bx, bx = wr.heap.size := ⟨_, rfl⟩
        rw [← hbx] at hXB hne
        have HB := Lib.hid (And.intro hIB (And.intro hXB hne))
        clear e0 e1 e2 e3 e4 e5 hc hI hkB hXB hIB hne
        go_upto_block 2 with fail
        rw [← hbx]
        clear hbx c0 c1 c2 c3 c4 c5 HI
        generalize wr.alloc (.cells #[.int .i64 n0, .int .i64 n1, .int .i64 n2, .int .i64 n3, .int .i64 n4, .bool n5] 82) = wB at *
        go_cut [9, 10] (fun v9 v10 wx => ∃ S v va vb ws l ok, v9 = .bool ok ∧ v10 = .bool ok ∧ QI w wx bq bw p r #[.int .i64 z0, .int .i64 z1, .int .i64 z2, .int .i64 z3, .int .i64 z4, .bool z5] S v va vb ws l ws l ∧ QOk (k + 1) ws l ∧ wx.heap[bx]? = some (.cells #[.int .i64 n0, .int .i64 n1, .int .i64 n2, .int .i64 n3, .int .i64 n4, .bool n5] 82 (0, 0)))
        case first =>
          have y0 := blk_cell HB.out.2.1 (i := 0) rfl
          have y1 := blk_cell HB.out.2.1 (i := 1) rfl
          have y2 := blk_cell HB.out.2.1 (i := 2) rfl
          have y3 := blk_cell HB.out.2.1 (i := 3) rfl
          have y4 := blk_cell HB.out.2.1 (i := 4) rfl
          have y5 := blk_cell HB.out.2.1 (i := 5) rfl
          have hlw : ws.length ≤ 1000 := by have := HOK.out.1.len; omega
          have hll : l.length ≤ 1000 := by have := HOK.out.2.2; omega
          by_cases k0 : n0 = 0
          · subst k0
            obtain ⟨ok, hok2⟩ : ∃ b, b = addOk ⟨n2, n3, n4, n5⟩ ws := ⟨_, rfl⟩
            obtain ⟨ws', hws'⟩ : ∃ u, u = qadd ws ⟨n2, n3, n4, n5⟩ := ⟨_, rfl⟩
            have hN := HOK.out.add ⟨n2, n3, n4, n5⟩
            have hA := add_k HB.out.1.q HB.out.1.f hlw ⟨n2, n3, n4, n5⟩
            have hD := fun wd va vb (h : RQ wd va vb ws l) => add_q h hlw ⟨n2, n3, n4, n5⟩
            change ∀ wd va vb (h : RQ wd va vb ws l), Calls Try.prog 55 #[.agg #[va, vb], .agg #[.int .i64 n2, .int .i64 n3, .int .i64 n4, .bool n5]] wd (fun e w' => ∃ va', RetK noB (.tuple #[.agg #[va', vb], .bool (addOk ⟨n2, n3, n4, n5⟩ ws)]) wd e w' ∧ RQ w' va' vb (qadd ws ⟨n2, n3, n4, n5⟩) l ∧ Fr wd va va') at hD
            change Calls Try.prog 48 #[.pointer (some ⟨p, 0, none⟩), .agg #[.int .i64 n2, .int .i64 n3, .int .i64 n4, .bool n5]] wB (fun e w' => RetK S (.bool (addOk ⟨n2, n3, n4, n5⟩ ws)) wB e w' ∧ ∃ S', (∀ y, S y → S' y) ∧ (∀ y, S' y → S y ∨ wB.heap.size ≤ y) ∧ ∃ v', QAt w' S' p r v' (qadd ws ⟨n2, n3, n4, n5⟩) l ∧ QF w' S' v' (qadd ws ⟨n2, n3, n4, n5⟩)) at hA
            rw [← hok2, ← hws'] at hA
            simp only [← hok2, ← hws'] at hD
            rw [← hws'] at hN
            have HN := Lib.hid hN
            clear hok2 hws' hN hlw hll
            go_wp2_with (first
              | (go_at_call 48; (with_reducible refine hA.mono ?_); rintro e w3 ⟨⟨rfl, hk3⟩, S3, hs1, hs2, v3, hq3, hf3⟩; have hI3 := HB.out.1.code hk3 hq3 hf3 hs2; have hX3 := hk3.blk HB.out.2.1 HB.out.2.2.1; clear y0 y1 y2 y3 y4 y5; have y1 := blk_cell hX3 (i := 1) rfl; have y2 := blk_cell hX3 (i := 2) rfl; have y3 := blk_cell hX3 (i := 3) rfl; have y4 := blk_cell hX3 (i := 4) rfl; have y5 := blk_cell hX3 (i := 5) rfl; have hR3 := hI3.rt; have r0 := blk_cell hR3 (i := 0) rfl; have r1 := blk_cell hR3 (i := 1) rfl; have HI3 := Lib.hid hI3; have HX3 := Lib.hid hX3; have HR3 := Lib.hid hR3; clear hk3 hs1 hs2 hq3 hf3 hI3 hX3 hR3)
              | (go_at_call 55; (with_reducible refine (hD _ _ _ HI3.out.rq).mono ?_); rintro e w4 ⟨va4, ⟨rfl, hk4⟩, hrq4, hfr4⟩; obtain ⟨a4, m4, b4, d4, ea4, eb4⟩ := hrq4.slices; subst ea4; clear eb4; have hI4 := HI3.out.doc hk4 hrq4 hfr4 (fun _ h => .inl h); have hX4 := hk4.blk HX3.out (noB_not _); have hR4 := hk4.blk HR3.out (noB_not _); clear r0 r1 y1 y2 y3 y4 y5; have r0 := blk_cell hR4 (i := 0) rfl; have r1 := blk_cell hR4 (i := 1) rfl; have f0 := blk_free hR4 0; have f1 := blk_free hR4 1; have HI4 := Lib.hid hI4; have HX4 := Lib.hid hX4; clear hk4 hrq4 hI4 hX4))
            go_meet
            case rel =>
              refine ⟨_, _, _, _, _, _, ok, rfl, rfl, HI4.out, HN.out, ?_⟩
              exact (((Keeps.refl (oneB bw) w4).set1 0 _).set1 1 _).blk HX4.out HB.out.2.2.2
          by_cases k1 : n0 = 1
          · subst k1
            obtain ⟨ok, hok2⟩ : ∃ b, b = decide (0 ≤ ofW n1 ws) := ⟨_, rfl⟩
            obtain ⟨ws', hws'⟩ : ∃ u, u = rmQ n1 ws := ⟨_, rfl⟩
            have hN := HOK.out.rm n1
            have hA := remove_k HB.out.1.q HB.out.1.f hlw n1
            have hD := fun wd va vb (h : RQ wd va vb ws l) => remove_q h hlw n1
            rw [HOK.out.1.rmW] at hA
            rw [← hok2, ← hws'] at hA
            simp only [← hok2, ← hws'] at hD
            rw [← hws'] at hN
            have HN := Lib.hid hN
            clear hok2 hws' hN hlw hll
            go_wp2_with (first
              | (go_at_call 50; (with_reducible refine hA.mono ?_); rintro e w3 ⟨⟨rfl, hk3⟩, S3, hs1, hs2, v3, hq3, hf3⟩; have hI3 := HB.out.1.code hk3 hq3 hf3 hs2; have hX3 := hk3.blk HB.out.2.1 HB.out.2.2.1; clear y0 y1 y2 y3 y4 y5; have y1 := blk_cell hX3 (i := 1) rfl; have y2 := blk_cell hX3 (i := 2) rfl; have y3 := blk_cell hX3 (i := 3) rfl; have y4 := blk_cell hX3 (i := 4) rfl; have y5 := blk_cell hX3 (i := 5) rfl; have hR3 := hI3.rt; have r0 := blk_cell hR3 (i := 0) rfl; have r1 := blk_cell hR3 (i := 1) rfl; have HI3 := Lib.hid hI3; have HX3 := Lib.hid hX3; have HR3 := Lib.hid hR3; clear hk3 hs1 hs2 hq3 hf3 hI3 hX3 hR3)
              | (go_at_call 56; (with_reducible refine (hD _ _ _ HI3.out.rq).mono ?_); rintro e w4 ⟨va4, ⟨rfl, hk4⟩, hrq4, hfr4⟩; obtain ⟨a4, m4, b4, d4, ea4, eb4⟩ := hrq4.slices; subst ea4; clear eb4; have hI4 := HI3.out.doc hk4 hrq4 hfr4 (fun _ h => .inl h); have hX4 := hk4.blk HX3.out (noB_not _); have hR4 := hk4.blk HR3.out (noB_not _); clear r0 r1 y1 y2 y3 y4 y5; have r0 := blk_cell hR4 (i := 0) rfl; have r1 := blk_cell hR4 (i := 1) rfl; have f0 := blk_free hR4 0; have f1 := blk_free hR4 1; have HI4 := Lib.hid hI4; have HX4 := Lib.hid hX4; clear hk4 hrq4 hI4 hX4))
            go_meet
            case rel =>
              refine ⟨_, _, _, _, _, _, ok, rfl, rfl, HI4.out, HN.out, ?_⟩
              exact (((Keeps.refl (oneB bw) w4).set1 0 _).set1 1 _).blk HX4.out HB.out.2.2.2
          by_cases k2 : n0 = 2
          · subst k2
            obtain ⟨ok, hok2⟩ : ∃ b, b = callOk n1 ⟨n2, n3, n4, n5⟩ l := ⟨_, rfl⟩
            obtain ⟨l', hl'⟩ : ∃ u, u = if callOk n1 ⟨n2, n3, n4, n5⟩ l then kput (keyOf n1 ⟨n2, n3, n4, n5⟩) false l else l := ⟨_, rfl⟩
            have hN := HOK.out.put (keyOf n1 ⟨n2, n3, n4, n5⟩) false (callOk n1 ⟨n2, n3, n4, n5⟩ l)
            have hA := call_k HB.out.1.q n1 ⟨n2, n3, n4, n5⟩
            have hD := fun wd va vb (h : RQ wd va vb ws l) => calls_q h hll n1 ⟨n2, n3, n4, n5⟩
            rw [← hl'] at hN
            rw [← hl', ← hok2] at hA hD
            have HN := Lib.hid hN
            clear hok2 hl' hN hlw hll
            go_wp2_with (first
              | (go_at_call 49; (with_reducible refine hA.mono ?_); rintro e w3 ⟨⟨rfl, hk3⟩, hq3⟩; have hI3 := HB.out.1.code1 hk3 hq3; have hX3 := hk3.blk HB.out.2.1 (fun e => HB.out.2.2.1 (by unfold oneB at e; subst e; exact HB.out.1.q.inr)); clear y0 y1 y2 y3 y4 y5; have y1 := blk_cell hX3 (i := 1) rfl; have y2 := blk_cell hX3 (i := 2) rfl; have y3 := blk_cell hX3 (i := 3) rfl; have y4 := blk_cell hX3 (i := 4) rfl; have y5 := blk_cell hX3 (i := 5) rfl; have hR3 := hI3.rt; have r0 := blk_cell hR3 (i := 0) rfl; have r1 := blk_cell hR3 (i := 1) rfl; have HI3 := Lib.hid hI3; have HX3 := Lib.hid hX3; have HR3 := Lib.hid hR3; clear hk3 hq3 hI3 hX3 hR3)
              | (go_at_call 57; (with_reducible refine (hD _ _ _ HI3.out.rq).mono ?_); rintro e w4 ⟨vb4, ⟨rfl, hk4⟩, hrq4, hfr4⟩; obtain ⟨a4, m4, b4, d4, ea4, eb4⟩ := hrq4.slices; subst eb4; clear ea4; have hI4 := HI3.out.doc hk4 hrq4 (fun _ h => .inl h) hfr4; have hX4 := hk4.blk HX3.out (noB_not _); have hR4 := hk4.blk HR3.out (noB_not _); clear r0 r1 y1 y2 y3 y4 y5; have r0 := blk_cell hR4 (i := 0) rfl; have r1 := blk_cell hR4 (i := 1) rfl; have f0 := blk_free hR4 0; have f1 := blk_free hR4 1; have HI4 := Lib.hid hI4; have HX4 := Lib.hid hX4; clear hk4 hrq4 hI4 hX4))
            go_meet
            case rel =>
              refine ⟨_, _, _, _, _, _, ok, rfl, rfl, HI4.out, HN.out, ?_⟩
              exact (((Keeps.refl (oneB bw) w4).set1 0 _).set1 1 _).blk HX4.out HB.out.2.2.2
          by_cases k3 : n0 = 3
          · subst k3
            obtain ⟨ok, hok2⟩ : ∃ b, b = (kget (keyOf n1 ⟨n2, n3, n4, n5⟩) l).isSome := ⟨_, rfl⟩
            obtain ⟨l', hl'⟩ : ∃ u, u = if (kget (keyOf n1 ⟨n2, n3, n4, n5⟩) l).isSome then kput (keyOf n1 ⟨n2, n3, n4, n5⟩) true l else l := ⟨_, rfl⟩
            have hN := HOK.out.put (keyOf n1 ⟨n2, n3, n4, n5⟩) true ((kget (keyOf n1 ⟨n2, n3, n4, n5⟩) l).isSome)
            have hA := busy_k HB.out.1.q n1 ⟨n2, n3, n4, n5⟩
            have hD := fun wd va vb (h : RQ wd va vb ws l) => busy_q h hll n1 ⟨n2, n3, n4, n5⟩
            rw [← hl'] at hN
            rw [← hl', ← hok2] at hA hD
            have HN := Lib.hid hN
            clear hok2 hl' hN hlw hll
            go_wp2_with (first
              | (go_at_call 51; (with_reducible refine hA.mono ?_); rintro e w3 ⟨⟨rfl, hk3⟩, hq3⟩; have hI3 := HB.out.1.code1 hk3 hq3; have hX3 := hk3.blk HB.out.2.1 (fun e => HB.out.2.2.1 (by unfold oneB at e; subst e; exact HB.out.1.q.inr)); clear y0 y1 y2 y3 y4 y5; have y1 := blk_cell hX3 (i := 1) rfl; have y2 := blk_cell hX3 (i := 2) rfl; have y3 := blk_cell hX3 (i := 3) rfl; have y4 := blk_cell hX3 (i := 4) rfl; have y5 := blk_cell hX3 (i := 5) rfl; have hR3 := hI3.rt; have r0 := blk_cell hR3 (i := 0) rfl; have r1 := blk_cell hR3 (i := 1) rfl; have HI3 := Lib.hid hI3; have HX3 := Lib.hid hX3; have HR3 := Lib.hid hR3; clear hk3 hq3 hI3 hX3 hR3)
              | (go_at_call 58; (with_reducible refine (hD _ _ _ HI3.out.rq).mono ?_); rintro e w4 ⟨vb4, ⟨rfl, hk4⟩, hrq4, hfr4⟩; obtain ⟨a4, m4, b4, d4, ea4, eb4⟩ := hrq4.slices; subst eb4; clear ea4; have hI4 := HI3.out.doc hk4 hrq4 (fun _ h => .inl h) hfr4; have hX4 := hk4.blk HX3.out (noB_not _); have hR4 := hk4.blk HR3.out (noB_not _); clear r0 r1 y1 y2 y3 y4 y5; have r0 := blk_cell hR4 (i := 0) rfl; have r1 := blk_cell hR4 (i := 1) rfl; have f0 := blk_free hR4 0; have f1 := blk_free hR4 1; have HI4 := Lib.hid hI4; have HX4 := Lib.hid hX4; clear hk4 hrq4 hI4 hX4))
            go_meet
            case rel =>
              refine ⟨_, _, _, _, _, _, ok, rfl, rfl, HI4.out, HN.out, ?_⟩
              exact (((Keeps.refl (oneB bw) w4).set1 0 _).set1 1 _).blk HX4.out HB.out.2.2.2
          by_cases k4 : n0 = 4
          · subst k4
            obtain ⟨l', hl'⟩ : ∃ u, u = kdel ⟨n1, n3, n4, n5⟩ l := ⟨_, rfl⟩
            have hN := HOK.out.del ⟨n1, n3, n4, n5⟩
            have hA := answer_k HB.out.1.q n1 n3 n4 n5
            have hD := fun wd va vb (h : RQ wd va vb ws l) => answer_q h hll n1 n3 n4 n5
            simp only [← hl'] at hA hD hN
            have HN := Lib.hid hN
            clear hl' hN hlw hll
            go_wp2_with (first
              | (go_at_call 59; (with_reducible refine hA.mono ?_); rintro e w3 ⟨⟨rfl, hk3⟩, hq3⟩; have hI3 := HB.out.1.code1 hk3 hq3; have hX3 := hk3.blk HB.out.2.1 (fun e => HB.out.2.2.1 (by unfold oneB at e; subst e; exact HB.out.1.q.inr)); clear y0 y1 y2 y3 y4 y5; have y1 := blk_cell hX3 (i := 1) rfl; have y2 := blk_cell hX3 (i := 2) rfl; have y3 := blk_cell hX3 (i := 3) rfl; have y4 := blk_cell hX3 (i := 4) rfl; have y5 := blk_cell hX3 (i := 5) rfl; have hR3 := hI3.rt; have r0 := blk_cell hR3 (i := 0) rfl; have r1 := blk_cell hR3 (i := 1) rfl; have HI3 := Lib.hid hI3; have HX3 := Lib.hid hX3; have HR3 := Lib.hid hR3; clear hk3 hq3 hI3 hX3 hR3)
              | (go_at_call 60; (with_reducible refine (hD _ _ _ HI3.out.rq).mono ?_); rintro e w4 ⟨vb4, ⟨rfl, hk4⟩, hrq4, hfr4⟩; obtain ⟨a4, m4, b4, d4, ea4, eb4⟩ := hrq4.slices; subst eb4; clear ea4; have hI4 := HI3.out.doc hk4 hrq4 (fun _ h => .inl h) hfr4; have hX4 := hk4.blk HX3.out (noB_not _); have hR4 := hk4.blk HR3.out (noB_not _); clear r0 r1 y1 y2 y3 y4 y5; have r0 := blk_cell hR4 (i := 0) rfl; have r1 := blk_cell hR4 (i := 1) rfl; have f0 := blk_free hR4 0; have f1 := blk_free hR4 1; have HI4 := Lib.hid hI4; have HX4 := Lib.hid hX4; clear hk4 hrq4 hI4 hX4))
            go_meet
            case rel =>
              refine ⟨_, _, _, _, _, _, false, rfl, rfl, HI4.out, HN.out, ?_⟩
              exact (((Keeps.refl (oneB bw) w4).set1 0 _).set1 1 _).blk HX4.out HB.out.2.2.2
          by_cases k5 : n0 = 5
          · subst k5
            obtain ⟨ws', hws'⟩ : ∃ u, u = rmQ n1 ws := ⟨_, rfl⟩
            obtain ⟨l', hl'⟩ : ∃ u, u = kgone n1 l := ⟨_, rfl⟩
            have hN := HOK.out.gone n1
            have hA := gone_k HB.out.1.q HB.out.1.f hlw HOK.out.2.1 n1
            have hD := fun wd va vb (h : RQ wd va vb ws l) => gone_q h hlw hll n1
            rw [HOK.out.1.rmW] at hA
            simp only [← hl', ← hws'] at hA hD hN
            have HN := Lib.hid hN
            clear hl' hws' hN hlw hll
            go_wp2_with (first
              | (go_at_call 61; (with_reducible refine hA.mono ?_); rintro e w3 ⟨⟨rfl, hk3⟩, S3, hs1, hs2, v3, hq3, hf3⟩; have hI3 := HB.out.1.code hk3 hq3 hf3 hs2; have hX3 := hk3.blk HB.out.2.1 HB.out.2.2.1; clear y0 y1 y2 y3 y4 y5; have y1 := blk_cell hX3 (i := 1) rfl; have y2 := blk_cell hX3 (i := 2) rfl; have y3 := blk_cell hX3 (i := 3) rfl; have y4 := blk_cell hX3 (i := 4) rfl; have y5 := blk_cell hX3 (i := 5) rfl; have hR3 := hI3.rt; have r0 := blk_cell hR3 (i := 0) rfl; have r1 := blk_cell hR3 (i := 1) rfl; have HI3 := Lib.hid hI3; have HX3 := Lib.hid hX3; have HR3 := Lib.hid hR3; clear hk3 hs1 hs2 hq3 hf3 hI3 hX3 hR3)
              | (go_at_call 62; (with_reducible refine (hD _ _ _ HI3.out.rq).mono ?_); rintro e w4 ⟨va4, vb4, ⟨rfl, hk4⟩, hrq4, hfa4, hfb4⟩; obtain ⟨a4, m4, b4, d4, ea4, eb4⟩ := hrq4.slices; subst ea4; subst eb4; have hI4 := HI3.out.doc hk4 hrq4 hfa4 hfb4; have hX4 := hk4.blk HX3.out (noB_not _); have hR4 := hk4.blk HR3.out (noB_not _); clear r0 r1 y1 y2 y3 y4 y5; have r0 := blk_cell hR4 (i := 0) rfl; have r1 := blk_cell hR4 (i := 1) rfl; have f0 := blk_free hR4 0; have f1 := blk_free hR4 1; have HI4 := Lib.hid hI4; have HX4 := Lib.hid hX4; clear hk4 hrq4 hI4 hX4))
            go_meet
            case rel =>
              refine ⟨_, _, _, _, _, _, false, rfl, rfl, HI4.out, HN.out, ?_⟩
              exact (((Keeps.refl (oneB bw) w4).set1 0 _).set1 1 _).blk HX4.out HB.out.2.2.2
          have e0 : (n0 == 0) = false := by simpa using k0
          have e1 : (n0 == 1) = false := by simpa using k1
          have e2 : (n0 == 2) = false := by simpa using k2
          have e3 : (n0 == 3) = false := by simpa using k3
          have e4 : (n0 == 4) = false := by simpa using k4
          have e5 : (n0 == 5) = false := by simpa using k5
          clear k0 k1 k2 k3 k4 k5
          go_wp2_with fail
          go_meet
          case rel => exact ⟨_, _, _, _, _, _, false, rfl, rfl, HB.out.1, HOK.out.up, HB.out.2.1⟩
        case rest =>
          rename World => wc
          obtain ⟨S', v', va', vb', ws', l', ok, rfl, rfl, hI, hN, hX⟩ := hcut
          obtain ⟨ra, rn, rb, rd, rfl, rfl⟩ := hI.rq.slices
          have HI := Lib.hid hI
          have HN := Lib.hid (And.intro hN hX)
          have hob : (ok != ok) = false := by simp
          clear hI hN hX HB HOK
          have hn9 : k + 1 ≤ 1000 := by omega
          have hS : ∀ w', Keeps noB wc w' → w'.cell? ⟨bx, 1, none⟩ = some (.int .i64 n1) ∧ w'.cell? ⟨bx, 3, none⟩ = some (.int .i64 n3) ∧ w'.cell? ⟨bw, 0, none⟩ = some (.slice ra ws'.length rn) ∧ w'.cell? ⟨bw, 1, none⟩ = some (.slice rb l'.length rd) := fun w' hk => by
            have h1 := hk.blk HN.out.2 (noB_not _)
            have h2 := hk.blk HI.out.rt (noB_not _)
            exact ⟨blk_cell h1 (i := 1) rfl, blk_cell h1 (i := 3) rfl, blk_cell h2 (i := 0) rfl, blk_cell h2 (i := 1) rfl⟩
          have HS := Lib.hid hS
          have hX0 := HN.out.2
          have hR0 := HI.out.rt
          have y1 := blk_cell hX0 (i := 1) rfl
          have y2 := blk_cell hX0 (i := 2) rfl
          have y3 := blk_cell hX0 (i := 3) rfl
          have y4 := blk_cell hX0 (i := 4) rfl
          have y5 := blk_cell hX0 (i := 5) rfl
          have HX0 := Lib.hid hX0
          have HR0 := Lib.hid hR0
          have h63 := fun wd (hk : Keeps noB wc wd) => HI.out.c63 hk n1 n2 n3 n4 n5
          have h64 := fun wd (hk : Keeps noB wc wd) => HI.out.c64 HN.out.1 hn9 hk n1 n2 n3 n4 n5
          generalize (kget ⟨n1, n3, n4, n5⟩ l').isSome = u1 at h63 h64
          generalize (kget ⟨n1, n3, n4, n5⟩ l').getD false = u2 at h63 h64
          have H63 := Lib.hid h63
          have H64 := Lib.hid h64
          have hu1 : (u1 != u1) = false := by simp
          have hu2 : (u2 != u2) = false := by simp
          clear h63 h64 hS hX0 hR0
          go_upto_region 32 with (first
            | (go_at_call 63; (with_reducible refine (H63.out _ (Keeps.refl _ _)).mono ?_); rintro e w3 ⟨rfl, hk3⟩; clear y1 y2 y3 y4 y5; have hX3 := hk3.blk HX0.out (noB_not _); have hR3 := hk3.blk HR0.out (noB_not _); have y1 := blk_cell hX3 (i := 1) rfl; have y2 := blk_cell hX3 (i := 2) rfl; have y3 := blk_cell hX3 (i := 3) rfl; have y4 := blk_cell hX3 (i := 4) rfl; have y5 := blk_cell hX3 (i := 5) rfl; have r0 := blk_cell hR3 (i := 0) rfl; have r1 := blk_cell hR3 (i := 1) rfl)
            | (go_at_call 64; (with_reducible refine (H64.out _ hk3).mono ?_); rintro e w4 ⟨rfl, hk4⟩; clear y1 y2 y3 y4 y5 r0 r1 hX3 hR3))
          have hk := hk4.drew
          clear hk3 hk4 H63 H64 HX0 HR0
          refine wp_region_held_drew (S := fun w' => w'.cell? ⟨bx, 1, none⟩ = some (.int .i64 n1) ∧ w'.cell? ⟨bx, 3, none⟩ = some (.int .i64 n3) ∧ w'.cell? ⟨bw, 0, none⟩ = some (.slice ra ws'.length rn) ∧ w'.cell? ⟨bw, 1, none⟩ = some (.slice rb l'.length rd)) (by kernel_rfl) (HS.out _ hk) (fun hHeld => ?_)
          refine heldTake (i := 0) (v := ?_) rfl (by kernel_rfl) (by kernel_rfl) (by kernel_rfl) (fun _ _ _ h => h) (Or.inl ⟨by rfl, ?_⟩) (by assumption) ?_
          rotate_left
          · (intro w hSw; (try dsimp only at hSw); go_simp) <;> with_reducible rfl
          simp only [Act.put, List.setIfInBounds_toArray, List.set_cons_zero, List.set_cons_succ]
          refine heldTake (i := 1) (v := ?_) rfl (by kernel_rfl) (by kernel_rfl) (by kernel_rfl) (fun _ _ _ h => h) (Or.inl ⟨by rfl, ?_⟩) (by assumption) ?_
          rotate_left
          · (intro w hSw; (try dsimp only at hSw); go_simp) <;> with_reducible rfl
          simp only [Act.put, List.setIfInBounds_toArray, List.set_cons_zero, List.set_cons_succ]
          refine heldTake (i := 2) (v := ?_) rfl (by kernel_rfl) (by kernel_rfl) (by kernel_rfl) (fun _ _ _ h => h) (Or.inl ⟨by rfl, ?_⟩) (by assumption) ?_
          rotate_left
          · (intro w hSw; (try dsimp only at hSw); go_simp) <;> with_reducible rfl
          simp only [Act.put, List.setIfInBounds_toArray, List.set_cons_zero, List.set_cons_succ]
          refine heldTake (i := 3) (v := ?_) rfl (by kernel_rfl) (by kernel_rfl) (by kernel_rfl) (fun _ _ _ h => h) (Or.inl ⟨by rfl, ?_⟩) (by assumption) ?_
          rotate_left
          · (intro w hSw; (try dsimp only at hSw); go_simp) <;> with_reducible rfl
          simp only [Act.put, List.setIfInBounds_toArray, List.set_cons_zero, List.set_cons_succ]
          refine heldTake (i := 4) (v := ?_) rfl (by kernel_rfl) (by kernel_rfl) (by kernel_rfl) (fun _ _ _ h => h) (Or.inl ⟨by rfl, ?_⟩) (by assumption) ?_
          rotate_left
          · (intro w hSw; (try dsimp only at hSw); go_simp) <;> with_reducible rfl
          simp only [Act.put, List.setIfInBounds_toArray, List.set_cons_zero, List.set_cons_succ]
          refine heldTake (i := 5) (v := ?_) rfl (by kernel_rfl) (by kernel_rfl) (by kernel_rfl) (fun _ _ _ h => h) (Or.inl ⟨by rfl, ?_⟩) (by assumption) ?_
          rotate_left
          · (intro w hSw; (try dsimp only at hSw); go_simp) <;> with_reducible rfl
          simp only [Act.put, List.setIfInBounds_toArray, List.set_cons_zero, List.set_cons_succ]
          refine heldTake (i := 6) (v := ?_) rfl (by kernel_rfl) (by kernel_rfl) (by kernel_rfl) (fun _ _ _ h => h) (Or.inl ⟨by rfl, ?_⟩) (by assumption) ?_
          rotate_left
          · (intro w hSw; (try dsimp only at hSw); go_simp) <;> with_reducible rfl
          simp only [Act.put, List.setIfInBounds_toArray, List.set_cons_zero, List.set_cons_succ]
          refine heldTake (i := 7) (v := ?_) rfl (by kernel_rfl) (by kernel_rfl) (by kernel_rfl) (fun _ _ _ h => h) (Or.inl ⟨by rfl, ?_⟩) (by assumption) ?_
          rotate_left
          · (intro w hSw; (try dsimp only at hSw); go_simp) <;> with_reducible rfl
          simp only [Act.put, List.setIfInBounds_toArray, List.set_cons_zero, List.set_cons_succ]
          refine heldTake (i := 8) (v := ?_) rfl (by kernel_rfl) (by kernel_rfl) (by kernel_rfl) (fun _ _ _ h => h) (Or.inl ⟨by rfl, ?_⟩) (by assumption) ?_
          rotate_left
          · (intro w hSw; (try dsimp only at hSw); go_simp) <;> with_reducible rfl
          simp only [Act.put, List.setIfInBounds_toArray, List.set_cons_zero, List.set_cons_succ]
          refine heldTake (i := 9) (v := ?_) rfl (by kernel_rfl) (by kernel_rfl) (by kernel_rfl) (fun _ _ _ h => h) (Or.inl ⟨by rfl, ?_⟩) (by assumption) ?_
          rotate_left
          · (intro w hSw; (try dsimp only at hSw); go_simp) <;> with_reducible rfl
          simp only [Act.put, List.setIfInBounds_toArray, List.set_cons_zero, List.set_cons_succ]
          refine heldTake (i := 10) (v := ?_) rfl (by kernel_rfl) (by kernel_rfl) (by kernel_rfl) (fun _ _ _ h => h) (Or.inl ⟨by rfl, ?_⟩) (by assumption) ?_
          rotate_left
          · (intro w hSw; (try dsimp only at hSw); go_simp) <;> with_reducible rfl
          simp only [Act.put, List.setIfInBounds_toArray, List.set_cons_zero, List.set_cons_succ]
          refine heldTake (i := 11) (v := ?_) rfl (by kernel_rfl) (by kernel_rfl) (by kernel_rfl) (fun _ _ _ h => h) (Or.inl ⟨by rfl, ?_⟩) (by assumption) ?_
          rotate_left
          · (intro w hSw; (try dsimp only at hSw); go_simp) <;> with_reducible rfl
          simp only [Act.put, List.setIfInBounds_toArray, List.set_cons_zero, List.set_cons_succ]
          refine heldTake (i := 12) (v := ?_) rfl (by kernel_rfl) (by kernel_rfl) (by kernel_rfl) (fun _ _ _ h => h) (Or.inl ⟨by rfl, ?_⟩) (by assumption) ?_
          rotate_left
          · (intro w hSw; (try dsimp only at hSw); go_simp) <;> with_reducible rfl
          simp only [Act.put, List.setIfInBounds_toArray, List.set_cons_zero, List.set_cons_succ]
          refine heldTake (i := 13) (v := ?_) rfl (by kernel_rfl) (by kernel_rfl) (by kernel_rfl) (fun _ _ _ h => h) (Or.inl ⟨by rfl, ?_⟩) (by assumption) ?_
          rotate_left
          · (intro w hSw; (try dsimp only at hSw); go_simp) <;> with_reducible rfl
          simp only [Act.put, List.setIfInBounds_toArray, List.set_cons_zero, List.set_cons_succ]
          refine heldTake (i := 14) (v := ?_) rfl (by kernel_rfl) (by kernel_rfl) (by kernel_rfl) (fun _ _ _ h => h) (Or.inl ⟨by rfl, ?_⟩) (by assumption) ?_
          rotate_left
          · (intro w hSw; (try dsimp only at hSw); go_simp) <;> with_reducible rfl
          simp only [Act.put, List.setIfInBounds_toArray, List.set_cons_zero, List.set_cons_succ]
          refine heldTake (i := 15) (v := ?_) rfl (by kernel_rfl) (by kernel_rfl) (by kernel_rfl) (fun _ _ _ h => h) (Or.inl ⟨by rfl, ?_⟩) (by assumption) ?_
          rotate_left
          · (intro w hSw; (try dsimp only at hSw); go_simp) <;> with_reducible rfl
          simp only [Act.put, List.setIfInBounds_toArray, List.set_cons_zero, List.set_cons_succ]
          refine heldTake (i := 16) (v := ?_) rfl (by kernel_rfl) (by kernel_rfl) (by kernel_rfl) (fun _ _ _ h => h) (Or.inl ⟨by rfl, ?_⟩) (by assumption) ?_
          rotate_left
          · (intro w hSw; (try dsimp only at hSw); go_simp) <;> with_reducible rfl
          simp only [Act.put, List.setIfInBounds_toArray, List.set_cons_zero, List.set_cons_succ]
          refine heldTake (i := 17) (v := ?_) rfl (by kernel_rfl) (by kernel_rfl) (by kernel_rfl) (fun _ _ _ h => h) (Or.inl ⟨by rfl, ?_⟩) (by assumption) ?_
          rotate_left
          · (intro w hSw; (try dsimp only at hSw); go_simp) <;> with_reducible rfl
          simp only [Act.put, List.setIfInBounds_toArray, List.set_cons_zero, List.set_cons_succ]
          refine heldTake (i := 18) (v := ?_) rfl (by kernel_rfl) (by kernel_rfl) (by kernel_rfl) (fun _ _ _ h => h) (Or.inl ⟨by rfl, ?_⟩) (by assumption) ?_
          rotate_left
          · (intro w hSw; (try dsimp only at hSw); go_simp) <;> with_reducible rfl
          simp only [Act.put, List.setIfInBounds_toArray, List.set_cons_zero, List.set_cons_succ]
          refine heldTake (i := 19) (v := ?_) rfl (by kernel_rfl) (by kernel_rfl) (by kernel_rfl) (fun _ _ _ h => h) (Or.inl ⟨by rfl, ?_⟩) (by assumption) ?_
          rotate_left
          · (intro w hSw; (try dsimp only at hSw); go_simp) <;> with_reducible rfl
          simp only [Act.put, List.setIfInBounds_toArray, List.set_cons_zero, List.set_cons_succ]
          refine heldTake (i := 21) (v := ?_) rfl (by kernel_rfl) (by kernel_rfl) (by kernel_rfl) (fun _ _ _ h => h) (Or.inl ⟨by rfl, ?_⟩) (by assumption) ?_
          rotate_left
          · (intro w hSw; (try dsimp only at hSw); go_simp) <;> with_reducible rfl
          simp only [Act.put, List.setIfInBounds_toArray, List.set_cons_zero, List.set_cons_succ]
          refine heldTake (i := 22) (v := ?_) rfl (by kernel_rfl) (by kernel_rfl) (by kernel_rfl) (fun _ _ _ h => h) (Or.inl ⟨by rfl, ?_⟩) (by assumption) ?_
          rotate_left
          · (intro w hSw; (try dsimp only at hSw); go_simp) <;> with_reducible rfl
          simp only [Act.put, List.setIfInBounds_toArray, List.set_cons_zero, List.set_cons_succ]
          refine heldTake (i := 23) (v := ?_) rfl (by kernel_rfl) (by kernel_rfl) (by kernel_rfl) (fun _ _ _ h => h) (Or.inl ⟨by rfl, ?_⟩) (by assumption) ?_
          rotate_left
          · (intro w hSw; (try dsimp only at hSw); go_simp) <;> with_reducible rfl
          simp only [Act.put, List.setIfInBounds_toArray, List.set_cons_zero, List.set_cons_succ]
          refine heldTake (i := 24) (v := ?_) rfl (by kernel_rfl) (by kernel_rfl) (by kernel_rfl) (fun _ _ _ h => h) (Or.inl ⟨by rfl, ?_⟩) (by assumption) ?_
          rotate_left
          · (intro w hSw; (try dsimp only at hSw); go_simp) <;> with_reducible rfl
          simp only [Act.put, List.setIfInBounds_toArray, List.set_cons_zero, List.set_cons_succ]
          refine heldTake (i := 25) (v := ?_) rfl (by kernel_rfl) (by kernel_rfl) (by kernel_rfl) (fun _ _ _ h => h) (Or.inl ⟨by rfl, ?_⟩) (by assumption) ?_
          rotate_left
          · (intro w hSw; (try dsimp only at hSw); go_simp) <;> with_reducible rfl
          simp only [Act.put, List.setIfInBounds_toArray, List.set_cons_zero, List.set_cons_succ]
          refine heldTake (i := 26) (v := ?_) rfl (by kernel_rfl) (by kernel_rfl) (by kernel_rfl) (fun _ _ _ h => h) (Or.inl ⟨by rfl, ?_⟩) (by assumption) ?_
          rotate_left
          · (intro w hSw; (try dsimp only at hSw); go_simp) <;> with_reducible rfl
          simp only [Act.put, List.setIfInBounds_toArray, List.set_cons_zero, List.set_cons_succ]
          refine heldOne (i := 20) (by kernel_rfl) rfl (fun K hK => ?_)
          go_simp
          go_at_call 65
          refine (HI.out.c65 hk _ _).mono ?_
          rintro e w2 ⟨rfl, hk⟩
          go_wp2_with fail
          refine hK.out _ _ (HS.out _ hk) (fun hHeld => ?_)
          clear hK K
          try simp only [Act.put, List.setIfInBounds_toArray, List.set_cons_zero, List.set_cons_succ]
          refine heldOne (i := 27) (by kernel_rfl) rfl (fun K hK => ?_)
          go_simp
          go_at_call 66
          refine (HI.out.c66 HN.out.1 hn9 hk _ _).mono ?_
          rintro e w2 ⟨rfl, hk⟩
          go_wp2_with fail
          refine hK.out _ _ (HS.out _ hk) (fun hHeld => ?_)
          clear hK K
          try simp only [Act.put, List.setIfInBounds_toArray, List.set_cons_zero, List.set_cons_succ]
          refine heldTake (i := 28) (v := ?_) rfl (by kernel_rfl) (by kernel_rfl) (by kernel_rfl) (fun _ _ _ h => h) (Or.inl ⟨by rfl, ?_⟩) (by assumption) ?_
          rotate_left
          · (intro w hSw; (try dsimp only at hSw); go_simp) <;> with_reducible rfl
          simp only [Act.put, List.setIfInBounds_toArray, List.set_cons_zero, List.set_cons_succ]
          refine heldTake (i := 29) (v := ?_) rfl (by kernel_rfl) (by kernel_rfl) (by kernel_rfl) (fun _ _ _ h => h) (Or.inl ⟨by rfl, ?_⟩) (by assumption) ?_
          rotate_left
          · (intro w hSw; (try dsimp only at hSw); go_simp) <;> with_reducible rfl
          simp only [Act.put, List.setIfInBounds_toArray, List.set_cons_zero, List.set_cons_succ]
          refine heldTake (i := 30) (v := ?_) rfl (by kernel_rfl) (by kernel_rfl) (by kernel_rfl) (fun _ _ _ h => h) (Or.inl ⟨by rfl, ?_⟩) (by assumption) ?_
          rotate_left
          · (intro w hSw; (try dsimp only at hSw); go_simp) <;> with_reducible rfl
          simp only [Act.put, List.setIfInBounds_toArray, List.set_cons_zero, List.set_cons_succ]
          refine heldTake (i := 31) (v := ?_) rfl (by kernel_rfl) (by kernel_rfl) (by kernel_rfl) (fun _ _ _ h => h) (Or.inl ⟨by rfl, ?_⟩) (by assumption) ?_
          rotate_left
          · (intro w hSw; (try dsimp only at hSw); go_simp) <;> with_reducible rfl
          simp only [Act.put, List.setIfInBounds_toArray, List.set_cons_zero, List.set_cons_succ]
          refine heldTake (i := 33) (v := ?_) rfl (by kernel_rfl) (by kernel_rfl) (by kernel_rfl) (fun _ _ _ h => h) (Or.inl ⟨by rfl, ?_⟩) (by assumption) ?_
          rotate_left
          · (intro w hSw; (try dsimp only at hSw); go_simp) <;> with_reducible rfl
          simp only [Act.put, List.setIfInBounds_toArray, List.set_cons_zero, List.set_cons_succ]
          refine heldTake (i := 34) (v := ?_) rfl (by kernel_rfl) (by kernel_rfl) (by kernel_rfl) (fun _ _ _ h => h) (Or.inl ⟨by rfl, ?_⟩) (by assumption) ?_
          rotate_left
          · (intro w hSw; (try dsimp only at hSw); go_simp) <;> with_reducible rfl
          simp only [Act.put, List.setIfInBounds_toArray, List.set_cons_zero, List.set_cons_succ]
          refine heldOne (i := 32) (by kernel_rfl) rfl (fun K hK => ?_)
          go_simp
          go_at_call 47
          refine (HI.out.c47 HN.out.1 hk).mono ?_
          rintro e w5 ⟨v47, rfl, hk, hW⟩
          go_wp2_with fail
          refine hK.out _ _ (HS.out _ hk) (fun hHeld => ?_)
          clear hK K
          try simp only [Act.put, List.setIfInBounds_toArray, List.set_cons_zero, List.set_cons_succ]
          refine heldOne (i := 35) (by kernel_rfl) rfl (fun K hK => ?_)
          go_simp
          go_at_call 54
          refine (HI.out.c54 HN.out.1 hk hW).mono ?_
          rintro e w6 ⟨rfl, hk⟩
          go_wp2_with fail
          refine hK.out _ _ (HS.out _ hk) (fun hHeld => ?_)
          clear hK K
          try simp only [Act.put, List.setIfInBounds_toArray, List.set_cons_zero, List.set_cons_succ]
          refine heldTake (i := 36) (v := ?_) rfl (by kernel_rfl) (by kernel_rfl) (by kernel_rfl) (fun _ _ _ h => h) (Or.inl ⟨by rfl, ?_⟩) (by assumption) ?_
          rotate_left
          · (intro w hSw; (try dsimp only at hSw); go_simp) <;> with_reducible rfl
          simp only [Act.put, List.setIfInBounds_toArray, List.set_cons_zero, List.set_cons_succ]
          refine heldTake (i := 37) (v := ?_) rfl (by kernel_rfl) (by kernel_rfl) (by kernel_rfl) (fun _ _ _ h => h) (Or.inl ⟨by rfl, ?_⟩) (by assumption) ?_
          rotate_left
          · (intro w hSw; (try dsimp only at hSw); go_simp) <;> with_reducible rfl
          simp only [Act.put, List.setIfInBounds_toArray, List.set_cons_zero, List.set_cons_succ]
          refine wpAnyH_done (by kernel_rfl) ?_ _
          go_wp2_with fail
          go_roundw
          case rel => exact ⟨k + 1, by omega, by go_num, _, _, _, _, _, _, HI.out.no hk, HN.out.1⟩
          case measure => simp [intOf]; omega
      · have : k = len := by omega
        subst this
        clear hI
        have hn9 : k ≤ 1000 := by omega
        have hS : ∀ w', Keeps noB wr w' → w'.cell? ⟨bq, 2, none⟩ = some (.int .i64 z2) ∧ w'.cell? ⟨bq, 3, none⟩ = some (.int .i64 z3) ∧ w'.cell? ⟨bq, 4, none⟩ = some (.int .i64 z4) ∧ w'.cell? ⟨bq, 5, none⟩ = some (.bool z5) ∧ w'.cell? ⟨bw, 0, none⟩ = some (.slice qa ws.length qn) ∧ w'.cell? ⟨bw, 1, none⟩ = some (.slice qb l.length qd) := fun w' hk => by
          have h1 := hk.blk HI.out.bx (noB_not _)
          have h2 := hk.blk HI.out.rt (noB_not _)
          exact ⟨blk_cell h1 (i := 2) rfl, blk_cell h1 (i := 3) rfl, blk_cell h1 (i := 4) rfl, blk_cell h1 (i := 5) rfl, blk_cell h2 (i := 0) rfl, blk_cell h2 (i := 1) rfl⟩
        have HS := Lib.hid hS
        have hX0 := HI.out.bx
        have hR0 := HI.out.rt
        have y1 := blk_cell hX0 (i := 1) rfl
        have y2 := blk_cell hX0 (i := 2) rfl
        have y3 := blk_cell hX0 (i := 3) rfl
        have y4 := blk_cell hX0 (i := 4) rfl
        have y5 := blk_cell hX0 (i := 5) rfl
        have HX0 := Lib.hid hX0
        have HR0 := Lib.hid hR0
        have h63 := fun wd (hk : Keeps noB wr wd) => HI.out.c63 hk z1 z2 z3 z4 z5
        have h64 := fun wd (hk : Keeps noB wr wd) => HI.out.c64 HOK.out hn9 hk z1 z2 z3 z4 z5
        generalize (kget ⟨z1, z3, z4, z5⟩ l).isSome = u1 at h63 h64
        generalize (kget ⟨z1, z3, z4, z5⟩ l).getD false = u2 at h63 h64
        have H63 := Lib.hid h63
        have H64 := Lib.hid h64
        have hu1 : (u1 != u1) = false := by simp
        have hu2 : (u2 != u2) = false := by simp
        clear h63 h64 hS hX0 hR0
        go_upto_region 37 with (first
          | (go_at_call 63; (with_reducible refine (H63.out _ (Keeps.refl _ _)).mono ?_); rintro e w3 ⟨rfl, hk3⟩; clear y1 y2 y3 y4 y5; have hX3 := hk3.blk HX0.out (noB_not _); have hR3 := hk3.blk HR0.out (noB_not _); have y1 := blk_cell hX3 (i := 1) rfl; have y2 := blk_cell hX3 (i := 2) rfl; have y3 := blk_cell hX3 (i := 3) rfl; have y4 := blk_cell hX3 (i := 4) rfl; have y5 := blk_cell hX3 (i := 5) rfl; have r0 := blk_cell hR3 (i := 0) rfl; have r1 := blk_cell hR3 (i := 1) rfl)
          | (go_at_call 64; (with_reducible refine (H64.out _ hk3).mono ?_); rintro e w4 ⟨rfl, hk4⟩; clear y1 y2 y3 y4 y5 r0 r1 hX3 hR3))
        have hk := hk4.drew
        clear hk3 hk4 H63 H64 HX0 HR0
        refine wp_region_held_drew (S := fun w' => w'.cell? ⟨bq, 2, none⟩ = some (.int .i64 z2) ∧ w'.cell? ⟨bq, 3, none⟩ = some (.int .i64 z3) ∧ w'.cell? ⟨bq, 4, none⟩ = some (.int .i64 z4) ∧ w'.cell? ⟨bq, 5, none⟩ = some (.bool z5) ∧ w'.cell? ⟨bw, 0, none⟩ = some (.slice qa ws.length qn) ∧ w'.cell? ⟨bw, 1, none⟩ = some (.slice qb l.length qd)) (by kernel_rfl) (HS.out _ hk) (fun hHeld => ?_)
        refine heldTake (i := 0) (v := ?_) rfl (by kernel_rfl) (by kernel_rfl) (by kernel_rfl) (fun _ _ _ h => h) (Or.inl ⟨by rfl, ?_⟩) (by assumption) ?_
        rotate_left
        · (intro w hSw; (try dsimp only at hSw); go_simp) <;> with_reducible rfl
        simp only [Act.put, List.setIfInBounds_toArray, List.set_cons_zero, List.set_cons_succ]
        refine heldTake (i := 1) (v := ?_) rfl (by kernel_rfl) (by kernel_rfl) (by kernel_rfl) (fun _ _ _ h => h) (Or.inl ⟨by rfl, ?_⟩) (by assumption) ?_
        rotate_left
        · (intro w hSw; (try dsimp only at hSw); go_simp) <;> with_reducible rfl
        simp only [Act.put, List.setIfInBounds_toArray, List.set_cons_zero, List.set_cons_succ]
        refine heldTake (i := 2) (v := ?_) rfl (by kernel_rfl) (by kernel_rfl) (by kernel_rfl) (fun _ _ _ h => h) (Or.inl ⟨by rfl, ?_⟩) (by assumption) ?_
        rotate_left
        · (intro w hSw; (try dsimp only at hSw); go_simp) <;> with_reducible rfl
        simp only [Act.put, List.setIfInBounds_toArray, List.set_cons_zero, List.set_cons_succ]
        refine heldTake (i := 3) (v := ?_) rfl (by kernel_rfl) (by kernel_rfl) (by kernel_rfl) (fun _ _ _ h => h) (Or.inl ⟨by rfl, ?_⟩) (by assumption) ?_
        rotate_left
        · (intro w hSw; (try dsimp only at hSw); go_simp) <;> with_reducible rfl
        simp only [Act.put, List.setIfInBounds_toArray, List.set_cons_zero, List.set_cons_succ]
        refine heldTake (i := 4) (v := ?_) rfl (by kernel_rfl) (by kernel_rfl) (by kernel_rfl) (fun _ _ _ h => h) (Or.inl ⟨by rfl, ?_⟩) (by assumption) ?_
        rotate_left
        · (intro w hSw; (try dsimp only at hSw); go_simp) <;> with_reducible rfl
        simp only [Act.put, List.setIfInBounds_toArray, List.set_cons_zero, List.set_cons_succ]
        refine heldTake (i := 5) (v := ?_) rfl (by kernel_rfl) (by kernel_rfl) (by kernel_rfl) (fun _ _ _ h => h) (Or.inl ⟨by rfl, ?_⟩) (by assumption) ?_
        rotate_left
        · (intro w hSw; (try dsimp only at hSw); go_simp) <;> with_reducible rfl
        simp only [Act.put, List.setIfInBounds_toArray, List.set_cons_zero, List.set_cons_succ]
        refine heldTake (i := 6) (v := ?_) rfl (by kernel_rfl) (by kernel_rfl) (by kernel_rfl) (fun _ _ _ h => h) (Or.inl ⟨by rfl, ?_⟩) (by assumption) ?_
        rotate_left
        · (intro w hSw; (try dsimp only at hSw); go_simp) <;> with_reducible rfl
        simp only [Act.put, List.setIfInBounds_toArray, List.set_cons_zero, List.set_cons_succ]
        refine heldTake (i := 7) (v := ?_) rfl (by kernel_rfl) (by kernel_rfl) (by kernel_rfl) (fun _ _ _ h => h) (Or.inl ⟨by rfl, ?_⟩) (by assumption) ?_
        rotate_left
        · (intro w hSw; (try dsimp only at hSw); go_simp) <;> with_reducible rfl
        simp only [Act.put, List.setIfInBounds_toArray, List.set_cons_zero, List.set_cons_succ]
        refine heldTake (i := 8) (v := ?_) rfl (by kernel_rfl) (by kernel_rfl) (by kernel_rfl) (fun _ _ _ h => h) (Or.inl ⟨by rfl, ?_⟩) (by assumption) ?_
        rotate_left
        · (intro w hSw; (try dsimp only at hSw); go_simp) <;> with_reducible rfl
        simp only [Act.put, List.setIfInBounds_toArray, List.set_cons_zero, List.set_cons_succ]
        refine heldTake (i := 9) (v := ?_) rfl (by kernel_rfl) (by kernel_rfl) (by kernel_rfl) (fun _ _ _ h => h) (Or.inl ⟨by rfl, ?_⟩) (by assumption) ?_
        rotate_left
        · (intro w hSw; (try dsimp only at hSw); go_simp) <;> with_reducible rfl
        simp only [Act.put, List.setIfInBounds_toArray, List.set_cons_zero, List.set_cons_succ]
        refine heldTake (i := 10) (v := ?_) rfl (by kernel_rfl) (by kernel_rfl) (by kernel_rfl) (fun _ _ _ h => h) (Or.inl ⟨by rfl, ?_⟩) (by assumption) ?_
        rotate_left
        · (intro w hSw; (try dsimp only at hSw); go_simp) <;> with_reducible rfl
        simp only [Act.put, List.setIfInBounds_toArray, List.set_cons_zero, List.set_cons_succ]
        refine heldTake (i := 11) (v := ?_) rfl (by kernel_rfl) (by kernel_rfl) (by kernel_rfl) (fun _ _ _ h => h) (Or.inl ⟨by rfl, ?_⟩) (by assumption) ?_
        rotate_left
        · (intro w hSw; (try dsimp only at hSw); go_simp) <;> with_reducible rfl
        simp only [Act.put, List.setIfInBounds_toArray, List.set_cons_zero, List.set_cons_succ]
        refine heldTake (i := 13) (v := ?_) rfl (by kernel_rfl) (by kernel_rfl) (by kernel_rfl) (fun _ _ _ h => h) (Or.inl ⟨by rfl, ?_⟩) (by assumption) ?_
        rotate_left
        · (intro w hSw; (try dsimp only at hSw); go_simp) <;> with_reducible rfl
        simp only [Act.put, List.setIfInBounds_toArray, List.set_cons_zero, List.set_cons_succ]
        refine heldTake (i := 14) (v := ?_) rfl (by kernel_rfl) (by kernel_rfl) (by kernel_rfl) (fun _ _ _ h => h) (Or.inl ⟨by rfl, ?_⟩) (by assumption) ?_
        rotate_left
        · (intro w hSw; (try dsimp only at hSw); go_simp) <;> with_reducible rfl
        simp only [Act.put, List.setIfInBounds_toArray, List.set_cons_zero, List.set_cons_succ]
        refine heldTake (i := 15) (v := ?_) rfl (by kernel_rfl) (by kernel_rfl) (by kernel_rfl) (fun _ _ _ h => h) (Or.inl ⟨by rfl, ?_⟩) (by assumption) ?_
        rotate_left
        · (intro w hSw; (try dsimp only at hSw); go_simp) <;> with_reducible rfl
        simp only [Act.put, List.setIfInBounds_toArray, List.set_cons_zero, List.set_cons_succ]
        refine heldOne (i := 12) (by kernel_rfl) rfl (fun K hK => ?_)
        go_simp
        go_at_call 53
        refine (HI.out.c53 HOK.out hk _ _ _ _).mono ?_
        rintro e w5 ⟨v53, rfl, hk, hA⟩
        go_wp2_with fail
        refine hK.out _ _ (HS.out _ hk) (fun hHeld => ?_)
        clear hK K
        try simp only [Act.put, List.setIfInBounds_toArray, List.set_cons_zero, List.set_cons_succ]
        refine heldOne (i := 16) (by kernel_rfl) rfl (fun K hK => ?_)
        go_simp
        go_at_call 67
        refine (HI.out.c67 HOK.out hk _ _ _ _).mono ?_
        rintro e w6 ⟨v67, rfl, hk, hk1, hB⟩
        go_wp2_with fail
        refine hK.out _ _ (HS.out _ hk) (fun hHeld => ?_)
        clear hK K
        try simp only [Act.put, List.setIfInBounds_toArray, List.set_cons_zero, List.set_cons_succ]
        refine heldOne (i := 17) (by kernel_rfl) rfl (fun K hK => ?_)
        go_simp
        go_at_call 37
        refine (QI.c37 HOK.out hk (hA.no hk1) hB).mono ?_
        rintro e w7 ⟨rfl, hk⟩
        go_wp2_with fail
        refine hK.out _ _ (HS.out _ hk) (fun hHeld => ?_)
        clear hK K
        try simp only [Act.put, List.setIfInBounds_toArray, List.set_cons_zero, List.set_cons_succ]
        refine heldTake (i := 18) (v := ?_) rfl (by kernel_rfl) (by kernel_rfl) (by kernel_rfl) (fun _ _ _ h => h) (Or.inl ⟨by rfl, ?_⟩) (by assumption) ?_
        rotate_left
        · (intro w hSw; (try dsimp only at hSw); go_simp) <;> with_reducible rfl
        simp only [Act.put, List.setIfInBounds_toArray, List.set_cons_zero, List.set_cons_succ]
        refine heldTake (i := 19) (v := ?_) rfl (by kernel_rfl) (by kernel_rfl) (by kernel_rfl) (fun _ _ _ h => h) (Or.inl ⟨by rfl, ?_⟩) (by assumption) ?_
        rotate_left
        · (intro w hSw; (try dsimp only at hSw); go_simp) <;> with_reducible rfl
        simp only [Act.put, List.setIfInBounds_toArray, List.set_cons_zero, List.set_cons_succ]
        refine heldTake (i := 20) (v := ?_) rfl (by kernel_rfl) (by kernel_rfl) (by kernel_rfl) (fun _ _ _ h => h) (Or.inl ⟨by rfl, ?_⟩) (by assumption) ?_
        rotate_left
        · (intro w hSw; (try dsimp only at hSw); go_simp) <;> with_reducible rfl
        simp only [Act.put, List.setIfInBounds_toArray, List.set_cons_zero, List.set_cons_succ]
        refine heldTake (i := 21) (v := ?_) rfl (by kernel_rfl) (by kernel_rfl) (by kernel_rfl) (fun _ _ _ h => h) (Or.inl ⟨by rfl, ?_⟩) (by assumption) ?_
        rotate_left
        · (intro w hSw; (try dsimp only at hSw); go_simp) <;> with_reducible rfl
        simp only [Act.put, List.setIfInBounds_toArray, List.set_cons_zero, List.set_cons_succ]
        refine heldTake (i := 22) (v := ?_) rfl (by kernel_rfl) (by kernel_rfl) (by kernel_rfl) (fun _ _ _ h => h) (Or.inl ⟨by rfl, ?_⟩) (by assumption) ?_
        rotate_left
        · (intro w hSw; (try dsimp only at hSw); go_simp) <;> with_reducible rfl
        simp only [Act.put, List.setIfInBounds_toArray, List.set_cons_zero, List.set_cons_succ]
        refine heldTake (i := 23) (v := ?_) rfl (by kernel_rfl) (by kernel_rfl) (by kernel_rfl) (fun _ _ _ h => h) (Or.inl ⟨by rfl, ?_⟩) (by assumption) ?_
        rotate_left
        · (intro w hSw; (try dsimp only at hSw); go_simp) <;> with_reducible rfl
        simp only [Act.put, List.setIfInBounds_toArray, List.set_cons_zero, List.set_cons_succ]
        refine heldTake (i := 24) (v := ?_) rfl (by kernel_rfl) (by kernel_rfl) (by kernel_rfl) (fun _ _ _ h => h) (Or.inl ⟨by rfl, ?_⟩) (by assumption) ?_
        rotate_left
        · (intro w hSw; (try dsimp only at hSw); go_simp) <;> with_reducible rfl
        simp only [Act.put, List.setIfInBounds_toArray, List.set_cons_zero, List.set_cons_succ]
        refine heldTake (i := 25) (v := ?_) rfl (by kernel_rfl) (by kernel_rfl) (by kernel_rfl) (fun _ _ _ h => h) (Or.inl ⟨by rfl, ?_⟩) (by assumption) ?_
        rotate_left
        · (intro w hSw; (try dsimp only at hSw); go_simp) <;> with_reducible rfl
        simp only [Act.put, List.setIfInBounds_toArray, List.set_cons_zero, List.set_cons_succ]
        refine heldTake (i := 26) (v := ?_) rfl (by kernel_rfl) (by kernel_rfl) (by kernel_rfl) (fun _ _ _ h => h) (Or.inl ⟨by rfl, ?_⟩) (by assumption) ?_
        rotate_left
        · (intro w hSw; (try dsimp only at hSw); go_simp) <;> with_reducible rfl
        simp only [Act.put, List.setIfInBounds_toArray, List.set_cons_zero, List.set_cons_succ]
        refine heldTake (i := 28) (v := ?_) rfl (by kernel_rfl) (by kernel_rfl) (by kernel_rfl) (fun _ _ _ h => h) (Or.inl ⟨by rfl, ?_⟩) (by assumption) ?_
        rotate_left
        · (intro w hSw; (try dsimp only at hSw); go_simp) <;> with_reducible rfl
        simp only [Act.put, List.setIfInBounds_toArray, List.set_cons_zero, List.set_cons_succ]
        refine heldTake (i := 29) (v := ?_) rfl (by kernel_rfl) (by kernel_rfl) (by kernel_rfl) (fun _ _ _ h => h) (Or.inl ⟨by rfl, ?_⟩) (by assumption) ?_
        rotate_left
        · (intro w hSw; (try dsimp only at hSw); go_simp) <;> with_reducible rfl
        simp only [Act.put, List.setIfInBounds_toArray, List.set_cons_zero, List.set_cons_succ]
        refine heldTake (i := 30) (v := ?_) rfl (by kernel_rfl) (by kernel_rfl) (by kernel_rfl) (fun _ _ _ h => h) (Or.inl ⟨by rfl, ?_⟩) (by assumption) ?_
        rotate_left
        · (intro w hSw; (try dsimp only at hSw); go_simp) <;> with_reducible rfl
        simp only [Act.put, List.setIfInBounds_toArray, List.set_cons_zero, List.set_cons_succ]
        refine heldTake (i := 31) (v := ?_) rfl (by kernel_rfl) (by kernel_rfl) (by kernel_rfl) (fun _ _ _ h => h) (Or.inl ⟨by rfl, ?_⟩) (by assumption) ?_
        rotate_left
        · (intro w hSw; (try dsimp only at hSw); go_simp) <;> with_reducible rfl
        simp only [Act.put, List.setIfInBounds_toArray, List.set_cons_zero, List.set_cons_succ]
        refine heldTake (i := 32) (v := ?_) rfl (by kernel_rfl) (by kernel_rfl) (by kernel_rfl) (fun _ _ _ h => h) (Or.inl ⟨by rfl, ?_⟩) (by assumption) ?_
        rotate_left
        · (intro w hSw; (try dsimp only at hSw); go_simp) <;> with_reducible rfl
        simp only [Act.put, List.setIfInBounds_toArray, List.set_cons_zero, List.set_cons_succ]
        refine heldTake (i := 33) (v := ?_) rfl (by kernel_rfl) (by kernel_rfl) (by kernel_rfl) (fun _ _ _ h => h) (Or.inl ⟨by rfl, ?_⟩) (by assumption) ?_
        rotate_left
        · (intro w hSw; (try dsimp only at hSw); go_simp) <;> with_reducible rfl
        simp only [Act.put, List.setIfInBounds_toArray, List.set_cons_zero, List.set_cons_succ]
        refine heldTake (i := 34) (v := ?_) rfl (by kernel_rfl) (by kernel_rfl) (by kernel_rfl) (fun _ _ _ h => h) (Or.inl ⟨by rfl, ?_⟩) (by assumption) ?_
        rotate_left
        · (intro w hSw; (try dsimp only at hSw); go_simp) <;> with_reducible rfl
        simp only [Act.put, List.setIfInBounds_toArray, List.set_cons_zero, List.set_cons_succ]
        refine heldOne (i := 27) (by kernel_rfl) rfl (fun K hK => ?_)
        go_simp
        go_at_call 52
        refine (HI.out.c52 HOK.out hk _ _).mono ?_
        rintro e w2 ⟨rfl, hk⟩
        go_wp2_with fail
        refine hK.out _ _ (HS.out _ hk) (fun hHeld => ?_)
        clear hK K
        try simp only [Act.put, List.setIfInBounds_toArray, List.set_cons_zero, List.set_cons_succ]
        refine heldOne (i := 35) (by kernel_rfl) rfl (fun K hK => ?_)
        go_simp
        go_at_call 68
        refine (HI.out.c68 HOK.out hk _ _).mono ?_
        rintro e w2 ⟨rfl, hk⟩
        go_wp2_with fail
        refine hK.out _ _ (HS.out _ hk) (fun hHeld => ?_)
        clear hK K
        try simp only [Act.put, List.setIfInBounds_toArray, List.set_cons_zero, List.set_cons_succ]
        refine heldTake (i := 36) (v := ?_) rfl (by kernel_rfl) (by kernel_rfl) (by kernel_rfl) (fun _ _ _ h => h) (Or.inl ⟨by rfl, ?_⟩) (by assumption) ?_
        rotate_left
        · (intro w hSw; (try dsimp only at hSw); go_simp) <;> with_reducible rfl
        simp only [Act.put, List.setIfInBounds_toArray, List.set_cons_zero, List.set_cons_succ]
        refine heldTake (i := 37) (v := ?_) rfl (by kernel_rfl) (by kernel_rfl) (by kernel_rfl) (fun _ _ _ h => h) (Or.inl ⟨by rfl, ?_⟩) (by assumption) ?_
        rotate_left
        · (intro w hSw; (try dsimp only at hSw); go_simp) <;> with_reducible rfl
        simp only [Act.put, List.setIfInBounds_toArray, List.set_cons_zero, List.set_cons_succ]
        refine heldTake (i := 38) (v := ?_) rfl (by kernel_rfl) (by kernel_rfl) (by kernel_rfl) (fun _ _ _ h => h) (Or.inl ⟨by rfl, ?_⟩) (by assumption) ?_
        rotate_left
        · (intro w hSw; (try dsimp only at hSw); go_simp) <;> with_reducible rfl
        simp only [Act.put, List.setIfInBounds_toArray, List.set_cons_zero, List.set_cons_succ]
        refine wpAnyH_done (by kernel_rfl) ?_ _
        go_wp2_with fail
        go_ret
        exact ⟨rfl, HI.out.kp.trans_no hk⟩
end Go.Proofs.Ytlpimkmkcfbddaa
