/- QueueFair: first come, first served: the law answers true at every input. No condition. -/
import Derived.Test.YtlpimkmkcfbddaaQueFairP
import Derived.Test.YtlpimkmkcfbddaaLawQueueNames
import Derived.Deep.RegionHeld3
namespace Go.Proofs.Ytlpimkmkcfbddaa
open Go.RowKit

/-- The queue holds ws, in fresh blocks. -/
structure FairI (w wr : World) (S : Nat → Prop) (v : Value) (p r : Nat) (ws : List Wt) : Prop where
  kp : Keeps noB w wr
  q : QAt wr S p r v ws []
  qo : QOwn wr S v ws
  sp : ∀ y, S y → w.heap.size ≤ y
theorem FairI.no {w wr wA : World} {S : Nat → Prop} {v : Value} {p r : Nat} {ws : List Wt} (h : FairI w wr S v p r ws) (hk : Keeps noB wr wA) : FairI w wA S v p r ws :=
  ⟨h.kp.trans_no hk, h.q.no hk, ⟨own_keep_no h.qo.1 hk, h.qo.2⟩, h.sp⟩
theorem FairI.added {w wA w3 : World} {S S' : Nat → Prop} {v v' : Value} {p r : Nat} {ws ws' : List Wt} (h : FairI w wA S v p r ws) (hk : Keeps S wA w3)
    (hS : ∀ y, S' y → S y ∨ wA.heap.size ≤ y) (hq : QAt w3 S' p r v' ws' []) (ho : QOwn w3 S' v' ws') : FairI w w3 S' v' p r ws' :=
  ⟨h.kp.trans hk (fun x hx hs => absurd (h.sp x hs) (by omega)), hq, ho, fun y hy => by
    rcases hS y hy with hs | hs
    · exact h.sp y hs
    · exact Nat.le_trans h.kp.size hs⟩
theorem fairS {wr w' : World} {ba bb : Nat} {ac ap ao bc bp bo : Int} {aw bw : Bool} (h : Keeps noB wr w') (ra : wr.heap[ba]? = some (.cells #[.int .i64 ac, .int .i64 ap, .int .i64 ao, .bool aw] 73 (0, 0)))
    (rb : wr.heap[bb]? = some (.cells #[.int .i64 bc, .int .i64 bp, .int .i64 bo, .bool bw] 73 (0, 0))) :
    Keeps noB wr w' ∧ w'.cell? ⟨ba, 1, none⟩ = some (.int .i64 ap) ∧ w'.cell? ⟨bb, 1, none⟩ = some (.int .i64 bp) ∧ w'.cell? ⟨ba, 3, none⟩ = some (.bool aw) ∧ w'.cell? ⟨bb, 0, none⟩ = some (.int .i64 bc) ∧ w'.cell? ⟨ba, 2, none⟩ = some (.int .i64 ao) :=
  have a := h.blk ra (noB_not _)
  have b := h.blk rb (noB_not _)
  ⟨h, blk_cell a (i := 1) rfl, blk_cell b (i := 1) rfl, blk_cell a (i := 3) rfl, blk_cell b (i := 0) rfl, blk_cell a (i := 2) rfl⟩
set_option maxRecDepth 100000 in
set_option maxHeartbeats 16000000 in
theorem queueFair_w (a : Option Addr) (len cap : Nat) (g : Nat → Nat → Value) (w : World) (hl : len ≤ maxLen) (hr : RdS w 4 a len g) (hq : ∀ k, k < len → Q4 (g k)) :
    Calls Try.prog 14 #[.slice a len cap] w (RetK noB (.bool true) w) := by
  obtain ⟨xs, rfl, hX, hxb⟩ := wtc_of_rd cap hr hq
  clear hr hq hxb
  unfold maxLen at hl
  by_cases h50 : xs.length ≤ 50
  rotate_left
  · go_enter Try.func14, Try.ntmps14
    go_wp2_with fail
    refine (queueAlive_c _).mono ?_
    rintro e w1 ⟨rfl, hk1⟩
    go_wp2_with fail
    go_ret
    exact ⟨rfl, hk1⟩
  · have HX := Lib.hid hX
    clear hX hl
    go_enter Try.func14, Try.ntmps14
    go_wp2_with fail
    refine (queueAlive_c _).mono ?_
    rintro e w1 ⟨rfl, hk1⟩
    go_wp2_with fail
    refine (new_q w1).mono ?_
    rintro e w2 ⟨⟨rfl, hk2⟩, hs2, hq2⟩
    have hI0 : FairI w w2 (fun x => w1.heap.size ≤ x ∧ x < w1.heap.size + 2) (.slice none 0 0) (w1.heap.size + 1) w1.heap.size [] :=
      ⟨hk1.trans_no hk2, hq2, ⟨World.ownsRow_nil _ _ _ _, fun k hk => by simp [Value.ownBlock] at hk⟩, fun y hy => by have := hk1.size; omega⟩
    have HI0 := Lib.hid hI0
    clear hI0 hs2 hq2
    go_wp2_with fail
    go_loopw [23] (fun i wr => ∃ k : Nat, k ≤ xs.length ∧ i = .int .i64 k ∧ ∃ S v, FairI w wr S v (w1.heap.size + 1) w1.heap.size (qrun (xs.take k)))
      (fun i _ => xs.length - (intOf i).toNat)
    case atStart => exact ⟨0, by omega, rfl, _, _, HI0.out⟩
    case round =>
      obtain ⟨k, hk, rfl, S, v, hI⟩ := hrel
      have hll := qrun_len hk
      have hwo := WOk.run (xs.take k)
      have hsu := fun h => qrun_succ (xs := xs) (k := k) h
      generalize qrun (xs.take k) = ws at *
      have HWO := Lib.hid hwo
      have HSU := Lib.hid hsu
      clear hwo hsu HI0
      by_cases hlt : k < xs.length
      · obtain ⟨x, hx⟩ : ∃ x, x = xs[k] := ⟨_, rfl⟩
        have hsx := HSU.out hlt
        obtain ⟨gx, ox, rfl, x0, x1, x2, x3⟩ := (HX.out.no hI.kp).at_ hlt
        rw [← hx] at x0 x1 x2 x3 hsx
        have HSX := Lib.hid hsx
        clear hx hsx HSU HX
        have hkA : Keeps noB wr (wr.alloc (.cells #[.int .i64 x.c, .int .i64 x.p, .int .i64 x.o, .bool x.w] 73)) := (Keeps.refl _ _).alloc _
        have hIA := hI.no hkA
        have hXb := heap_alloc_new wr (.cells #[.int .i64 x.c, .int .i64 x.p, .int .i64 x.o, .bool x.w] 73)
        have hA := add_c hIA.q hIA.qo (by omega) x
        have HI := Lib.hid hIA
        have y0 := blk_cell hXb (i := 0) rfl
        have y1 := blk_cell hXb (i := 1) rfl
        have y2 := blk_cell hXb (i := 2) rfl
        have y3 := blk_cell hXb (i := 3) rfl
        clear hIA hI hXb hkA
        go_wp2_with fail
        refine hA.mono ?_
        rintro e w3 ⟨⟨rfl, hk3⟩, S', _, hS', v', hq', ho'⟩
        clear hA
        go_wp2_with fail
        go_roundw
        case rel =>
          refine ⟨k + 1, by omega, by go_num, S', v', ?_⟩
          rw [HSX.out]
          exact HI.out.added hk3 hS' hq' ho'
        case measure => simp [intOf]; omega
      · have h4 := HWO.out.len
        have : k = xs.length := by omega
        subst this
        clear HSU HX hll hlt hk h50 hk1 hk2
        have hA := all_c hI.q (by omega)
        have HI := Lib.hid hI
        clear hI
        go_wp2_with fail
        refine hA.mono ?_
        rintro e w4 ⟨v4, ⟨rfl, hk4⟩, hR4⟩
        obtain ⟨a4, c4, rfl⟩ := hR4.slice
        have hI4 := HI.out.no hk4
        have HR4 := Lib.hid hR4.read
        have HI4 := Lib.hid hI4
        clear hA hI4 hR4 HI hk4
        go_upto_region 12 with fail
        go_cut [49] from 33 to 49 (fun u wx => u = .bool false ∧ Keeps noB w4 wx)
        case first =>
          by_cases h0 : 0 < ws.length
          · obtain ⟨g0, o0, rfl, x0, x1, x2, x3⟩ := HR4.out.at_ h0
            have hA := ahead_c HI4.out.q (by omega) ws[0]
            rw [HWO.out.ahead h0] at hA
            obtain ⟨x, hx⟩ : ∃ x, x = ws[0] := ⟨_, rfl⟩
            rw [← hx] at x0 x1 x2 x3 hA
            have e0 : ahd x (ws.take 0) = [] := rfl
            rw [e0] at hA
            simp only [Nat.zero_mul, Nat.add_zero] at x0 x1 x2 x3
            clear hx e0
            go_wp2_with fail
            refine hA.mono ?_
            rintro e w5 ⟨v5, ⟨rfl, hk5⟩, ho5⟩
            obtain ⟨a5, c5, rfl⟩ := ho5.slice
            simp only [List.length_nil]
            clear hA ho5
            go_wp2_with fail
            go_meet
            exact ⟨rfl, hk5⟩
          · have h0' : decide (0 < ws.length) = false := decide_eq_false h0
            have h1' : decide (0 < (ws.length : Int)) = false := decide_eq_false (by omega)
            go_wp2_with fail
            go_meet
            exact ⟨rfl, Keeps.refl _ _⟩
        case rest =>
          obtain ⟨rfl, hk4⟩ := hcut
          have HR := Lib.hid (HR4.out.no hk4)
          have HI := Lib.hid (HI4.out.no hk4)
          clear HR4 HI4 hk4
          go_wp2_with fail
          go_loopw [52] (fun i wr => ∃ k : Nat, k ≤ ws.length ∧ i = .int .i64 k ∧ Keeps noB wc wr)
            (fun i _ => ws.length - (intOf i).toNat)
          case atStart => exact ⟨0, by omega, rfl, Keeps.refl _ _⟩
          case round =>
            obtain ⟨i, hi, rfl, hkO⟩ := hrel
            by_cases hlti : i < ws.length
            rotate_left
            · go_wp2_with fail
              go_ret
              exact ⟨rfl, HI.out.kp.trans_no hkO⟩
            · obtain ⟨A, hA⟩ : ∃ A, A = ws[i] := ⟨_, rfl⟩
              obtain ⟨ga, oa, rfl, x0, x1, x2, x3⟩ := (HR.out.no hkO).at_ hlti
              rw [← hA] at x0 x1 x2 x3
              have HA := Lib.hid hA
              clear hA
              obtain ⟨ac, ap, ao, aw⟩ := A
              simp only at x0 x1 x2 x3
              have hkA := hkO.alloc (.cells #[.int .i64 ac, .int .i64 ap, .int .i64 ao, .bool aw] 73)
              have hAb := heap_alloc_new wr (.cells #[.int .i64 ac, .int .i64 ap, .int .i64 ao, .bool aw] 73)
              have HAb := Lib.hid hAb
              clear hAb
              go_wp2_with fail
              have hWA := alloc_size wr (.cells #[.int .i64 ac, .int .i64 ap, .int .i64 ao, .bool aw] 73)
              generalize hwA : wr.alloc (.cells #[.int .i64 ac, .int .i64 ap, .int .i64 ao, .bool aw] 73) = wA at *
              generalize hba : wr.heap.size = ba at *
              clear x0 x1 x2 x3 hkO hwA hba hWA
              go_loopw [59] (fun i wr => ∃ k : Nat, k ≤ ws.length ∧ i = .int .i64 k ∧ Keeps noB wA wr)
                (fun i _ => ws.length - (intOf i).toNat)
              case atStart => exact ⟨0, by omega, rfl, Keeps.refl _ _⟩
              case round =>
                obtain ⟨k, hk, rfl, hkI⟩ := hrel
                by_cases hltk : k < ws.length
                rotate_left
                · go_wp2_with fail
                  go_roundw
                  case rel => exact ⟨i + 1, by omega, by go_num, hkA.trans_no hkI⟩
                  case measure => simp [intOf]; omega
                · obtain ⟨B, hB⟩ : ∃ B, B = ws[k] := ⟨_, rfl⟩
                  have hkCI := hkA.trans_no hkI
                  obtain ⟨gb, ob, hgb, y0, y1, y2, y3⟩ := (HR.out.no hkCI).at_ hltk
                  simp at hgb
                  obtain ⟨rfl, rfl⟩ := hgb
                  have hQ1 := (HI.out.no (hkCI.alloc (.cells #[.int .i64 B.c, .int .i64 B.p, .int .i64 B.o, .bool B.w] 73))).q
                  have hAh := ahead_c hQ1 (by omega) B
                  have hany := HWO.out.ahead_any hlti hltk
                  rw [← HA.out, ← hB] at hany
                  rw [← hB] at y0 y1 y2 y3
                  have hL4 := aheadL_len B ws
                  generalize aheadL B ws = L at *
                  have HAY := Lib.hid hany
                  have HB := Lib.hid hB
                  clear hB hany hQ1
                  obtain ⟨bc, bp, bo, bw⟩ := B
                  simp only at y0 y1 y2 y3 hAh
                  have hBb := heap_alloc_new wr (.cells #[.int .i64 bc, .int .i64 bp, .int .i64 bo, .bool bw] 73)
                  have z0 := blk_cell hBb (i := 0) rfl
                  have z1 := blk_cell hBb (i := 1) rfl
                  have z2 := blk_cell hBb (i := 2) rfl
                  have z3 := blk_cell hBb (i := 3) rfl
                  have HBb := Lib.hid hBb
                  have hkB := hkI.alloc (.cells #[.int .i64 bc, .int .i64 bp, .int .i64 bo, .bool bw] 73)
                  have HKB := Lib.hid hkB
                  clear hBb hkB
                  go_wp2_with fail
                  refine hAh.mono ?_
                  rintro e w5 ⟨v5, ⟨rfl, hk5⟩, ho5⟩
                  obtain ⟨a5, c5, rfl⟩ := ho5.slice
                  have hkA5 := HKB.out.trans_no hk5
                  have HBb5 := Lib.hid (hk5.blk HBb.out (noB_not _))
                  have HN := Lib.hid ho5.num
                  clear hAh z0 z1 z2 z3 y0 y1 y2 y3 hkI hkCI HBb HKB hk5 ho5
                  generalize wr.heap.size = bb at *
                  go_wp2_with fail
                  go_loopw [11, 68] (fun u i wr => ∃ m : Nat, m ≤ L.length ∧ i = .int .i64 m ∧ u = .bool ((L.take m).any fun c => c == ac) ∧ Keeps noB w5 wr)
                    (fun _ i _ => L.length - (intOf i).toNat)
                  case atStart => exact ⟨0, by omega, rfl, by simp, Keeps.refl _ _⟩
                  case round =>
                    obtain ⟨m, hm, rfl, rfl, hkL⟩ := hrel
                    by_cases hltm : m < L.length
                    · have hta : (L.take (m + 1)).any (fun c => c == ac) = ((L.take m).any (fun c => c == ac) || L[m] == ac) := by
                        rw [List.take_succ_eq_append_getElem hltm, List.any_append]; simp
                      obtain ⟨g6, o6, rfl, _, q0⟩ : ∃ g6 o6, a5 = some ⟨g6, o6, none⟩ ∧ g6 < wr.heap.size ∧ wr.cell? ⟨g6, o6 + m, none⟩ = some (.int .i64 L[m]) := by
                        obtain ⟨a', n', e', h'⟩ := HN.out.no hkL
                        simp at e'
                        obtain ⟨rfl, rfl⟩ := e'
                        exact h' m hltm
                      have r0 := blk_cell (hkL.blk (hkA5.blk HAb.out (noB_not _)) (noB_not _)) (i := 0) rfl
                      generalize (L.take m).any (fun c => c == ac) = s at *
                      generalize L[m] = z at *
                      have HTA := Lib.hid hta
                      clear hta
                      cases s
                      · go_wp2_with fail
                        go_roundw
                        case rel => exact ⟨m + 1, by omega, by go_num, by rw [HTA.out]; rfl, hkL⟩
                        case measure => simp [intOf]; omega
                      · go_wp2_with fail
                        go_roundw
                        case rel => exact ⟨m + 1, by omega, by go_num, by rw [HTA.out]; rfl, hkL⟩
                        case measure => simp [intOf]; omega
                    · have : m = L.length := by omega
                      subst this
                      rw [List.take_length, HAY.out]
                      simp only [crossX]
                      have r0 := hkL.blk (hkA5.blk HAb.out (noB_not _)) (noB_not _)
                      have s0 := hkL.blk HBb5.out (noB_not _)
                      have a0 := blk_cell r0 (i := 0) rfl
                      have a1 := blk_cell r0 (i := 1) rfl
                      have a2 := blk_cell r0 (i := 2) rfl
                      have a3 := blk_cell r0 (i := 3) rfl
                      have b0 := blk_cell s0 (i := 0) rfl
                      have b1 := blk_cell s0 (i := 1) rfl
                      have b2 := blk_cell s0 (i := 2) rfl
                      have b3 := blk_cell s0 (i := 3) rfl
                      have HRA := Lib.hid r0
                      have HSB := Lib.hid s0
                      have hkC := hkA.trans_no (hkA5.trans_no hkL)
                      have HKC := Lib.hid hkC
                      clear r0 s0 hkC
                      rcases Nat.lt_trichotomy i k with hik | hik | hik
                      · have l1 : decide (i < k) = true := decide_eq_true hik
                        have l2 : decide ((i : Int) < (k : Int)) = true := decide_eq_true (by omega)
                        have n1 : ((i : Int) != (k : Int)) = true := by simp; omega
                        have hcc : (ac == bc) = false := by
                          rw [beq_eq_false_iff_ne]; intro e
                          have h1 := HA.out; have h2 := HB.out
                          have := HWO.out.inj hlti hltk (by rw [← h1, ← h2]; exact e)
                          omega
                        have HCC := Lib.hid hcc
                        cases h1 : (ap == bp)
                        · go_wp2_with fail
                          go_quiet (fail)
                          go_wp2_with fail
                          go_roundw
                          case rel => exact ⟨k + 1, by omega, by go_num, (hkA5.trans_no hkL).drewN _⟩
                          case measure => simp [intOf]; omega
                        · cases h2 : (ao == bo)
                          · cases aw
                            · go_wp2_with fail
                              go_quiet (fail)
                              go_wp2_with fail
                              go_roundw
                              case rel => exact ⟨k + 1, by omega, by go_num, (hkA5.trans_no hkL).drewN _⟩
                              case measure => simp [intOf]; omega
                            · obtain ⟨j, hj⟩ := Int.eq_ofNat_of_zero_le (rightB_mem (HWO.out.1 _ (List.getElem_mem hlti))).2.2.1
                              rw [← HA.out] at hj
                              simp only at hj
                              have hj4 : j < 4 := by have := (rightB_mem (HWO.out.1 _ (List.getElem_mem hlti))).2.2.2; rw [← HA.out] at this; simp only at this; omega
                              have hres := HWO.out.res hlti hltk (by omega) (by rw [← HA.out, ← HB.out]; exact eq_of_beq h1) (by rw [← HA.out]) (j := j) (by rw [← HA.out]; exact hj)
                              rw [← HB.out] at hres
                              simp only at hres
                              subst hj
                              have hbit := bit0_mv (resM bc bp ws) j hj4
                              rw [hres] at hbit
                              have HBit := Lib.hid hbit
                              have hoo : ∀ x, x ∈ ws → 0 ≤ x.o ∧ x.o < 4 := fun x hx => (rightB_mem (HWO.out.1 x hx)).2.2
                              have HOO := Lib.hid hoo
                              clear hres hbit hoo
                              go_upto_region 29 with fail
                              have hbit := HBit.out
                              go_region_held3 (fun w' => Keeps noB wr w' ∧ w'.cell? ⟨ba, 1, none⟩ = some (.int .i64 ap) ∧ w'.cell? ⟨bb, 1, none⟩ = some (.int .i64 bp) ∧ w'.cell? ⟨ba, 3, none⟩ = some (.bool true) ∧ w'.cell? ⟨bb, 0, none⟩ = some (.int .i64 bc) ∧ w'.cell? ⟨ba, 2, none⟩ = some (.int .i64 (j : Int)))
                                (first | exact fairS (Keeps.refl _ _).drew HRA.out HSB.out | exact fairS hkk HRA.out HSB.out)
                                (first | (go_at_call 52; refine (reserved_c (HI.out.no (HKC.out.trans_no (by first | assumption | exact (Keeps.refl _ _).drew))).q (by omega) bc bp HOO.out).mono ?_; rintro e w7 ⟨rfl, hk7⟩; have hkk : Keeps noB wr w7 := Keeps.trans_no (by first | assumption | exact (Keeps.refl _ _).drew) hk7))
                              go_wp2_with fail
                              go_roundw
                              case rel => exact ⟨k + 1, by omega, by go_num, hkA5.trans_no (hkL.trans_no hkk)⟩
                              case measure => simp [intOf]; omega
                          · cases aw
                            · cases bw
                              · go_wp2_with fail
                                go_quiet (fail)
                                go_wp2_with fail
                                go_roundw
                                case rel => exact ⟨k + 1, by omega, by go_num, (hkA5.trans_no hkL).drewN _⟩
                                case measure => simp [intOf]; omega
                              · go_wp2_with fail
                                go_quiet (fail)
                                go_wp2_with fail
                                go_roundw
                                case rel => exact ⟨k + 1, by omega, by go_num, (hkA5.trans_no hkL).drewN _⟩
                                case measure => simp [intOf]; omega
                            · obtain ⟨j, hj⟩ := Int.eq_ofNat_of_zero_le (rightB_mem (HWO.out.1 _ (List.getElem_mem hlti))).2.2.1
                              rw [← HA.out] at hj
                              simp only at hj
                              have hj4 : j < 4 := by have := (rightB_mem (HWO.out.1 _ (List.getElem_mem hlti))).2.2.2; rw [← HA.out] at this; simp only at this; omega
                              have hres := HWO.out.res hlti hltk (by omega) (by rw [← HA.out, ← HB.out]; exact eq_of_beq h1) (by rw [← HA.out]) (j := j) (by rw [← HA.out]; exact hj)
                              rw [← HB.out] at hres
                              simp only at hres
                              subst hj
                              have hbit := bit0_mv (resM bc bp ws) j hj4
                              rw [hres] at hbit
                              have HBit := Lib.hid hbit
                              have hoo : ∀ x, x ∈ ws → 0 ≤ x.o ∧ x.o < 4 := fun x hx => (rightB_mem (HWO.out.1 x hx)).2.2
                              have HOO := Lib.hid hoo
                              clear hres hbit hoo
                              go_upto_region 29 with fail
                              have hbit := HBit.out
                              go_region_held3 (fun w' => Keeps noB wr w' ∧ w'.cell? ⟨ba, 1, none⟩ = some (.int .i64 ap) ∧ w'.cell? ⟨bb, 1, none⟩ = some (.int .i64 bp) ∧ w'.cell? ⟨ba, 3, none⟩ = some (.bool true) ∧ w'.cell? ⟨bb, 0, none⟩ = some (.int .i64 bc) ∧ w'.cell? ⟨ba, 2, none⟩ = some (.int .i64 (j : Int)))
                                (first | exact fairS (Keeps.refl _ _).drew HRA.out HSB.out | exact fairS hkk HRA.out HSB.out)
                                (first | (go_at_call 52; refine (reserved_c (HI.out.no (HKC.out.trans_no (by first | assumption | exact (Keeps.refl _ _).drew))).q (by omega) bc bp HOO.out).mono ?_; rintro e w7 ⟨rfl, hk7⟩; have hkk : Keeps noB wr w7 := Keeps.trans_no (by first | assumption | exact (Keeps.refl _ _).drew) hk7))
                              go_wp2_with fail
                              go_roundw
                              case rel => exact ⟨k + 1, by omega, by go_num, hkA5.trans_no (hkL.trans_no hkk)⟩
                              case measure => simp [intOf]; omega
                      · subst hik
                        have l1 : decide (i < i) = false := decide_eq_false (by omega)
                        have l2 : decide ((i : Int) < (i : Int)) = false := decide_eq_false (by omega)
                        have n1 : ((i : Int) != (i : Int)) = false := by simp
                        cases h1 : (ap == bp)
                        · go_wp2_with fail
                          go_quiet (fail)
                          go_wp2_with fail
                          go_roundw
                          case rel => exact ⟨i + 1, by omega, by go_num, (hkA5.trans_no hkL).drewN _⟩
                          case measure => simp [intOf]; omega
                        · cases h2 : (ao == bo)
                          · cases aw
                            · go_wp2_with fail
                              go_quiet (fail)
                              go_wp2_with fail
                              go_roundw
                              case rel => exact ⟨i + 1, by omega, by go_num, (hkA5.trans_no hkL).drewN _⟩
                              case measure => simp [intOf]; omega
                            · go_wp2_with fail
                              go_quiet (fail)
                              go_wp2_with fail
                              go_roundw
                              case rel => exact ⟨i + 1, by omega, by go_num, (hkA5.trans_no hkL).drewN _⟩
                              case measure => simp [intOf]; omega
                          · cases aw
                            · cases bw
                              · go_wp2_with fail
                                go_quiet (fail)
                                go_wp2_with fail
                                go_roundw
                                case rel => exact ⟨i + 1, by omega, by go_num, (hkA5.trans_no hkL).drewN _⟩
                                case measure => simp [intOf]; omega
                              · go_wp2_with fail
                                go_quiet (fail)
                                go_wp2_with fail
                                go_roundw
                                case rel => exact ⟨i + 1, by omega, by go_num, (hkA5.trans_no hkL).drewN _⟩
                                case measure => simp [intOf]; omega
                            · go_wp2_with fail
                              go_quiet (fail)
                              go_wp2_with fail
                              go_roundw
                              case rel => exact ⟨i + 1, by omega, by go_num, (hkA5.trans_no hkL).drewN _⟩
                              case measure => simp [intOf]; omega
                      · have l1 : decide (i < k) = false := decide_eq_false (by omega)
                        have l2 : decide ((i : Int) < (k : Int)) = false := decide_eq_false (by omega)
                        have n1 : ((i : Int) != (k : Int)) = true := by simp; omega
                        have hcc : (ac == bc) = false := by
                          rw [beq_eq_false_iff_ne]; intro e
                          have h1 := HA.out; have h2 := HB.out
                          have := HWO.out.inj hlti hltk (by rw [← h1, ← h2]; exact e)
                          omega
                        have HCC := Lib.hid hcc
                        cases h1 : (ap == bp)
                        · go_wp2_with fail
                          go_quiet (fail)
                          go_wp2_with fail
                          go_roundw
                          case rel => exact ⟨k + 1, by omega, by go_num, (hkA5.trans_no hkL).drewN _⟩
                          case measure => simp [intOf]; omega
                        · cases h2 : (ao == bo)
                          · cases aw
                            · go_wp2_with fail
                              go_quiet (fail)
                              go_wp2_with fail
                              go_roundw
                              case rel => exact ⟨k + 1, by omega, by go_num, (hkA5.trans_no hkL).drewN _⟩
                              case measure => simp [intOf]; omega
                            · obtain ⟨j, hj⟩ := Int.eq_ofNat_of_zero_le (rightB_mem (HWO.out.1 _ (List.getElem_mem hlti))).2.2.1
                              rw [← HA.out] at hj
                              simp only at hj
                              have hj4 : j < 4 := by have := (rightB_mem (HWO.out.1 _ (List.getElem_mem hlti))).2.2.2; rw [← HA.out] at this; simp only at this; omega
                              have hres := HWO.out.res hlti hltk (by omega) (by rw [← HA.out, ← HB.out]; exact eq_of_beq h1) (by rw [← HA.out]) (j := j) (by rw [← HA.out]; exact hj)
                              rw [← HB.out] at hres
                              simp only at hres
                              subst hj
                              have hbit := bit0_mv (resM bc bp ws) j hj4
                              rw [hres] at hbit
                              have HBit := Lib.hid hbit
                              have hoo : ∀ x, x ∈ ws → 0 ≤ x.o ∧ x.o < 4 := fun x hx => (rightB_mem (HWO.out.1 x hx)).2.2
                              have HOO := Lib.hid hoo
                              clear hres hbit hoo
                              go_upto_region 29 with fail
                              have hbit := HBit.out
                              go_region_held3 (fun w' => Keeps noB wr w' ∧ w'.cell? ⟨ba, 1, none⟩ = some (.int .i64 ap) ∧ w'.cell? ⟨bb, 1, none⟩ = some (.int .i64 bp) ∧ w'.cell? ⟨ba, 3, none⟩ = some (.bool true) ∧ w'.cell? ⟨bb, 0, none⟩ = some (.int .i64 bc) ∧ w'.cell? ⟨ba, 2, none⟩ = some (.int .i64 (j : Int)))
                                (first | exact fairS (Keeps.refl _ _).drew HRA.out HSB.out | exact fairS hkk HRA.out HSB.out)
                                (first | (go_at_call 52; refine (reserved_c (HI.out.no (HKC.out.trans_no (by first | assumption | exact (Keeps.refl _ _).drew))).q (by omega) bc bp HOO.out).mono ?_; rintro e w7 ⟨rfl, hk7⟩; have hkk : Keeps noB wr w7 := Keeps.trans_no (by first | assumption | exact (Keeps.refl _ _).drew) hk7))
                              go_wp2_with fail
                              go_roundw
                              case rel => exact ⟨k + 1, by omega, by go_num, hkA5.trans_no (hkL.trans_no hkk)⟩
                              case measure => simp [intOf]; omega
                          · cases aw
                            · cases bw
                              · go_wp2_with fail
                                go_quiet (fail)
                                go_wp2_with fail
                                go_roundw
                                case rel => exact ⟨k + 1, by omega, by go_num, (hkA5.trans_no hkL).drewN _⟩
                                case measure => simp [intOf]; omega
                              · go_wp2_with fail
                                go_quiet (fail)
                                go_wp2_with fail
                                go_roundw
                                case rel => exact ⟨k + 1, by omega, by go_num, (hkA5.trans_no hkL).drewN _⟩
                                case measure => simp [intOf]; omega
                            · obtain ⟨j, hj⟩ := Int.eq_ofNat_of_zero_le (rightB_mem (HWO.out.1 _ (List.getElem_mem hlti))).2.2.1
                              rw [← HA.out] at hj
                              simp only at hj
                              have hj4 : j < 4 := by have := (rightB_mem (HWO.out.1 _ (List.getElem_mem hlti))).2.2.2; rw [← HA.out] at this; simp only at this; omega
                              have hres := HWO.out.res hlti hltk (by omega) (by rw [← HA.out, ← HB.out]; exact eq_of_beq h1) (by rw [← HA.out]) (j := j) (by rw [← HA.out]; exact hj)
                              rw [← HB.out] at hres
                              simp only at hres
                              subst hj
                              have hbit := bit0_mv (resM bc bp ws) j hj4
                              rw [hres] at hbit
                              have HBit := Lib.hid hbit
                              have hoo : ∀ x, x ∈ ws → 0 ≤ x.o ∧ x.o < 4 := fun x hx => (rightB_mem (HWO.out.1 x hx)).2.2
                              have HOO := Lib.hid hoo
                              clear hres hbit hoo
                              go_upto_region 29 with fail
                              have hbit := HBit.out
                              go_region_held3 (fun w' => Keeps noB wr w' ∧ w'.cell? ⟨ba, 1, none⟩ = some (.int .i64 ap) ∧ w'.cell? ⟨bb, 1, none⟩ = some (.int .i64 bp) ∧ w'.cell? ⟨ba, 3, none⟩ = some (.bool true) ∧ w'.cell? ⟨bb, 0, none⟩ = some (.int .i64 bc) ∧ w'.cell? ⟨ba, 2, none⟩ = some (.int .i64 (j : Int)))
                                (first | exact fairS (Keeps.refl _ _).drew HRA.out HSB.out | exact fairS hkk HRA.out HSB.out)
                                (first | (go_at_call 52; refine (reserved_c (HI.out.no (HKC.out.trans_no (by first | assumption | exact (Keeps.refl _ _).drew))).q (by omega) bc bp HOO.out).mono ?_; rintro e w7 ⟨rfl, hk7⟩; have hkk : Keeps noB wr w7 := Keeps.trans_no (by first | assumption | exact (Keeps.refl _ _).drew) hk7))
                              go_wp2_with fail
                              go_roundw
                              case rel => exact ⟨k + 1, by omega, by go_num, hkA5.trans_no (hkL.trans_no hkk)⟩
                              case measure => simp [intOf]; omega
end Go.Proofs.Ytlpimkmkcfbddaa
