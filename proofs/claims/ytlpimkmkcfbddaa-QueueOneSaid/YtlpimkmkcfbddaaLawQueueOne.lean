/- QueueOne: nobody waits twice; who is removed waits no more, and all others in their order: the law answers true at every input. No condition. -/
import Derived.Test.YtlpimkmkcfbddaaQueOneP
import Derived.Test.YtlpimkmkcfbddaaLawQueueNames
namespace Go.Proofs.Ytlpimkmkcfbddaa
open Go.RowKit

def z4b : Array Value := #[.bool false, .bool false, .bool false, .bool false]
theorem built42 : Try.prog.built 42 [] = some z4b := by kernel_rfl
theorem info42 : (Try.prog.info? 42).map (fun i => (i.zero, i.size)) = some (some (.agg z4b), z4b.size) := by kernel_rfl
theorem z4b_one : z4b.all (·.oneCell') = true := by kernel_rfl
theorem z4b_eq : z4b = scells [] := by kernel_rfl

set_option maxRecDepth 100000 in
set_option maxHeartbeats 16000000 in
theorem queueOne_w (a : Option Addr) (len cap : Nat) (g : Nat → Nat → Value) (cl : Int) (w : World) (hl : len ≤ maxLen) (hr : RdS w 4 a len g) (hq : ∀ k, k < len → Q4 (g k)) (_hcl : -9223372036854775808 ≤ cl ∧ cl ≤ 9223372036854775807) :
    Calls Try.prog 15 #[.slice a len cap, .int .i64 cl] w (RetK noB (.bool true) w) := by
  obtain ⟨xs, rfl, hX, hxb⟩ := wtc_of_rd cap hr hq
  clear hr hq hxb
  unfold maxLen at hl
  by_cases h50 : xs.length ≤ 50
  rotate_left
  · go_enter Try.func15, Try.ntmps15
    go_wp2_with fail
    refine (queueAlive_c _).mono ?_
    rintro e w1 ⟨rfl, hk1⟩
    go_wp2_with fail
    go_ret
    exact ⟨rfl, hk1⟩
  · have HX := Lib.hid hX
    clear hX hl
    go_enter Try.func15, Try.ntmps15
    go_wp2_with fail
    refine (queueAlive_c _).mono ?_
    rintro e w1 ⟨rfl, hk1⟩
    go_wp2_with fail
    refine (new_q w1).mono ?_
    rintro e w2 ⟨⟨rfl, hk2⟩, hs2, hq2⟩
    have HS2 := Lib.hid hs2
    have HQ2 := Lib.hid hq2
    clear hs2 hq2
    go_wp2_with (with_reducible refine wpList_var0 42 21 6 z4b rfl rfl rfl rfl rfl rfl rfl rfl rfl built42 info42 z4b_one (by decide) (by simp) (by simp) ?_)
    have hI0 : OneI w ((w2.alloc (.cells z4b 42)).alloc (.cells #[] 73)) (fun x => w1.heap.size ≤ x ∧ x < w1.heap.size + 2) (.slice none 0 0) w2.heap.size (w1.heap.size + 1) w1.heap.size (.slice (some ⟨w2.heap.size + 1, 0, none⟩) 0 0) [] [] := by
      have hkA : Keeps noB w2 ((w2.alloc (.cells z4b 42)).alloc (.cells #[] 73)) := ((Keeps.refl _ _).alloc _).alloc _
      have s1 := hk1.size
      have s2 := hk2.size
      have s3 := HS2.out
      refine ⟨(hk1.trans_no hk2).trans_no hkA, HQ2.out.no hkA, ⟨World.ownsRow_nil _ _ _ _, fun k hk => by simp [Value.ownBlock] at hk⟩, fun y hy => ⟨by omega, by omega, fun e => by simp [Value.ownBlock] at e; omega⟩, ?_, ?_, by omega⟩
      · rw [alloc_old _ _ _ (by rw [alloc_size]; omega), heap_alloc_new, z4b_eq]
      · rw [← alloc_size w2 (.cells z4b 42)]
        exact own_lower (own_wants0 _) (by rw [alloc_size]; omega)
    have HI0 := Lib.hid hI0
    clear hI0
    go_wp2_with fail
    go_loopw [7, 25] (fun u i wr => ∃ k : Nat, k ≤ xs.length ∧ i = .int .i64 k ∧ ∃ S v, OneI w wr S v w2.heap.size (w1.heap.size + 1) w1.heap.size u (qrun (xs.take k)) (qrun (xs.take k)))
      (fun _ i _ => xs.length - (intOf i).toNat)
    case atStart => exact ⟨0, by omega, rfl, _, _, HI0.out⟩
    case round =>
      obtain ⟨k, hk, rfl, S, v, hI⟩ := hrel
      obtain ⟨ua, uc, hus⟩ := (WtR.of_own hI.own).slice
      have hll := qrun_len hk
      have hwo := WOk.run (xs.take k)
      have hsu := fun h => qrun_succ (xs := xs) (k := k) h
      generalize qrun (xs.take k) = ws at *
      have HWO := Lib.hid hwo
      have HSU := Lib.hid hsu
      clear hwo hsu HI0 HQ2
      subst hus
      by_cases hlt : k < xs.length
      · obtain ⟨x, hx⟩ : ∃ x, x = xs[k] := ⟨_, rfl⟩
        have hsx := HSU.out hlt
        obtain ⟨gx, ox, rfl, x0, x1, x2, x3⟩ := (HX.out.no hI.kp).at_ hlt
        rw [← hx] at x0 x1 x2 x3 hsx
        have HSX := Lib.hid hsx
        clear hx hsx HSU
        obtain ⟨xc, xp, xo, xw⟩ := x
        simp only at x0 x1 x2 x3
        have hltS := hI.q.lt
        have HLS := Lib.hid hltS
        clear hltS
        have hkA : Keeps noB wr (wr.alloc (.cells #[.int .i64 xc, .int .i64 xp, .int .i64 xo, .bool xw] 73)) := (Keeps.refl _ _).alloc _
        have hIA := hI.no hkA
        have hXb := heap_alloc_new wr (.cells #[.int .i64 xc, .int .i64 xp, .int .i64 xo, .bool xw] 73)
        have hA := add_c hIA.q hIA.qo (by omega) ⟨xc, xp, xo, xw⟩
        simp only at hA
        have HI := Lib.hid hIA
        have HXb := Lib.hid hXb
        have y0 := blk_cell hXb (i := 0) rfl
        have y1 := blk_cell hXb (i := 1) rfl
        have y2 := blk_cell hXb (i := 2) rfl
        have y3 := blk_cell hXb (i := 3) rfl
        clear hIA hI hXb hkA
        cases hok : addOk ⟨xc, xp, xo, xw⟩ ws
        · rw [hok] at hA
          simp only [Bool.false_eq_true, if_false] at hA
          have HOK := Lib.hid hok
          clear hok
          go_wp2_with fail
          refine hA.mono ?_
          rintro e w3 ⟨⟨rfl, hk3⟩, S', _, hS', v', hq', ho'⟩
          clear hA
          go_wp2_with fail
          go_roundw
          case rel =>
            refine ⟨k + 1, by omega, by go_num, S', v', ?_⟩
            rw [HSX.out]
            unfold qadd
            rw [HOK.out]
            exact HI.out.added hk3 hS' hq' ho'
          case measure => simp [intOf]; omega
        · rw [hok] at hA
          simp only [if_true] at hA
          obtain ⟨j, hj4, hxj, hsv⟩ := addOk_true hok
          simp only at hxj
          subst hxj
          have HOK := Lib.hid hok
          have HSV := Lib.hid hsv
          clear hok hsv
          go_wp2_with fail
          refine hA.mono ?_
          rintro e w3 ⟨⟨rfl, hk3⟩, S', _, hS', v', hq', ho'⟩
          clear hA x0 x1 x2 x3 y0 y1 y2 y3
          have hI3 := HI.out.added hk3 hS' hq' ho'
          have hX3 := hk3.blk HXb.out (fun h => by have := HLS.out _ h; omega)
          have y0 := blk_cell hX3 (i := 0) rfl
          have y1 := blk_cell hX3 (i := 1) rfl
          have y2 := blk_cell hX3 (i := 2) rfl
          have y3 := blk_cell hX3 (i := 3) rfl
          have s0 : w3.cell? ⟨w2.heap.size, j, none⟩ = some (.bool false) := by have := scells_at ws hj4; rw [HSV.out] at this; exact blk_cell hI3.seen this
          have f0 := blk_free hI3.seen j
          have HI3 := Lib.hid hI3
          have HX3 := Lib.hid hX3
          have hne : w2.heap.size ≠ wr.heap.size := fun e => by have := lt_of_blk hI3.seen; have h2 := HI.out.seen; rw [e] at h2; rw [HXb.out] at h2; simp at h2
          have HNE := Lib.hid hne
          clear hI3 hX3 hk3 hq' ho' hS' hne
          go_upto_region 16 with fail
          have hk4 := (Keeps.refl (oneB w2.heap.size) w3).set1 j (.bool true)
          have hX4 := hk4.blk HX3.out (fun e => HNE.out e.symm)
          clear y0 y1 y2 y3 s0 f0 hk4
          have z0 := blk_cell hX4 (i := 0) rfl
          have z1 := blk_cell hX4 (i := 1) rfl
          have z2 := blk_cell hX4 (i := 2) rfl
          have z3 := blk_cell hX4 (i := 3) rfl
          have HX4 := Lib.hid hX4
          clear hX4
          have hk5 : Keeps noB (w3.setCell ⟨w2.heap.size, j, none⟩ (.bool true)) ((w3.setCell ⟨w2.heap.size, j, none⟩ (.bool true)).alloc (.cells #[.int .i64 (j : Int), .int .i64 xp, .int .i64 xo, .bool xw] 73)) := (Keeps.refl _ _).alloc _
          have hO := HI3.out.own5 j hk5
          have HO := Lib.hid hO
          have HK5 := Lib.hid hk5
          clear hO hk5
          have hB : w.heap.size ≤ ((w3.setCell ⟨w2.heap.size, j, none⟩ (.bool true)).alloc (.cells #[.int .i64 (j : Int), .int .i64 xp, .int .i64 xo, .bool xw] 73)).heap.size := by
            rw [alloc_size, setCell_size]; have := HI3.out.kp.size; omega
          have HB := Lib.hid hB
          clear hB
          have hN : ((w3.setCell ⟨w2.heap.size, j, none⟩ (.bool true)).alloc (.cells #[.int .i64 (j : Int), .int .i64 xp, .int .i64 xo, .bool xw] 73)).heap[w3.heap.size]? = some (.cells #[.int .i64 (j : Int), .int .i64 xp, .int .i64 xo, .bool xw] 73 (0, 0)) := by
            rw [← setCell_size w3 ⟨w2.heap.size, j, none⟩ (.bool true)]; exact heap_alloc_new _ _
          have HN := Lib.hid hN
          clear hN
          go_wp2_with (at_builtin; refine wpList_append_w rfl _ _ rfl w.heap.size _ ws rfl HO.out (by omega) w3.heap.size 1 ⟨(j : Int), xp, xo, xw⟩ rfl (0, 0) HN.out HB.out ?_)
          intro u' w6 g1 g2 g3
          have hI6 := HI3.out.pushed (x := ⟨(j : Int), xp, xo, xw⟩) hj4 rfl HK5.out (by rw [List.length_append]; exact g1) g2 (by rw [alloc_size, setCell_size]; exact g3)
          have HI6 := Lib.hid hI6
          clear hI6 g1 g2 g3
          go_wp2_with fail
          go_roundw
          case rel =>
            refine ⟨k + 1, by omega, by go_num, S', v', ?_⟩
            rw [HSX.out]
            unfold qadd
            rw [HOK.out]
            simp only [if_true]
            exact HI6.out
          case measure => simp [intOf]; omega
      · have : k = xs.length := by omega
        subst this
        clear HSU HX
        have hw50 : ws.length ≤ 50 := by omega
        clear hll hlt hk h50 HS2 hk1 hk2
        obtain ⟨sb, hsb⟩ : ∃ sb, sb = w2.heap.size := ⟨_, rfl⟩
        have hA := all_c hI.q (by omega)
        have HI := Lib.hid hI
        clear hI hsb
        go_wp2_with fail
        refine hA.mono ?_
        rintro e w4 ⟨v4, ⟨rfl, hk4⟩, hR4⟩
        have hU4 := (WtR.of_own (own_keep_no HI.out.own hk4)).read
        have hSm := sameW_c hR4.read hU4 (by omega)
        rw [decide_eq_true rfl] at hSm
        obtain ⟨a4, c4, rfl⟩ := hR4.slice
        clear hA
        go_wp2_with fail
        refine hSm.mono ?_
        rintro e w5 ⟨rfl, hk5⟩
        have hI5 := (HI.out.no hk4).no hk5
        have HI5 := Lib.hid hI5
        clear hI5 hSm hR4 hU4 hk4 hk5 HI
        go_wp2_with fail
        go_loopw [11, 66] (fun u i w6 => ∃ k : Nat, k ≤ ws.length ∧ i = .int .i64 k ∧ Keeps noB w5 w6 ∧ w6.ownsRow w5.heap.size 73 4 u ((ws.take k).filter fun x => x.c != cl).length (wcells ((ws.take k).filter fun x => x.c != cl)))
          (fun _ i _ => ws.length - (intOf i).toNat)
        case atStart => exact ⟨0, by omega, rfl, (Keeps.refl _ _).alloc _, own_wants0 _⟩
        case round =>
          obtain ⟨k, hk, rfl, hk6, ho6⟩ := hrel
          obtain ⟨u6, c6, hus⟩ := (WtR.of_own ho6).slice
          subst hus
          by_cases hlt : k < ws.length
          · obtain ⟨x, hx⟩ : ∃ x, x = ws[k] := ⟨_, rfl⟩
            have hts : ws.take (k + 1) = ws.take k ++ [x] := by rw [List.take_succ_eq_append_getElem hlt, hx]
            obtain ⟨gx, ox, rfl, x0, x1, x2, x3⟩ := (WtR.of_own (HI5.out.no hk6).own).read.at_ hlt
            rw [← hx] at x0 x1 x2 x3
            have hlf : ((ws.take k).filter fun x => x.c != cl).length ≤ k := Nat.le_trans (List.length_filter_le _ _) (by rw [List.length_take]; omega)
            generalize hrs : (ws.take k).filter (fun x => x.c != cl) = rs at *
            have HRS := Lib.hid hrs
            have HTS := Lib.hid hts
            clear hx hts hrs
            obtain ⟨xc, xp, xo, xw⟩ := x
            simp only at x0 x1 x2 x3
            cases hc : (xc != cl)
            · have HC := Lib.hid hc
              go_wp2_with fail
              go_roundw
              case rel =>
                refine ⟨k + 1, by omega, by go_num, hk6.alloc _, ?_⟩
                rw [HTS.out, List.filter_append, HRS.out, List.filter_cons_of_neg (by simp only [HC.out]; exact Bool.false_ne_true), List.filter_nil, List.append_nil]
                exact ho6.alloc _
              case measure => simp [intOf]; omega
            · have HC := Lib.hid hc
              have hO := (ho6.alloc (.cells #[.int .i64 xc, .int .i64 xp, .int .i64 xo, .bool xw] 73)).alloc (.cells #[.int .i64 xc, .int .i64 xp, .int .i64 xo, .bool xw] 73)
              have HO := Lib.hid hO
              clear hO
              have hN : ((wr.alloc (.cells #[.int .i64 xc, .int .i64 xp, .int .i64 xo, .bool xw] 73)).alloc (.cells #[.int .i64 xc, .int .i64 xp, .int .i64 xo, .bool xw] 73)).heap[wr.heap.size + 1]? = some (.cells #[.int .i64 xc, .int .i64 xp, .int .i64 xo, .bool xw] 73 (0, 0)) := by
                rw [← alloc_size wr (.cells #[.int .i64 xc, .int .i64 xp, .int .i64 xo, .bool xw] 73)]; exact heap_alloc_new _ _
              have HN := Lib.hid hN
              clear hN
              have hB : w5.heap.size ≤ ((wr.alloc (.cells #[.int .i64 xc, .int .i64 xp, .int .i64 xo, .bool xw] 73)).alloc (.cells #[.int .i64 xc, .int .i64 xp, .int .i64 xo, .bool xw] 73)).heap.size := by
                rw [alloc_size, alloc_size]; have := hk6.size; omega
              go_wp2_with (at_builtin; refine wpList_append_w rfl _ _ rfl w5.heap.size _ rs rfl HO.out (by omega) (wr.heap.size + 1) 1 ⟨xc, xp, xo, xw⟩ rfl (0, 0) HN.out hB ?_)
              intro u' w7 g1 g2 _
              have hk7 : Keeps noB w5 w7 := ((hk6.alloc _).alloc _).own HO.out (Nat.le_refl _) g2
              have HG := Lib.hid g1
              clear g1 g2
              go_wp2_with fail
              go_roundw
              case rel =>
                refine ⟨k + 1, by omega, by go_num, hk7, ?_⟩
                rw [HTS.out, List.filter_append, HRS.out, List.filter_cons_of_pos (by simp only [HC.out]), List.filter_nil]
                rw [List.length_append]
                exact HG.out
              case measure => simp [intOf]; omega
          · have : k = ws.length := by omega
            subst this
            rw [List.take_length] at ho6
            have hI6 := HI5.out.no hk6
            have hRm := remove_c hI6.q (by omega) cl
            rw [rmW_filter HWO.out.2] at hRm
            have hrl := rm_len (c := cl) ws
            have hag := rm_again (c := cl) ws
            have hS5 : ∀ y, S y → y < w5.heap.size := HI5.out.q.lt
            have hfl : (ws.filter fun x => x.c != cl).length ≤ ws.length := List.length_filter_le _ _
            rw [List.take_length]
            generalize (ws.filter fun x => x.c != cl) = rs at *
            have HI6 := Lib.hid hI6
            have HO6 := Lib.hid ho6
            have HAG := Lib.hid hag
            have HS5 := Lib.hid hS5
            obtain ⟨q, hq⟩ : ∃ q, q = decide (0 ≤ ofW cl ws) := ⟨_, rfl⟩
            rw [← hq] at hRm
            have h1 : decide (rs.length < ws.length) = q := by rw [hq, hrl]
            have h2 : decide ((rs.length : Int) < (ws.length : Int)) = q := by rw [← h1]; simp
            clear hI6 ho6 hag hrl hq hlt hS5
            go_wp2_with fail
            refine hRm.mono ?_
            rintro e w7 ⟨⟨rfl, hk7⟩, S7, _, hS7, v7, hq7⟩
            have hA7 := all_c hq7 (by omega)
            have hO7 := own_keep HO6.out hk7 (fun k hk _ _ hs => by have := HS5.out k hs; omega)
            clear hRm
            have hkw7 : Keeps noB w w7 := kx' HI6.out.kp hk7 (fun y hy => (HI6.out.sp y hy).1)
            have hS7' : ∀ y, S7 y → w.heap.size ≤ y := fun y hy => by
              rcases hS7 y hy with h | h
              · exact (HI6.out.sp y h).1
              · have := HI6.out.kp.size; omega
            have HO7 := Lib.hid hO7
            have HQ7 := Lib.hid hq7
            have HS7 := Lib.hid hS7'
            clear hO7 hq7 hS7 hS7' hk7
            cases q
            all_goals
              go_wp2_with fail
              refine hA7.mono ?_
              rintro e w8 ⟨v8, ⟨rfl, hk8⟩, hR8⟩
              obtain ⟨a8, c8, rfl⟩ := hR8.slice
              have hSm := sameW_c hR8.read ((WtR.of_own (own_keep_no HO7.out hk8)).read) (by omega)
              rw [decide_eq_true rfl] at hSm
              clear hR8
              go_wp2_with fail
              refine hSm.mono ?_
              rintro e w9 ⟨rfl, hk9⟩
              have hR9 := remove_c ((HQ7.out.no hk8).no hk9) (by omega) cl
              rw [HAG.out] at hR9
              clear hSm
              go_wp2_with fail
              refine hR9.mono ?_
              rintro e w10 ⟨⟨rfl, hk10⟩, _⟩
              go_wp2_with fail
              go_ret
              exact ⟨rfl, kx' ((hkw7.trans_no hk8).trans_no hk9) hk10 HS7.out⟩
end Go.Proofs.Ytlpimkmkcfbddaa
