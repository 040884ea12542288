/- TableRuns: whatever is done with a table: all answers are the document's: the law answers true at every input. No condition. -/
import Derived.Test.YtlpimkmkcfbddaaTr8
import Derived.Test.YtlpimkmkcfbddaaLawTableAlone
import Derived.Test.YtlpimkmkcfbddaaHeldM
namespace Go.Proofs.Ytlpimkmkcfbddaa
open Go.RowKit

set_option maxRecDepth 100000 in
set_option maxHeartbeats 16000000 in
theorem tableRuns_w (a : Option Addr) (len cap : Nat) (g : Nat → Nat → Value) (x0 x1 x2 x3 x4 : Value) (w : World) (hl : len ≤ maxLen) (hr : RdS w 5 a len g) (hq : ∀ k, k < len → Q5 (g k)) (q0 : IsI x0) (q1 : IsI x1) (q2 : IsI x2) (q3 : IsI x3) (q4 : IsI x4) :
    Calls Try.prog 7 #[.slice a len cap, .agg #[x0, x1, x2, x3, x4]] w (RetK noB (.bool true) w) := by
  unfold maxLen at hl
  obtain ⟨z0, rfl, _, _⟩ := q0
  obtain ⟨z1, rfl, _, _⟩ := q1
  obtain ⟨z2, rfl, _, _⟩ := q2
  obtain ⟨z3, rfl, _, _⟩ := q3
  obtain ⟨z4, rfl, _, _⟩ := q4
  have HQ := Lib.hid (And.intro hr hq)
  clear hr hq
  obtain ⟨wA, hwA⟩ : ∃ wA, wA = w.alloc (.cells #[.int .i64 z0, .int .i64 z1, .int .i64 z2, .int .i64 z3, .int .i64 z4] 27) := ⟨_, rfl⟩
  have hkA : Keeps noB w wA := by rw [hwA]; exact (Keeps.refl _ _).alloc _
  have hX : wA.heap[w.heap.size]? = some (.cells #[.int .i64 z0, .int .i64 z1, .int .i64 z2, .int .i64 z3, .int .i64 z4] 27 (0, 0)) := by rw [hwA]; exact heap_alloc_new _ _
  have HA := Lib.hid (And.intro hkA hX)
  clear hkA hX
  by_cases h100 : 100 < len
  · have d0 : decide ((len : Int) > 100) = true := decide_eq_true (by omega)
    go_enter Try.func7, Try.ntmps7
    go_upto_region 1 with fail
    rw [← hwA]
    clear hwA
    go_wp2_with (go_at_call 20; refine (tableAlive_c _).mono ?_; rintro e w1 ⟨rfl, hk1⟩)
    go_ret
    exact ⟨rfl, HA.out.1.trans_no hk1⟩
  · have d0 : decide ((len : Int) > 100) = false := decide_eq_false (by omega)
    go_enter Try.func7, Try.ntmps7
    go_upto_region 1 with fail
    rw [← hwA]
    clear hwA
    go_wp2_with (first | (go_at_call 20; refine (tableAlive_c _).mono ?_; rintro e w1 ⟨rfl, hk1⟩) | (go_at_call 21; refine (new_c _).mono ?_; rintro e w2 ⟨rfl, hk2, ht2⟩) | with_reducible refine wpList_var0 46 21 6 (rcells TB.zero) rfl rfl rfl rfl rfl rfl rfl rfl rfl built46 zero46 (rcells_one _) (by decide) (by simp) (by simp) ?_)
    obtain ⟨bq, hbq⟩ : ∃ b, b = w.heap.size := ⟨_, rfl⟩
    have hI : TI w (w2.alloc (.cells (rcells TB.zero) 46)) w.heap.size w1.heap.size w2.heap.size #[.int .i64 z0, .int .i64 z1, .int .i64 z2, .int .i64 z3, .int .i64 z4] TB.zero := by
      have hkA := HA.out.1
      have hX := HA.out.2
      have s1 := hkA.size
      have s2 := hk1.size
      have s3 := ht2.lt
      have s4 := lt_of_blk hX
      have k3 : Keeps noB w2 (w2.alloc (.cells (rcells TB.zero) 46)) := (Keeps.refl _ _).alloc _
      exact ⟨((hkA.trans_no hk1).trans_no hk2).trans_no k3, ht2.no k3, heap_alloc_new _ _, k3.blk (hk2.blk (hk1.blk hX (noB_not _)) (noB_not _)) (noB_not _), TB.Inv.zero, ⟨by omega, by omega⟩, ⟨by omega, by omega, by omega⟩⟩
    have HI0 := Lib.hid hI
    clear hI hk1 hk2 ht2 HA
    rw [← hbq] at HI0
    rw [← hbq]
    clear hbq
    generalize w2.alloc (.cells (rcells TB.zero) 46) = wS at *
    generalize w1.heap.size = b at *
    generalize w2.heap.size = bw at *
    go_loopw [24] (fun i wr => ∃ k : Nat, k ≤ len ∧ i = .int .i64 k ∧ ∃ T : TB, TI w wr bq b bw #[.int .i64 z0, .int .i64 z1, .int .i64 z2, .int .i64 z3, .int .i64 z4] T)
      (fun i _ => len - (intOf i).toNat)
    case atStart => exact ⟨0, by omega, rfl, _, HI0.out⟩
    case round =>
      clear HI0
      obtain ⟨k, hk, rfl, T, hI⟩ := hrel
      have HI := Lib.hid hI
      by_cases hlt : k < len
      · obtain ⟨ba, off, rfl, hb, hc⟩ := (HQ.out.1.keep hI.kp) k hlt
        obtain ⟨⟨n0, e0, l0, m0⟩, ⟨n1, e1, _⟩, ⟨n2, e2, _⟩, ⟨n3, e3, _⟩, ⟨n4, e4, _⟩⟩ := HQ.out.2 k hlt
        have c0 : wr.cell? ⟨ba, off + k * 5, none⟩ = some (.int .i64 n0) := by rw [← e0]; exact hc 0 (by omega)
        have c1 : wr.cell? ⟨ba, off + k * 5 + 1, none⟩ = some (.int .i64 n1) := by rw [← e1]; exact hc 1 (by omega)
        have c2 : wr.cell? ⟨ba, off + k * 5 + 2, none⟩ = some (.int .i64 n2) := by rw [← e2]; exact hc 2 (by omega)
        have c3 : wr.cell? ⟨ba, off + k * 5 + 3, none⟩ = some (.int .i64 n3) := by rw [← e3]; exact hc 3 (by omega)
        have c4 : wr.cell? ⟨ba, off + k * 5 + 4, none⟩ = some (.int .i64 n4) := by rw [← e4]; exact hc 4 (by omega)
        have hkB : Keeps noB wr (wr.alloc (.cells #[.int .i64 n0, .int .i64 n1, .int .i64 n2, .int .i64 n3, .int .i64 n4] 27)) := (Keeps.refl _ _).alloc _
        have hXB := heap_alloc_new wr (.cells #[.int .i64 n0, .int .i64 n1, .int .i64 n2, .int .i64 n3, .int .i64 n4] 27)
        have hIB := hI.no hkB
        have hne : wr.heap.size ≠ b ∧ wr.heap.size ≠ bw := by have := hI.tb.lt; have := lt_of_blk hI.rt; omega
        obtain ⟨bx, hbx⟩ : ∃ bx, bx = wr.heap.size := ⟨_, rfl⟩
        rw [← hbx] at hXB hne
        have HB := Lib.hid (And.intro hIB (And.intro hXB hne))
        clear e0 e1 e2 e3 e4 hc hI hkB hXB hIB hne
        go_upto_block 2 with fail
        rw [← hbx]
        clear hbx c0 c1 c2 c3 c4 HI
        generalize wr.alloc (.cells #[.int .i64 n0, .int .i64 n1, .int .i64 n2, .int .i64 n3, .int .i64 n4] 27) = wB at *
        go_cut [9, 10] (fun v9 v10 wx => ∃ T' ok, v9 = .bool ok ∧ v10 = .bool ok ∧ TI w wx bq b bw #[.int .i64 z0, .int .i64 z1, .int .i64 z2, .int .i64 z3, .int .i64 z4] T' ∧ wx.heap[bx]? = some (.cells #[.int .i64 n0, .int .i64 n1, .int .i64 n2, .int .i64 n3, .int .i64 n4] 27 (0, 0)))
        case first =>
          have y0 := blk_cell HB.out.2.1 (i := 0) rfl
          have y1 := blk_cell HB.out.2.1 (i := 1) rfl
          have y2 := blk_cell HB.out.2.1 (i := 2) rfl
          have y3 := blk_cell HB.out.2.1 (i := 3) rfl
          have y4 := blk_cell HB.out.2.1 (i := 4) rfl
          by_cases k0 : n0 = 0
          · subst k0
            go_wp2_with (first
              | (go_at_call 22; refine (grant_c _ _ _ _ _ _ _ HB.out.1.tb).mono ?_; rintro e w3 ⟨⟨rfl, hk3⟩, ht3⟩; have hX3 := hk3.blk HB.out.2.1 (fun e => HB.out.2.2.1 e); have y1 := blk_cell hX3 (i := 1) rfl; have y2 := blk_cell hX3 (i := 2) rfl; have y3 := blk_cell hX3 (i := 3) rfl; have y4 := blk_cell hX3 (i := 4) rfl; have hR3 : w3.heap[bw]? = some (.cells (rcells T) 46 (0, 0)) := hk3.blk HB.out.1.rt (fun e => HB.out.1.ne.1 e.symm))
              | with_reducible refine wpList_load_row rfl 46 _ rfl bw rfl 46 _ (0, 0) _ hR3 Try.underlying46 rfl (info46' T) ?_
              | (go_at_call 30; refine (grant_r _ _ _ _ T _).mono ?_; rintro e w4 ⟨rfl, hk4⟩; have hR4 := hk4.blk hR3 (noB_not _))
              | with_reducible refine wpList_store_row rfl 46 _ _ rfl bw (rcells (T.grant n1 n2 n3 n4)) rfl rfl 46 _ hR4 (info46' _) (by rw [rcells_size, rcells_size]) (rcells_one _) ?_)
            go_meet
            case rel =>
              refine ⟨_, _, rfl, rfl, HB.out.1.step hk3 ht3 (HB.out.1.inv.grant _ _ _ _) hk4, ?_⟩
              rw [setRow_other _ _ _ _ HB.out.2.2.2]
              exact hk4.blk hX3 (noB_not _)
          by_cases k1 : n0 = 1
          · subst k1
            go_wp2_with (first
              | (go_at_call 23; refine (drop_c _ _ _ _ _ _ _ HB.out.1.tb).mono ?_; rintro e w3 ⟨⟨rfl, hk3⟩, ht3⟩; have hX3 := hk3.blk HB.out.2.1 (fun e => HB.out.2.2.1 e); have y1 := blk_cell hX3 (i := 1) rfl; have y2 := blk_cell hX3 (i := 2) rfl; have y3 := blk_cell hX3 (i := 3) rfl; have y4 := blk_cell hX3 (i := 4) rfl; have hR3 : w3.heap[bw]? = some (.cells (rcells T) 46 (0, 0)) := hk3.blk HB.out.1.rt (fun e => HB.out.1.ne.1 e.symm))
              | with_reducible refine wpList_load_row rfl 46 _ rfl bw rfl 46 _ (0, 0) _ hR3 Try.underlying46 rfl (info46' T) ?_
              | (go_at_call 31; refine (drop_r _ _ _ _ T _).mono ?_; rintro e w4 ⟨rfl, hk4⟩; have hR4 := hk4.blk hR3 (noB_not _))
              | with_reducible refine wpList_store_row rfl 46 _ _ rfl bw (rcells (T.drop n1 n2 n3 n4)) rfl rfl 46 _ hR4 (info46' _) (by rw [rcells_size, rcells_size]) (rcells_one _) ?_)
            go_meet
            case rel =>
              refine ⟨_, _, rfl, rfl, HB.out.1.step hk3 ht3 (HB.out.1.inv.drop _ _ _ _) hk4, ?_⟩
              rw [setRow_other _ _ _ _ HB.out.2.2.2]
              exact hk4.blk hX3 (noB_not _)
          by_cases k2 : n0 = 2
          · subst k2
            go_wp2_with (first
              | (go_at_call 24; refine (clear_c _ _ _ _ HB.out.1.tb).mono ?_; rintro e w3 ⟨⟨rfl, hk3⟩, ht3⟩; have hX3 := hk3.blk HB.out.2.1 (fun e => HB.out.2.2.1 e); have y1 := blk_cell hX3 (i := 1) rfl; have y2 := blk_cell hX3 (i := 2) rfl; have y3 := blk_cell hX3 (i := 3) rfl; have y4 := blk_cell hX3 (i := 4) rfl; have hR3 : w3.heap[bw]? = some (.cells (rcells T) 46 (0, 0)) := hk3.blk HB.out.1.rt (fun e => HB.out.1.ne.1 e.symm))
              | with_reducible refine wpList_load_row rfl 46 _ rfl bw rfl 46 _ (0, 0) _ hR3 Try.underlying46 rfl (info46' T) ?_
              | (go_at_call 32; refine (clear_r _ T _).mono ?_; rintro e w4 ⟨rfl, hk4⟩; have hR4 := hk4.blk hR3 (noB_not _))
              | with_reducible refine wpList_store_row rfl 46 _ _ rfl bw (rcells (T.clr n1)) rfl rfl 46 _ hR4 (info46' _) (by rw [rcells_size, rcells_size]) (rcells_one _) ?_)
            go_meet
            case rel =>
              refine ⟨_, _, rfl, rfl, HB.out.1.step hk3 ht3 (HB.out.1.inv.clr _) hk4, ?_⟩
              rw [setRow_other _ _ _ _ HB.out.2.2.2]
              exact hk4.blk hX3 (noB_not _)
          have e0 : (n0 == 0) = false := by simpa using k0
          have e1 : (n0 == 1) = false := by simpa using k1
          have e2 : (n0 == 2) = false := by simpa using k2
          clear k0 k1 k2
          go_wp2_with fail
          go_meet
          case rel => exact ⟨_, _, rfl, rfl, HB.out.1, HB.out.2.1⟩
        case rest =>
          rename World => wc
          obtain ⟨T', ok, rfl, rfl, hI, hX⟩ := hcut
          obtain ⟨L, hL⟩ : ∃ L, L = (rcells T').toList := ⟨_, rfl⟩
          have hS : ∀ w', Keeps noB wc w' → w'.cell? ⟨bx, 1, none⟩ = some (.int .i64 n1) ∧ w'.cell? ⟨bx, 2, none⟩ = some (.int .i64 n2) ∧ w'.rangeAt bw 0 L := fun w' hk => by
            have h1 := hk.blk hX (noB_not _)
            exact ⟨blk_cell h1 (i := 1) rfl, blk_cell h1 (i := 2) rfl, range_row (hI.rt.no hk) hL⟩
          have hlen : (Try.prog.info? 46).map (·.size) = some L.length := by rw [hL, Array.length_toList]; exact info46' T'
          have hV : Value.agg L.toArray = .agg (rcells T') := by rw [hL]
          have hob : (ok != ok) = false := by simp
          have HI := Lib.hid hI
          have HL := Lib.hid (And.intro hlen hV)
          have HS := Lib.hid hS
          clear hI hL hS hX HB hlen hV
          have hk : Keeps noB wc wc.drew := (Keeps.refl _ _).drew
          go_upto_region 21 with fail
          -- R21
          refine wp_region_held_drew (S := fun w' => w'.cell? ⟨bx, 1, none⟩ = some (.int .i64 n1) ∧ w'.cell? ⟨bx, 2, none⟩ = some (.int .i64 n2) ∧ w'.rangeAt bw 0 L) (by kernel_rfl) (HS.out _ hk) (fun hHeld => ?_)
          refine heldTake (i := 0) (v := ?_) rfl (by kernel_rfl) (by kernel_rfl) (by kernel_rfl) (fun _ _ _ h => h) (Or.inl ⟨by rfl, ?_⟩) (by assumption) ?_
          rotate_left
          · (intro w hSw; (try dsimp only at hSw); go_simp) <;> with_reducible rfl
          simp only [Act.put, List.setIfInBounds_toArray, List.set_cons_zero, List.set_cons_succ]
          refine heldTake (i := 1) (v := ?_) rfl (by kernel_rfl) (by kernel_rfl) (by kernel_rfl) (fun _ _ _ h => h) (Or.inl ⟨by rfl, ?_⟩) (by assumption) ?_
          rotate_left
          · (intro w hSw; (try dsimp only at hSw); go_simp) <;> with_reducible rfl
          simp only [Act.put, List.setIfInBounds_toArray, List.set_cons_zero, List.set_cons_succ]
          refine heldTake (i := 2) (v := ?_) rfl (by kernel_rfl) (by kernel_rfl) (by kernel_rfl) (fun _ _ _ h => h) (Or.inl ⟨by rfl, ?_⟩) (by assumption) ?_
          rotate_left
          · (intro w hSw; (try dsimp only at hSw); go_simp) <;> with_reducible rfl
          simp only [Act.put, List.setIfInBounds_toArray, List.set_cons_zero, List.set_cons_succ]
          refine heldTake (i := 3) (v := ?_) rfl (by kernel_rfl) (by kernel_rfl) (by kernel_rfl) (fun _ _ _ h => h) (Or.inl ⟨by rfl, ?_⟩) (by assumption) ?_
          rotate_left
          · (intro w hSw; (try dsimp only at hSw); go_simp) <;> with_reducible rfl
          simp only [Act.put, List.setIfInBounds_toArray, List.set_cons_zero, List.set_cons_succ]
          refine heldTake (i := 4) (v := ?_) rfl (by kernel_rfl) (by kernel_rfl) (by kernel_rfl) (fun _ _ _ h => h) (Or.inl ⟨by rfl, ?_⟩) (by assumption) ?_
          rotate_left
          · (intro w hSw; (try dsimp only at hSw); go_simp) <;> with_reducible rfl
          simp only [Act.put, List.setIfInBounds_toArray, List.set_cons_zero, List.set_cons_succ]
          refine heldTake (i := 5) (v := ?_) rfl (by kernel_rfl) (by kernel_rfl) (by kernel_rfl) (fun _ _ _ h => h) (Or.inl ⟨by rfl, ?_⟩) (by assumption) ?_
          rotate_left
          · (intro w hSw; (try dsimp only at hSw); go_simp) <;> with_reducible rfl
          simp only [Act.put, List.setIfInBounds_toArray, List.set_cons_zero, List.set_cons_succ]
          refine heldTake (i := 6) (v := ?_) rfl (by kernel_rfl) (by kernel_rfl) (by kernel_rfl) (fun _ _ _ h => h) (Or.inl ⟨by rfl, ?_⟩) (by assumption) ?_
          rotate_left
          · (intro w hSw; (try dsimp only at hSw); go_simp) <;> with_reducible rfl
          simp only [Act.put, List.setIfInBounds_toArray, List.set_cons_zero, List.set_cons_succ]
          refine heldTake (i := 7) (v := ?_) rfl (by kernel_rfl) (by kernel_rfl) (by kernel_rfl) (fun _ _ _ h => h) (Or.inl ⟨by rfl, ?_⟩) (by assumption) ?_
          rotate_left
          · (intro w hSw; (try dsimp only at hSw); go_simp) <;> with_reducible rfl
          simp only [Act.put, List.setIfInBounds_toArray, List.set_cons_zero, List.set_cons_succ]
          refine heldTake (i := 8) (v := ?_) rfl (by kernel_rfl) (by kernel_rfl) (by kernel_rfl) (fun _ _ _ h => h) (Or.inl ⟨by rfl, ?_⟩) (by assumption) ?_
          rotate_left
          · (intro w hSw; (try dsimp only at hSw); go_simp) <;> with_reducible rfl
          simp only [Act.put, List.setIfInBounds_toArray, List.set_cons_zero, List.set_cons_succ]
          refine heldTake (i := 10) rfl (by kernel_rfl) (by kernel_rfl) (by kernel_rfl) (fun _ _ _ h => h) (yieldsIf_load_mid (by rfl) 46 _ rfl bw 0 rfl L _ (fun w h => h.2.2) Try.underlying46 rfl HL.out.1) (by assumption) ?_
          simp only [Act.put, List.setIfInBounds_toArray, List.set_cons_zero, List.set_cons_succ]
          refine heldTake (i := 11) (v := ?_) rfl (by kernel_rfl) (by kernel_rfl) (by kernel_rfl) (fun _ _ _ h => h) (Or.inl ⟨by rfl, ?_⟩) (by assumption) ?_
          rotate_left
          · (intro w hSw; (try dsimp only at hSw); go_simp) <;> with_reducible rfl
          simp only [Act.put, List.setIfInBounds_toArray, List.set_cons_zero, List.set_cons_succ]
          refine heldTake (i := 12) (v := ?_) rfl (by kernel_rfl) (by kernel_rfl) (by kernel_rfl) (fun _ _ _ h => h) (Or.inl ⟨by rfl, ?_⟩) (by assumption) ?_
          rotate_left
          · (intro w hSw; (try dsimp only at hSw); go_simp) <;> with_reducible rfl
          simp only [Act.put, List.setIfInBounds_toArray, List.set_cons_zero, List.set_cons_succ]
          refine heldTake (i := 13) (v := ?_) rfl (by kernel_rfl) (by kernel_rfl) (by kernel_rfl) (fun _ _ _ h => h) (Or.inl ⟨by rfl, ?_⟩) (by assumption) ?_
          rotate_left
          · (intro w hSw; (try dsimp only at hSw); go_simp) <;> with_reducible rfl
          simp only [Act.put, List.setIfInBounds_toArray, List.set_cons_zero, List.set_cons_succ]
          refine heldTake (i := 14) (v := ?_) rfl (by kernel_rfl) (by kernel_rfl) (by kernel_rfl) (fun _ _ _ h => h) (Or.inl ⟨by rfl, ?_⟩) (by assumption) ?_
          rotate_left
          · (intro w hSw; (try dsimp only at hSw); go_simp) <;> with_reducible rfl
          simp only [Act.put, List.setIfInBounds_toArray, List.set_cons_zero, List.set_cons_succ]
          refine heldOne (i := 9) (by kernel_rfl) rfl (fun K hK => ?_)
          go_simp
          go_at_call 26
          refine (HI.out.c26 hk _ _).mono ?_
          rintro e w2 ⟨rfl, hk⟩
          go_wp2_with fail
          refine hK.out _ _ (HS.out _ hk) (fun hHeld => ?_)
          clear hK K
          try simp only [Act.put, List.setIfInBounds_toArray, List.set_cons_zero, List.set_cons_succ]
          refine heldOne (i := 15) (by kernel_rfl) rfl (fun K hK => ?_)
          go_simp
          go_at_call 33
          refine (TI.c33 HL.out.2 hk _ _).mono ?_
          rintro e w2 ⟨rfl, hk⟩
          go_wp2_with fail
          refine hK.out _ _ (HS.out _ hk) (fun hHeld => ?_)
          clear hK K
          try simp only [Act.put, List.setIfInBounds_toArray, List.set_cons_zero, List.set_cons_succ]
          refine heldTake (i := 16) (v := ?_) rfl (by kernel_rfl) (by kernel_rfl) (by kernel_rfl) (fun _ _ _ h => h) (Or.inl ⟨by rfl, ?_⟩) (by assumption) ?_
          rotate_left
          · (intro w hSw; (try dsimp only at hSw); go_simp) <;> with_reducible rfl
          simp only [Act.put, List.setIfInBounds_toArray, List.set_cons_zero, List.set_cons_succ]
          refine heldTake (i := 17) (v := ?_) rfl (by kernel_rfl) (by kernel_rfl) (by kernel_rfl) (fun _ _ _ h => h) (Or.inl ⟨by rfl, ?_⟩) (by assumption) ?_
          rotate_left
          · (intro w hSw; (try dsimp only at hSw); go_simp) <;> with_reducible rfl
          simp only [Act.put, List.setIfInBounds_toArray, List.set_cons_zero, List.set_cons_succ]
          refine heldTake (i := 18) (v := ?_) rfl (by kernel_rfl) (by kernel_rfl) (by kernel_rfl) (fun _ _ _ h => h) (Or.inl ⟨by rfl, ?_⟩) (by assumption) ?_
          rotate_left
          · (intro w hSw; (try dsimp only at hSw); go_simp) <;> with_reducible rfl
          simp only [Act.put, List.setIfInBounds_toArray, List.set_cons_zero, List.set_cons_succ]
          refine heldTake (i := 19) (v := ?_) rfl (by kernel_rfl) (by kernel_rfl) (by kernel_rfl) (fun _ _ _ h => h) (Or.inl ⟨by rfl, ?_⟩) (by assumption) ?_
          rotate_left
          · (intro w hSw; (try dsimp only at hSw); go_simp) <;> with_reducible rfl
          simp only [Act.put, List.setIfInBounds_toArray, List.set_cons_zero, List.set_cons_succ]
          refine heldTake (i := 20) (v := ?_) rfl (by kernel_rfl) (by kernel_rfl) (by kernel_rfl) (fun _ _ _ h => h) (Or.inl ⟨by rfl, ?_⟩) (by assumption) ?_
          rotate_left
          · (intro w hSw; (try dsimp only at hSw); go_simp) <;> with_reducible rfl
          simp only [Act.put, List.setIfInBounds_toArray, List.set_cons_zero, List.set_cons_succ]
          refine heldTake (i := 21) (v := ?_) rfl (by kernel_rfl) (by kernel_rfl) (by kernel_rfl) (fun _ _ _ h => h) (Or.inl ⟨by rfl, ?_⟩) (by assumption) ?_
          rotate_left
          · (intro w hSw; (try dsimp only at hSw); go_simp) <;> with_reducible rfl
          simp only [Act.put, List.setIfInBounds_toArray, List.set_cons_zero, List.set_cons_succ]
          refine heldTake (i := 22) (v := ?_) rfl (by kernel_rfl) (by kernel_rfl) (by kernel_rfl) (fun _ _ _ h => h) (Or.inl ⟨by rfl, ?_⟩) (by assumption) ?_
          rotate_left
          · (intro w hSw; (try dsimp only at hSw); go_simp) <;> with_reducible rfl
          simp only [Act.put, List.setIfInBounds_toArray, List.set_cons_zero, List.set_cons_succ]
          refine heldTake (i := 23) (v := ?_) rfl (by kernel_rfl) (by kernel_rfl) (by kernel_rfl) (fun _ _ _ h => h) (Or.inl ⟨by rfl, ?_⟩) (by assumption) ?_
          rotate_left
          · (intro w hSw; (try dsimp only at hSw); go_simp) <;> with_reducible rfl
          simp only [Act.put, List.setIfInBounds_toArray, List.set_cons_zero, List.set_cons_succ]
          refine heldTake (i := 25) rfl (by kernel_rfl) (by kernel_rfl) (by kernel_rfl) (fun _ _ _ h => h) (yieldsIf_load_mid (by rfl) 46 _ rfl bw 0 rfl L _ (fun w h => h.2.2) Try.underlying46 rfl HL.out.1) (by assumption) ?_
          simp only [Act.put, List.setIfInBounds_toArray, List.set_cons_zero, List.set_cons_succ]
          refine heldTake (i := 26) (v := ?_) rfl (by kernel_rfl) (by kernel_rfl) (by kernel_rfl) (fun _ _ _ h => h) (Or.inl ⟨by rfl, ?_⟩) (by assumption) ?_
          rotate_left
          · (intro w hSw; (try dsimp only at hSw); go_simp) <;> with_reducible rfl
          simp only [Act.put, List.setIfInBounds_toArray, List.set_cons_zero, List.set_cons_succ]
          refine heldTake (i := 27) (v := ?_) rfl (by kernel_rfl) (by kernel_rfl) (by kernel_rfl) (fun _ _ _ h => h) (Or.inl ⟨by rfl, ?_⟩) (by assumption) ?_
          rotate_left
          · (intro w hSw; (try dsimp only at hSw); go_simp) <;> with_reducible rfl
          simp only [Act.put, List.setIfInBounds_toArray, List.set_cons_zero, List.set_cons_succ]
          refine heldTake (i := 28) (v := ?_) rfl (by kernel_rfl) (by kernel_rfl) (by kernel_rfl) (fun _ _ _ h => h) (Or.inl ⟨by rfl, ?_⟩) (by assumption) ?_
          rotate_left
          · (intro w hSw; (try dsimp only at hSw); go_simp) <;> with_reducible rfl
          simp only [Act.put, List.setIfInBounds_toArray, List.set_cons_zero, List.set_cons_succ]
          refine heldTake (i := 29) (v := ?_) rfl (by kernel_rfl) (by kernel_rfl) (by kernel_rfl) (fun _ _ _ h => h) (Or.inl ⟨by rfl, ?_⟩) (by assumption) ?_
          rotate_left
          · (intro w hSw; (try dsimp only at hSw); go_simp) <;> with_reducible rfl
          simp only [Act.put, List.setIfInBounds_toArray, List.set_cons_zero, List.set_cons_succ]
          refine heldOne (i := 24) (by kernel_rfl) rfl (fun K hK => ?_)
          go_simp
          go_at_call 25
          refine (HI.out.c25 hk _ _).mono ?_
          rintro e w2 ⟨rfl, hk⟩
          go_wp2_with fail
          refine hK.out _ _ (HS.out _ hk) (fun hHeld => ?_)
          clear hK K
          try simp only [Act.put, List.setIfInBounds_toArray, List.set_cons_zero, List.set_cons_succ]
          refine heldOne (i := 30) (by kernel_rfl) rfl (fun K hK => ?_)
          go_simp
          go_at_call 34
          refine (TI.c34 HL.out.2 hk _ _).mono ?_
          rintro e w2 ⟨rfl, hk⟩
          go_wp2_with fail
          refine hK.out _ _ (HS.out _ hk) (fun hHeld => ?_)
          clear hK K
          try simp only [Act.put, List.setIfInBounds_toArray, List.set_cons_zero, List.set_cons_succ]
          refine heldTake (i := 31) (v := ?_) rfl (by kernel_rfl) (by kernel_rfl) (by kernel_rfl) (fun _ _ _ h => h) (Or.inl ⟨by rfl, ?_⟩) (by assumption) ?_
          rotate_left
          · (intro w hSw; (try dsimp only at hSw); go_simp) <;> with_reducible rfl
          simp only [Act.put, List.setIfInBounds_toArray, List.set_cons_zero, List.set_cons_succ]
          refine heldTake (i := 32) (v := ?_) rfl (by kernel_rfl) (by kernel_rfl) (by kernel_rfl) (fun _ _ _ h => h) (Or.inl ⟨by rfl, ?_⟩) (by assumption) ?_
          rotate_left
          · (intro w hSw; (try dsimp only at hSw); go_simp) <;> with_reducible rfl
          simp only [Act.put, List.setIfInBounds_toArray, List.set_cons_zero, List.set_cons_succ]
          refine wpAnyH_done (by kernel_rfl) ?_ _
          -- E21
          go_wp2_with fail
          go_roundw
          case rel => exact ⟨k + 1, by omega, by go_num, _, HI.out.no hk⟩
          case measure => simp [intOf]; omega
      · have : k = len := by omega
        subst this
        have hI := HI.out
        clear HI HQ
        go_wp2_with fail
        go_loopw [11] (fun v wx => ∃ c : Nat, c ≤ 4 ∧ v = .int .i64 c ∧ TI w wx bq b bw #[.int .i64 z0, .int .i64 z1, .int .i64 z2, .int .i64 z3, .int .i64 z4] T) (fun v _ => 4 - (intOf v).toNat)
        case atStart => exact ⟨0, by omega, rfl, hI⟩
        case round =>
          clear hI
          obtain ⟨c, hc, rfl, hI⟩ := hrel
          by_cases hc4 : c < 4
          · have dc : decide ((c : Int) < 4) = true := decide_eq_true (by omega)
            go_wp2_with fail
            go_loopw [12] (fun v wx => ∃ q : Nat, q ≤ 6 ∧ v = .int .i64 q ∧ TI w wx bq b bw #[.int .i64 z0, .int .i64 z1, .int .i64 z2, .int .i64 z3, .int .i64 z4] T) (fun v _ => 6 - (intOf v).toNat)
            case atStart => exact ⟨0, by omega, rfl, hI⟩
            case round =>
              clear hI
              rename World => wc
              obtain ⟨q, hq, rfl, hI⟩ := hrel
              by_cases hq6 : q < 6
              · obtain ⟨L, hL⟩ : ∃ L, L = (rcells T).toList := ⟨_, rfl⟩
                have hS : ∀ w', Keeps noB wc w' → w'.rangeAt bw 0 L := fun w' hk => range_row (hI.rt.no hk) hL
                have hlen : (Try.prog.info? 46).map (·.size) = some L.length := by rw [hL, Array.length_toList]; exact info46' T
                have hV : Value.agg L.toArray = .agg (rcells T) := by rw [hL]
                have HI := Lib.hid hI
                have HL := Lib.hid (And.intro hlen hV)
                have HS := Lib.hid hS
                clear hI hL hS hlen hV
                have hk : Keeps noB wc wc.drew := (Keeps.refl _ _).drew
                go_upto_region 30 with fail
                -- R30
                refine wp_region_held_drew (S := fun w' => w'.rangeAt bw 0 L) (by kernel_rfl) (HS.out _ hk) (fun hHeld => ?_)
                refine heldTake (i := 0) (v := ?_) rfl (by kernel_rfl) (by kernel_rfl) (by kernel_rfl) (fun _ _ _ h => h) (Or.inl ⟨by rfl, ?_⟩) (by assumption) ?_
                rotate_left
                · (intro w hSw; (try dsimp only at hSw); go_simp) <;> with_reducible rfl
                simp only [Act.put, List.setIfInBounds_toArray, List.set_cons_zero, List.set_cons_succ]
                refine heldTake (i := 1) (v := ?_) rfl (by kernel_rfl) (by kernel_rfl) (by kernel_rfl) (fun _ _ _ h => h) (Or.inl ⟨by rfl, ?_⟩) (by assumption) ?_
                rotate_left
                · (intro w hSw; (try dsimp only at hSw); go_simp) <;> with_reducible rfl
                simp only [Act.put, List.setIfInBounds_toArray, List.set_cons_zero, List.set_cons_succ]
                refine heldTake (i := 2) (v := ?_) rfl (by kernel_rfl) (by kernel_rfl) (by kernel_rfl) (fun _ _ _ h => h) (Or.inl ⟨by rfl, ?_⟩) (by assumption) ?_
                rotate_left
                · (intro w hSw; (try dsimp only at hSw); go_simp) <;> with_reducible rfl
                simp only [Act.put, List.setIfInBounds_toArray, List.set_cons_zero, List.set_cons_succ]
                refine heldTake (i := 4) rfl (by kernel_rfl) (by kernel_rfl) (by kernel_rfl) (fun _ _ _ h => h) (yieldsIf_load_mid (by rfl) 46 _ rfl bw 0 rfl L _ (fun w h => h) Try.underlying46 rfl HL.out.1) (by assumption) ?_
                simp only [Act.put, List.setIfInBounds_toArray, List.set_cons_zero, List.set_cons_succ]
                refine heldTake (i := 5) (v := ?_) rfl (by kernel_rfl) (by kernel_rfl) (by kernel_rfl) (fun _ _ _ h => h) (Or.inl ⟨by rfl, ?_⟩) (by assumption) ?_
                rotate_left
                · (intro w hSw; (try dsimp only at hSw); go_simp) <;> with_reducible rfl
                simp only [Act.put, List.setIfInBounds_toArray, List.set_cons_zero, List.set_cons_succ]
                refine heldTake (i := 6) (v := ?_) rfl (by kernel_rfl) (by kernel_rfl) (by kernel_rfl) (fun _ _ _ h => h) (Or.inl ⟨by rfl, ?_⟩) (by assumption) ?_
                rotate_left
                · (intro w hSw; (try dsimp only at hSw); go_simp) <;> with_reducible rfl
                simp only [Act.put, List.setIfInBounds_toArray, List.set_cons_zero, List.set_cons_succ]
                refine heldOne (i := 3) (by kernel_rfl) rfl (fun K hK => ?_)
                go_simp
                go_at_call 26
                refine (HI.out.c26 hk _ _).mono ?_
                rintro e w2 ⟨rfl, hk⟩
                go_wp2_with fail
                refine hK.out _ _ (HS.out _ hk) (fun hHeld => ?_)
                clear hK K
                try simp only [Act.put, List.setIfInBounds_toArray, List.set_cons_zero, List.set_cons_succ]
                refine heldOne (i := 7) (by kernel_rfl) rfl (fun K hK => ?_)
                go_simp
                go_at_call 33
                refine (TI.c33 HL.out.2 hk _ _).mono ?_
                rintro e w2 ⟨rfl, hk⟩
                go_wp2_with fail
                refine hK.out _ _ (HS.out _ hk) (fun hHeld => ?_)
                clear hK K
                try simp only [Act.put, List.setIfInBounds_toArray, List.set_cons_zero, List.set_cons_succ]
                refine heldTake (i := 8) (v := ?_) rfl (by kernel_rfl) (by kernel_rfl) (by kernel_rfl) (fun _ _ _ h => h) (Or.inl ⟨by rfl, ?_⟩) (by assumption) ?_
                rotate_left
                · (intro w hSw; (try dsimp only at hSw); go_simp) <;> with_reducible rfl
                simp only [Act.put, List.setIfInBounds_toArray, List.set_cons_zero, List.set_cons_succ]
                refine heldTake (i := 9) (v := ?_) rfl (by kernel_rfl) (by kernel_rfl) (by kernel_rfl) (fun _ _ _ h => h) (Or.inl ⟨by rfl, ?_⟩) (by assumption) ?_
                rotate_left
                · (intro w hSw; (try dsimp only at hSw); go_simp) <;> with_reducible rfl
                simp only [Act.put, List.setIfInBounds_toArray, List.set_cons_zero, List.set_cons_succ]
                refine heldTake (i := 10) (v := ?_) rfl (by kernel_rfl) (by kernel_rfl) (by kernel_rfl) (fun _ _ _ h => h) (Or.inl ⟨by rfl, ?_⟩) (by assumption) ?_
                rotate_left
                · (intro w hSw; (try dsimp only at hSw); go_simp) <;> with_reducible rfl
                simp only [Act.put, List.setIfInBounds_toArray, List.set_cons_zero, List.set_cons_succ]
                refine heldTake (i := 11) (v := ?_) rfl (by kernel_rfl) (by kernel_rfl) (by kernel_rfl) (fun _ _ _ h => h) (Or.inl ⟨by rfl, ?_⟩) (by assumption) ?_
                rotate_left
                · (intro w hSw; (try dsimp only at hSw); go_simp) <;> with_reducible rfl
                simp only [Act.put, List.setIfInBounds_toArray, List.set_cons_zero, List.set_cons_succ]
                refine heldTake (i := 12) (v := ?_) rfl (by kernel_rfl) (by kernel_rfl) (by kernel_rfl) (fun _ _ _ h => h) (Or.inl ⟨by rfl, ?_⟩) (by assumption) ?_
                rotate_left
                · (intro w hSw; (try dsimp only at hSw); go_simp) <;> with_reducible rfl
                simp only [Act.put, List.setIfInBounds_toArray, List.set_cons_zero, List.set_cons_succ]
                refine heldTake (i := 14) rfl (by kernel_rfl) (by kernel_rfl) (by kernel_rfl) (fun _ _ _ h => h) (yieldsIf_load_mid (by rfl) 46 _ rfl bw 0 rfl L _ (fun w h => h) Try.underlying46 rfl HL.out.1) (by assumption) ?_
                simp only [Act.put, List.setIfInBounds_toArray, List.set_cons_zero, List.set_cons_succ]
                refine heldTake (i := 15) (v := ?_) rfl (by kernel_rfl) (by kernel_rfl) (by kernel_rfl) (fun _ _ _ h => h) (Or.inl ⟨by rfl, ?_⟩) (by assumption) ?_
                rotate_left
                · (intro w hSw; (try dsimp only at hSw); go_simp) <;> with_reducible rfl
                simp only [Act.put, List.setIfInBounds_toArray, List.set_cons_zero, List.set_cons_succ]
                refine heldTake (i := 16) (v := ?_) rfl (by kernel_rfl) (by kernel_rfl) (by kernel_rfl) (fun _ _ _ h => h) (Or.inl ⟨by rfl, ?_⟩) (by assumption) ?_
                rotate_left
                · (intro w hSw; (try dsimp only at hSw); go_simp) <;> with_reducible rfl
                simp only [Act.put, List.setIfInBounds_toArray, List.set_cons_zero, List.set_cons_succ]
                refine heldOne (i := 13) (by kernel_rfl) rfl (fun K hK => ?_)
                go_simp
                go_at_call 25
                refine (HI.out.c25 hk _ _).mono ?_
                rintro e w2 ⟨rfl, hk⟩
                go_wp2_with fail
                refine hK.out _ _ (HS.out _ hk) (fun hHeld => ?_)
                clear hK K
                try simp only [Act.put, List.setIfInBounds_toArray, List.set_cons_zero, List.set_cons_succ]
                refine heldOne (i := 17) (by kernel_rfl) rfl (fun K hK => ?_)
                go_simp
                go_at_call 34
                refine (TI.c34 HL.out.2 hk _ _).mono ?_
                rintro e w2 ⟨rfl, hk⟩
                go_wp2_with fail
                refine hK.out _ _ (HS.out _ hk) (fun hHeld => ?_)
                clear hK K
                try simp only [Act.put, List.setIfInBounds_toArray, List.set_cons_zero, List.set_cons_succ]
                refine heldTake (i := 18) (v := ?_) rfl (by kernel_rfl) (by kernel_rfl) (by kernel_rfl) (fun _ _ _ h => h) (Or.inl ⟨by rfl, ?_⟩) (by assumption) ?_
                rotate_left
                · (intro w hSw; (try dsimp only at hSw); go_simp) <;> with_reducible rfl
                simp only [Act.put, List.setIfInBounds_toArray, List.set_cons_zero, List.set_cons_succ]
                refine heldTake (i := 19) (v := ?_) rfl (by kernel_rfl) (by kernel_rfl) (by kernel_rfl) (fun _ _ _ h => h) (Or.inl ⟨by rfl, ?_⟩) (by assumption) ?_
                rotate_left
                · (intro w hSw; (try dsimp only at hSw); go_simp) <;> with_reducible rfl
                simp only [Act.put, List.setIfInBounds_toArray, List.set_cons_zero, List.set_cons_succ]
                refine heldTake (i := 20) (v := ?_) rfl (by kernel_rfl) (by kernel_rfl) (by kernel_rfl) (fun _ _ _ h => h) (Or.inl ⟨by rfl, ?_⟩) (by assumption) ?_
                rotate_left
                · (intro w hSw; (try dsimp only at hSw); go_simp) <;> with_reducible rfl
                simp only [Act.put, List.setIfInBounds_toArray, List.set_cons_zero, List.set_cons_succ]
                refine heldTake (i := 21) (v := ?_) rfl (by kernel_rfl) (by kernel_rfl) (by kernel_rfl) (fun _ _ _ h => h) (Or.inl ⟨by rfl, ?_⟩) (by assumption) ?_
                rotate_left
                · (intro w hSw; (try dsimp only at hSw); go_simp) <;> with_reducible rfl
                simp only [Act.put, List.setIfInBounds_toArray, List.set_cons_zero, List.set_cons_succ]
                refine heldTake (i := 22) (v := ?_) rfl (by kernel_rfl) (by kernel_rfl) (by kernel_rfl) (fun _ _ _ h => h) (Or.inl ⟨by rfl, ?_⟩) (by assumption) ?_
                rotate_left
                · (intro w hSw; (try dsimp only at hSw); go_simp) <;> with_reducible rfl
                simp only [Act.put, List.setIfInBounds_toArray, List.set_cons_zero, List.set_cons_succ]
                refine heldTake (i := 23) (v := ?_) rfl (by kernel_rfl) (by kernel_rfl) (by kernel_rfl) (fun _ _ _ h => h) (Or.inl ⟨by rfl, ?_⟩) (by assumption) ?_
                rotate_left
                · (intro w hSw; (try dsimp only at hSw); go_simp) <;> with_reducible rfl
                simp only [Act.put, List.setIfInBounds_toArray, List.set_cons_zero, List.set_cons_succ]
                refine heldTake (i := 25) rfl (by kernel_rfl) (by kernel_rfl) (by kernel_rfl) (fun _ _ _ h => h) (yieldsIf_load_mid (by rfl) 46 _ rfl bw 0 rfl L _ (fun w h => h) Try.underlying46 rfl HL.out.1) (by assumption) ?_
                simp only [Act.put, List.setIfInBounds_toArray, List.set_cons_zero, List.set_cons_succ]
                refine heldTake (i := 26) (v := ?_) rfl (by kernel_rfl) (by kernel_rfl) (by kernel_rfl) (fun _ _ _ h => h) (Or.inl ⟨by rfl, ?_⟩) (by assumption) ?_
                rotate_left
                · (intro w hSw; (try dsimp only at hSw); go_simp) <;> with_reducible rfl
                simp only [Act.put, List.setIfInBounds_toArray, List.set_cons_zero, List.set_cons_succ]
                refine heldTake (i := 27) (v := ?_) rfl (by kernel_rfl) (by kernel_rfl) (by kernel_rfl) (fun _ _ _ h => h) (Or.inl ⟨by rfl, ?_⟩) (by assumption) ?_
                rotate_left
                · (intro w hSw; (try dsimp only at hSw); go_simp) <;> with_reducible rfl
                simp only [Act.put, List.setIfInBounds_toArray, List.set_cons_zero, List.set_cons_succ]
                refine heldOne (i := 24) (by kernel_rfl) rfl (fun K hK => ?_)
                go_simp
                go_at_call 27
                refine (HI.out.c27 hk _ _).mono ?_
                rintro e w2 ⟨rfl, hk⟩
                go_wp2_with fail
                refine hK.out _ _ (HS.out _ hk) (fun hHeld => ?_)
                clear hK K
                try simp only [Act.put, List.setIfInBounds_toArray, List.set_cons_zero, List.set_cons_succ]
                refine heldOne (i := 28) (by kernel_rfl) rfl (fun K hK => ?_)
                go_simp
                go_at_call 35
                refine (TI.c35 HL.out.2 hk _ _).mono ?_
                rintro e w2 ⟨rfl, hk⟩
                go_wp2_with fail
                refine hK.out _ _ (HS.out _ hk) (fun hHeld => ?_)
                clear hK K
                try simp only [Act.put, List.setIfInBounds_toArray, List.set_cons_zero, List.set_cons_succ]
                refine heldTake (i := 29) (v := ?_) rfl (by kernel_rfl) (by kernel_rfl) (by kernel_rfl) (fun _ _ _ h => h) (Or.inl ⟨by rfl, ?_⟩) (by assumption) ?_
                rotate_left
                · (intro w hSw; (try dsimp only at hSw); go_simp) <;> with_reducible rfl
                simp only [Act.put, List.setIfInBounds_toArray, List.set_cons_zero, List.set_cons_succ]
                refine heldTake (i := 30) (v := ?_) rfl (by kernel_rfl) (by kernel_rfl) (by kernel_rfl) (fun _ _ _ h => h) (Or.inl ⟨by rfl, ?_⟩) (by assumption) ?_
                rotate_left
                · (intro w hSw; (try dsimp only at hSw); go_simp) <;> with_reducible rfl
                simp only [Act.put, List.setIfInBounds_toArray, List.set_cons_zero, List.set_cons_succ]
                refine heldTake (i := 31) (v := ?_) rfl (by kernel_rfl) (by kernel_rfl) (by kernel_rfl) (fun _ _ _ h => h) (Or.inl ⟨by rfl, ?_⟩) (by assumption) ?_
                rotate_left
                · (intro w hSw; (try dsimp only at hSw); go_simp) <;> with_reducible rfl
                simp only [Act.put, List.setIfInBounds_toArray, List.set_cons_zero, List.set_cons_succ]
                refine heldTake (i := 32) (v := ?_) rfl (by kernel_rfl) (by kernel_rfl) (by kernel_rfl) (fun _ _ _ h => h) (Or.inl ⟨by rfl, ?_⟩) (by assumption) ?_
                rotate_left
                · (intro w hSw; (try dsimp only at hSw); go_simp) <;> with_reducible rfl
                simp only [Act.put, List.setIfInBounds_toArray, List.set_cons_zero, List.set_cons_succ]
                refine heldTake (i := 33) (v := ?_) rfl (by kernel_rfl) (by kernel_rfl) (by kernel_rfl) (fun _ _ _ h => h) (Or.inl ⟨by rfl, ?_⟩) (by assumption) ?_
                rotate_left
                · (intro w hSw; (try dsimp only at hSw); go_simp) <;> with_reducible rfl
                simp only [Act.put, List.setIfInBounds_toArray, List.set_cons_zero, List.set_cons_succ]
                refine heldTake (i := 34) (v := ?_) rfl (by kernel_rfl) (by kernel_rfl) (by kernel_rfl) (fun _ _ _ h => h) (Or.inl ⟨by rfl, ?_⟩) (by assumption) ?_
                rotate_left
                · (intro w hSw; (try dsimp only at hSw); go_simp) <;> with_reducible rfl
                simp only [Act.put, List.setIfInBounds_toArray, List.set_cons_zero, List.set_cons_succ]
                refine heldTake (i := 36) rfl (by kernel_rfl) (by kernel_rfl) (by kernel_rfl) (fun _ _ _ h => h) (yieldsIf_load_mid (by rfl) 46 _ rfl bw 0 rfl L _ (fun w h => h) Try.underlying46 rfl HL.out.1) (by assumption) ?_
                simp only [Act.put, List.setIfInBounds_toArray, List.set_cons_zero, List.set_cons_succ]
                refine heldTake (i := 37) (v := ?_) rfl (by kernel_rfl) (by kernel_rfl) (by kernel_rfl) (fun _ _ _ h => h) (Or.inl ⟨by rfl, ?_⟩) (by assumption) ?_
                rotate_left
                · (intro w hSw; (try dsimp only at hSw); go_simp) <;> with_reducible rfl
                simp only [Act.put, List.setIfInBounds_toArray, List.set_cons_zero, List.set_cons_succ]
                refine heldTake (i := 38) (v := ?_) rfl (by kernel_rfl) (by kernel_rfl) (by kernel_rfl) (fun _ _ _ h => h) (Or.inl ⟨by rfl, ?_⟩) (by assumption) ?_
                rotate_left
                · (intro w hSw; (try dsimp only at hSw); go_simp) <;> with_reducible rfl
                simp only [Act.put, List.setIfInBounds_toArray, List.set_cons_zero, List.set_cons_succ]
                refine heldOne (i := 35) (by kernel_rfl) rfl (fun K hK => ?_)
                go_simp
                go_at_call 28
                refine (HI.out.c28 hk _ _).mono ?_
                rintro e w2 ⟨rfl, hk⟩
                go_wp2_with fail
                refine hK.out _ _ (HS.out _ hk) (fun hHeld => ?_)
                clear hK K
                try simp only [Act.put, List.setIfInBounds_toArray, List.set_cons_zero, List.set_cons_succ]
                refine heldOne (i := 39) (by kernel_rfl) rfl (fun K hK => ?_)
                go_simp
                go_at_call 36
                refine (TI.c36 HL.out.2 HI.out.inv hk _ _).mono ?_
                rintro e w2 ⟨rfl, hk⟩
                go_wp2_with fail
                refine hK.out _ _ (HS.out _ hk) (fun hHeld => ?_)
                clear hK K
                try simp only [Act.put, List.setIfInBounds_toArray, List.set_cons_zero, List.set_cons_succ]
                refine heldTake (i := 40) (v := ?_) rfl (by kernel_rfl) (by kernel_rfl) (by kernel_rfl) (fun _ _ _ h => h) (Or.inl ⟨by rfl, ?_⟩) (by assumption) ?_
                rotate_left
                · (intro w hSw; (try dsimp only at hSw); go_simp) <;> with_reducible rfl
                simp only [Act.put, List.setIfInBounds_toArray, List.set_cons_zero, List.set_cons_succ]
                refine heldTake (i := 41) (v := ?_) rfl (by kernel_rfl) (by kernel_rfl) (by kernel_rfl) (fun _ _ _ h => h) (Or.inl ⟨by rfl, ?_⟩) (by assumption) ?_
                rotate_left
                · (intro w hSw; (try dsimp only at hSw); go_simp) <;> with_reducible rfl
                simp only [Act.put, List.setIfInBounds_toArray, List.set_cons_zero, List.set_cons_succ]
                refine wpAnyH_done (by kernel_rfl) ?_ _
                -- E30
                go_wp2_with fail
                go_roundw
                case rel => exact ⟨q + 1, by omega, by go_num, HI.out.no hk⟩
                case measure => simp [intOf]; omega
              · obtain rfl : q = 6 := by omega
                go_wp2_with fail
                go_roundw
                case rel => exact ⟨c + 1, by omega, by go_num, hI⟩
                case measure => simp [intOf]; omega
          · obtain rfl : c = 4 := by omega
            rename World => wc
            obtain ⟨L, hL⟩ : ∃ L, L = (rcells T).toList := ⟨_, rfl⟩
            have hS : ∀ w', Keeps noB wc w' → w'.cell? ⟨bq, 1, none⟩ = some (.int .i64 z1) ∧ w'.cell? ⟨bq, 2, none⟩ = some (.int .i64 z2) ∧ w'.cell? ⟨bq, 3, none⟩ = some (.int .i64 z3) := fun w' hk => by
              have h1 := hk.blk hI.qq (noB_not _)
              exact ⟨blk_cell h1 (i := 1) rfl, blk_cell h1 (i := 2) rfl, blk_cell h1 (i := 3) rfl⟩
            have hS2 : ∀ w', Keeps noB wc w' → w'.cell? ⟨bq, 1, none⟩ = some (.int .i64 z1) ∧ w'.cell? ⟨bq, 2, none⟩ = some (.int .i64 z2) ∧ w'.cell? ⟨bq, 3, none⟩ = some (.int .i64 z3) ∧ w'.rangeAt bw 0 L := fun w' hk => ⟨(hS w' hk).1, (hS w' hk).2.1, (hS w' hk).2.2, range_row (hI.rt.no hk) hL⟩
            have hlen : (Try.prog.info? 46).map (·.size) = some L.length := by rw [hL, Array.length_toList]; exact info46' T
            have hV : Value.agg L.toArray = .agg (rcells T) := by rw [hL]
            have HI := Lib.hid hI
            have HL := Lib.hid (And.intro hlen hV)
            have HS := Lib.hid hS
            have HS2 := Lib.hid hS2
            clear hI hL hS hS2 hlen hV
            have hk : Keeps noB wc wc.drew := (Keeps.refl _ _).drew
            go_upto_region 32 with fail
            -- R32
            refine wp_region_held_drew (S := fun w' => w'.cell? ⟨bq, 1, none⟩ = some (.int .i64 z1) ∧ w'.cell? ⟨bq, 2, none⟩ = some (.int .i64 z2) ∧ w'.cell? ⟨bq, 3, none⟩ = some (.int .i64 z3)) (by kernel_rfl) (HS.out _ hk) (fun hHeld => ?_)
            refine heldTake (i := 0) (v := ?_) rfl (by kernel_rfl) (by kernel_rfl) (by kernel_rfl) (fun _ _ _ h => h) (Or.inl ⟨by rfl, ?_⟩) (by assumption) ?_
            rotate_left
            · (intro w hSw; (try dsimp only at hSw); go_simp) <;> with_reducible rfl
            simp only [Act.put, List.setIfInBounds_toArray, List.set_cons_zero, List.set_cons_succ]
            refine heldTake (i := 1) (v := ?_) rfl (by kernel_rfl) (by kernel_rfl) (by kernel_rfl) (fun _ _ _ h => h) (Or.inl ⟨by rfl, ?_⟩) (by assumption) ?_
            rotate_left
            · (intro w hSw; (try dsimp only at hSw); go_simp) <;> with_reducible rfl
            simp only [Act.put, List.setIfInBounds_toArray, List.set_cons_zero, List.set_cons_succ]
            refine heldTake (i := 2) (v := ?_) rfl (by kernel_rfl) (by kernel_rfl) (by kernel_rfl) (fun _ _ _ h => h) (Or.inl ⟨by rfl, ?_⟩) (by assumption) ?_
            rotate_left
            · (intro w hSw; (try dsimp only at hSw); go_simp) <;> with_reducible rfl
            simp only [Act.put, List.setIfInBounds_toArray, List.set_cons_zero, List.set_cons_succ]
            refine heldTake (i := 3) (v := ?_) rfl (by kernel_rfl) (by kernel_rfl) (by kernel_rfl) (fun _ _ _ h => h) (Or.inl ⟨by rfl, ?_⟩) (by assumption) ?_
            rotate_left
            · (intro w hSw; (try dsimp only at hSw); go_simp) <;> with_reducible rfl
            simp only [Act.put, List.setIfInBounds_toArray, List.set_cons_zero, List.set_cons_succ]
            refine heldTake (i := 4) (v := ?_) rfl (by kernel_rfl) (by kernel_rfl) (by kernel_rfl) (fun _ _ _ h => h) (Or.inl ⟨by rfl, ?_⟩) (by assumption) ?_
            rotate_left
            · (intro w hSw; (try dsimp only at hSw); go_simp) <;> with_reducible rfl
            simp only [Act.put, List.setIfInBounds_toArray, List.set_cons_zero, List.set_cons_succ]
            refine heldTake (i := 5) (v := ?_) rfl (by kernel_rfl) (by kernel_rfl) (by kernel_rfl) (fun _ _ _ h => h) (Or.inl ⟨by rfl, ?_⟩) (by assumption) ?_
            rotate_left
            · (intro w hSw; (try dsimp only at hSw); go_simp) <;> with_reducible rfl
            simp only [Act.put, List.setIfInBounds_toArray, List.set_cons_zero, List.set_cons_succ]
            refine heldTake (i := 6) (v := ?_) rfl (by kernel_rfl) (by kernel_rfl) (by kernel_rfl) (fun _ _ _ h => h) (Or.inl ⟨by rfl, ?_⟩) (by assumption) ?_
            rotate_left
            · (intro w hSw; (try dsimp only at hSw); go_simp) <;> with_reducible rfl
            simp only [Act.put, List.setIfInBounds_toArray, List.set_cons_zero, List.set_cons_succ]
            refine heldTake (i := 8) (v := ?_) rfl (by kernel_rfl) (by kernel_rfl) (by kernel_rfl) (fun _ _ _ h => h) (Or.inl ⟨by rfl, ?_⟩) (by assumption) ?_
            rotate_left
            · (intro w hSw; (try dsimp only at hSw); go_simp) <;> with_reducible rfl
            simp only [Act.put, List.setIfInBounds_toArray, List.set_cons_zero, List.set_cons_succ]
            refine heldTake (i := 9) (v := ?_) rfl (by kernel_rfl) (by kernel_rfl) (by kernel_rfl) (fun _ _ _ h => h) (Or.inl ⟨by rfl, ?_⟩) (by assumption) ?_
            rotate_left
            · (intro w hSw; (try dsimp only at hSw); go_simp) <;> with_reducible rfl
            simp only [Act.put, List.setIfInBounds_toArray, List.set_cons_zero, List.set_cons_succ]
            refine heldTake (i := 10) (v := ?_) rfl (by kernel_rfl) (by kernel_rfl) (by kernel_rfl) (fun _ _ _ h => h) (Or.inl ⟨by rfl, ?_⟩) (by assumption) ?_
            rotate_left
            · (intro w hSw; (try dsimp only at hSw); go_simp) <;> with_reducible rfl
            simp only [Act.put, List.setIfInBounds_toArray, List.set_cons_zero, List.set_cons_succ]
            refine heldTake (i := 11) (v := ?_) rfl (by kernel_rfl) (by kernel_rfl) (by kernel_rfl) (fun _ _ _ h => h) (Or.inl ⟨by rfl, ?_⟩) (by assumption) ?_
            rotate_left
            · (intro w hSw; (try dsimp only at hSw); go_simp) <;> with_reducible rfl
            simp only [Act.put, List.setIfInBounds_toArray, List.set_cons_zero, List.set_cons_succ]
            refine heldTake (i := 12) (v := ?_) rfl (by kernel_rfl) (by kernel_rfl) (by kernel_rfl) (fun _ _ _ h => h) (Or.inl ⟨by rfl, ?_⟩) (by assumption) ?_
            rotate_left
            · (intro w hSw; (try dsimp only at hSw); go_simp) <;> with_reducible rfl
            simp only [Act.put, List.setIfInBounds_toArray, List.set_cons_zero, List.set_cons_succ]
            refine heldTake (i := 13) (v := ?_) rfl (by kernel_rfl) (by kernel_rfl) (by kernel_rfl) (fun _ _ _ h => h) (Or.inl ⟨by rfl, ?_⟩) (by assumption) ?_
            rotate_left
            · (intro w hSw; (try dsimp only at hSw); go_simp) <;> with_reducible rfl
            simp only [Act.put, List.setIfInBounds_toArray, List.set_cons_zero, List.set_cons_succ]
            refine heldTake (i := 14) (v := ?_) rfl (by kernel_rfl) (by kernel_rfl) (by kernel_rfl) (fun _ _ _ h => h) (Or.inl ⟨by rfl, ?_⟩) (by assumption) ?_
            rotate_left
            · (intro w hSw; (try dsimp only at hSw); go_simp) <;> with_reducible rfl
            simp only [Act.put, List.setIfInBounds_toArray, List.set_cons_zero, List.set_cons_succ]
            refine heldOne (i := 7) (by kernel_rfl) rfl (fun K hK => ?_)
            go_simp
            go_at_call 29
            refine (HI.out.c29 hk _ _ _ _).mono ?_
            rintro e w2 ⟨ah, nh, rfl, hk, hk1, hA⟩
            go_wp2_with fail
            refine hK.out _ _ (HS.out _ hk) (fun hHeld => ?_)
            clear hK K
            try simp only [Act.put, List.setIfInBounds_toArray, List.set_cons_zero, List.set_cons_succ]
            refine heldOne (i := 15) (by kernel_rfl) rfl (fun K hK => ?_)
            go_simp
            go_at_call 29
            refine (HI.out.c29 hk _ _ _ _).mono ?_
            rintro e w3 ⟨bh, mh, rfl, hk, hk2, hB⟩
            go_wp2_with fail
            refine hK.out _ _ (HS.out _ hk) (fun hHeld => ?_)
            clear hK K
            try simp only [Act.put, List.setIfInBounds_toArray, List.set_cons_zero, List.set_cons_succ]
            refine heldTake (i := 16) (v := ?_) rfl (by kernel_rfl) (by kernel_rfl) (by kernel_rfl) (fun _ _ _ h => h) (Or.inl ⟨by rfl, ?_⟩) (by assumption) ?_
            rotate_left
            · (intro w hSw; (try dsimp only at hSw); go_simp) <;> with_reducible rfl
            simp only [Act.put, List.setIfInBounds_toArray, List.set_cons_zero, List.set_cons_succ]
            refine heldTake (i := 17) (v := ?_) rfl (by kernel_rfl) (by kernel_rfl) (by kernel_rfl) (fun _ _ _ h => h) (Or.inl ⟨by rfl, ?_⟩) (by assumption) ?_
            rotate_left
            · (intro w hSw; (try dsimp only at hSw); go_simp) <;> with_reducible rfl
            simp only [Act.put, List.setIfInBounds_toArray, List.set_cons_zero, List.set_cons_succ]
            refine wpAnyH_done (by kernel_rfl) ?_ _
            -- E32
            have hA3 := hA.no hk2
            have hk33 : Keeps noB w3 w3.drew := (Keeps.refl _ _).drew
            have hfA := holders_few T z1 z2 z3 true
            have hfB := holders_few T z1 z2 z3 false
            obtain ⟨HA, hHA⟩ : ∃ l, l = T.holders z1 z2 z3 true := ⟨_, rfl⟩
            obtain ⟨HBb, hHB⟩ : ∃ l, l = T.holders z1 z2 z3 false := ⟨_, rfl⟩
            rw [← hHA] at hA3 hfA
            rw [← hHB] at hB hfB
            have hC37a : ∀ (w' : World) (ch : Option Addr) (lh : Nat), Keeps noB w3 w' → NumR w' (.slice ch HA.length lh) HA → Calls Try.prog 37 #[.slice ah HA.length nh, .slice ch HA.length lh] w' fun e w2 => e = .returned (.bool true) ∧ Keeps noB w3 w2 := fun w' ch lh hk hC =>
              (sameN_true (hA3.no hk) hC (by omega)).mono (by rintro e w2 ⟨he, hk2⟩; exact ⟨he, hk.trans_no hk2⟩)
            have hC37b : ∀ (w' : World) (ch : Option Addr) (lh : Nat), Keeps noB w3 w' → NumR w' (.slice ch HBb.length lh) HBb → Calls Try.prog 37 #[.slice bh HBb.length mh, .slice ch HBb.length lh] w' fun e w2 => e = .returned (.bool true) ∧ Keeps noB w3 w2 := fun w' ch lh hk hC =>
              (sameN_true (hB.no hk) hC (by omega)).mono (by rintro e w2 ⟨he, hk2⟩; exact ⟨he, hk.trans_no hk2⟩)
            have hI3 := HI.out.no hk
            have hC38a : ∀ (w' : World), Keeps noB w3 w' → Calls Try.prog 38 #[.agg L.toArray, .int .i64 z1, .int .i64 z2, .int .i64 z3, .bool true] w' fun e w2 => ∃ a n, e = .returned (.slice a HA.length n) ∧ Keeps noB w3 w2 ∧ NumR w2 (.slice a HA.length n) HA := fun w' hk => by rw [hHA]; exact TI.c38 HL.out.2 hk _ _ _ _
            have hC38b : ∀ (w' : World), Keeps noB w3 w' → Calls Try.prog 38 #[.agg L.toArray, .int .i64 z1, .int .i64 z2, .int .i64 z3, .bool false] w' fun e w2 => ∃ a n, e = .returned (.slice a HBb.length n) ∧ Keeps noB w3 w2 ∧ NumR w2 (.slice a HBb.length n) HBb := fun w' hk => by rw [hHB]; exact TI.c38 HL.out.2 hk _ _ _ _
            have hS3 : ∀ w', Keeps noB w3 w' → w'.cell? ⟨bq, 1, none⟩ = some (.int .i64 z1) ∧ w'.cell? ⟨bq, 2, none⟩ = some (.int .i64 z2) ∧ w'.cell? ⟨bq, 3, none⟩ = some (.int .i64 z3) ∧ w'.rangeAt bw 0 L := fun w' hk' => HS2.out _ (hk.trans_no hk')
            have HX := Lib.hid (And.intro hC37a (And.intro hC37b (And.intro hC38a hC38b)))
            have HI3 := Lib.hid hI3
            have HS3 := Lib.hid hS3
            have hkf := HI.out.kp.trans_no hk
            have HKF := Lib.hid hkf
            simp only [← hHA, ← hHB]
            clear hA hA3 hB hk hk1 hk2 hfA hfB hHA hHB hC37a hC37b hC38a hC38b hI3 hS3 HS HS2 hkf
            have hk := hk33
            clear hk33
            go_upto_region 33 with fail
            -- R33
            refine wp_region_held_drew (S := fun w' => w'.cell? ⟨bq, 1, none⟩ = some (.int .i64 z1) ∧ w'.cell? ⟨bq, 2, none⟩ = some (.int .i64 z2) ∧ w'.cell? ⟨bq, 3, none⟩ = some (.int .i64 z3) ∧ w'.rangeAt bw 0 L) (by kernel_rfl) (HS3.out _ hk) (fun hHeld => ?_)
            refine heldTake (i := 0) (v := ?_) rfl (by kernel_rfl) (by kernel_rfl) (by kernel_rfl) (fun _ _ _ h => h) (Or.inl ⟨by rfl, ?_⟩) (by assumption) ?_
            rotate_left
            · (intro w hSw; (try dsimp only at hSw); go_simp) <;> with_reducible rfl
            simp only [Act.put, List.setIfInBounds_toArray, List.set_cons_zero, List.set_cons_succ]
            refine heldTake (i := 1) rfl (by kernel_rfl) (by kernel_rfl) (by kernel_rfl) (fun _ _ _ h => h) (yieldsIf_load_mid (by rfl) 46 _ rfl bw 0 rfl L _ (fun w h => h.2.2.2) Try.underlying46 rfl HL.out.1) (by assumption) ?_
            simp only [Act.put, List.setIfInBounds_toArray, List.set_cons_zero, List.set_cons_succ]
            refine heldTake (i := 2) (v := ?_) rfl (by kernel_rfl) (by kernel_rfl) (by kernel_rfl) (fun _ _ _ h => h) (Or.inl ⟨by rfl, ?_⟩) (by assumption) ?_
            rotate_left
            · (intro w hSw; (try dsimp only at hSw); go_simp) <;> with_reducible rfl
            simp only [Act.put, List.setIfInBounds_toArray, List.set_cons_zero, List.set_cons_succ]
            refine heldTake (i := 3) (v := ?_) rfl (by kernel_rfl) (by kernel_rfl) (by kernel_rfl) (fun _ _ _ h => h) (Or.inl ⟨by rfl, ?_⟩) (by assumption) ?_
            rotate_left
            · (intro w hSw; (try dsimp only at hSw); go_simp) <;> with_reducible rfl
            simp only [Act.put, List.setIfInBounds_toArray, List.set_cons_zero, List.set_cons_succ]
            refine heldTake (i := 4) (v := ?_) rfl (by kernel_rfl) (by kernel_rfl) (by kernel_rfl) (fun _ _ _ h => h) (Or.inl ⟨by rfl, ?_⟩) (by assumption) ?_
            rotate_left
            · (intro w hSw; (try dsimp only at hSw); go_simp) <;> with_reducible rfl
            simp only [Act.put, List.setIfInBounds_toArray, List.set_cons_zero, List.set_cons_succ]
            refine heldTake (i := 5) (v := ?_) rfl (by kernel_rfl) (by kernel_rfl) (by kernel_rfl) (fun _ _ _ h => h) (Or.inl ⟨by rfl, ?_⟩) (by assumption) ?_
            rotate_left
            · (intro w hSw; (try dsimp only at hSw); go_simp) <;> with_reducible rfl
            simp only [Act.put, List.setIfInBounds_toArray, List.set_cons_zero, List.set_cons_succ]
            refine heldTake (i := 6) (v := ?_) rfl (by kernel_rfl) (by kernel_rfl) (by kernel_rfl) (fun _ _ _ h => h) (Or.inl ⟨by rfl, ?_⟩) (by assumption) ?_
            rotate_left
            · (intro w hSw; (try dsimp only at hSw); go_simp) <;> with_reducible rfl
            simp only [Act.put, List.setIfInBounds_toArray, List.set_cons_zero, List.set_cons_succ]
            refine heldTake (i := 7) (v := ?_) rfl (by kernel_rfl) (by kernel_rfl) (by kernel_rfl) (fun _ _ _ h => h) (Or.inl ⟨by rfl, ?_⟩) (by assumption) ?_
            rotate_left
            · (intro w hSw; (try dsimp only at hSw); go_simp) <;> with_reducible rfl
            simp only [Act.put, List.setIfInBounds_toArray, List.set_cons_zero, List.set_cons_succ]
            refine heldOne (i := 8) (by kernel_rfl) rfl (fun K hK => ?_)
            go_simp
            go_at_call 38
            refine (HX.out.2.2.1 _ hk).mono ?_
            rintro e w5 ⟨ch, lh, rfl, hk, hC⟩
            go_wp2_with fail
            refine hK.out _ _ (HS3.out _ hk) (fun hHeld => ?_)
            clear hK K
            try simp only [Act.put, List.setIfInBounds_toArray, List.set_cons_zero, List.set_cons_succ]
            refine heldOne (i := 9) (by kernel_rfl) rfl (fun K hK => ?_)
            go_simp
            go_at_call 37
            refine (HX.out.1 _ _ _ hk hC).mono ?_
            rintro e w6 ⟨rfl, hk⟩
            go_wp2_with fail
            refine hK.out _ _ (HS3.out _ hk) (fun hHeld => ?_)
            clear hK K
            try simp only [Act.put, List.setIfInBounds_toArray, List.set_cons_zero, List.set_cons_succ]
            refine heldTake (i := 10) (v := ?_) rfl (by kernel_rfl) (by kernel_rfl) (by kernel_rfl) (fun _ _ _ h => h) (Or.inl ⟨by rfl, ?_⟩) (by assumption) ?_
            rotate_left
            · (intro w hSw; (try dsimp only at hSw); go_simp) <;> with_reducible rfl
            simp only [Act.put, List.setIfInBounds_toArray, List.set_cons_zero, List.set_cons_succ]
            refine heldTake (i := 11) (v := ?_) rfl (by kernel_rfl) (by kernel_rfl) (by kernel_rfl) (fun _ _ _ h => h) (Or.inl ⟨by rfl, ?_⟩) (by assumption) ?_
            rotate_left
            · (intro w hSw; (try dsimp only at hSw); go_simp) <;> with_reducible rfl
            simp only [Act.put, List.setIfInBounds_toArray, List.set_cons_zero, List.set_cons_succ]
            refine heldTake (i := 12) rfl (by kernel_rfl) (by kernel_rfl) (by kernel_rfl) (fun _ _ _ h => h) (yieldsIf_load_mid (by rfl) 46 _ rfl bw 0 rfl L _ (fun w h => h.2.2.2) Try.underlying46 rfl HL.out.1) (by assumption) ?_
            simp only [Act.put, List.setIfInBounds_toArray, List.set_cons_zero, List.set_cons_succ]
            refine heldTake (i := 13) (v := ?_) rfl (by kernel_rfl) (by kernel_rfl) (by kernel_rfl) (fun _ _ _ h => h) (Or.inl ⟨by rfl, ?_⟩) (by assumption) ?_
            rotate_left
            · (intro w hSw; (try dsimp only at hSw); go_simp) <;> with_reducible rfl
            simp only [Act.put, List.setIfInBounds_toArray, List.set_cons_zero, List.set_cons_succ]
            refine heldTake (i := 14) (v := ?_) rfl (by kernel_rfl) (by kernel_rfl) (by kernel_rfl) (fun _ _ _ h => h) (Or.inl ⟨by rfl, ?_⟩) (by assumption) ?_
            rotate_left
            · (intro w hSw; (try dsimp only at hSw); go_simp) <;> with_reducible rfl
            simp only [Act.put, List.setIfInBounds_toArray, List.set_cons_zero, List.set_cons_succ]
            refine heldTake (i := 15) (v := ?_) rfl (by kernel_rfl) (by kernel_rfl) (by kernel_rfl) (fun _ _ _ h => h) (Or.inl ⟨by rfl, ?_⟩) (by assumption) ?_
            rotate_left
            · (intro w hSw; (try dsimp only at hSw); go_simp) <;> with_reducible rfl
            simp only [Act.put, List.setIfInBounds_toArray, List.set_cons_zero, List.set_cons_succ]
            refine heldTake (i := 16) (v := ?_) rfl (by kernel_rfl) (by kernel_rfl) (by kernel_rfl) (fun _ _ _ h => h) (Or.inl ⟨by rfl, ?_⟩) (by assumption) ?_
            rotate_left
            · (intro w hSw; (try dsimp only at hSw); go_simp) <;> with_reducible rfl
            simp only [Act.put, List.setIfInBounds_toArray, List.set_cons_zero, List.set_cons_succ]
            refine heldTake (i := 17) (v := ?_) rfl (by kernel_rfl) (by kernel_rfl) (by kernel_rfl) (fun _ _ _ h => h) (Or.inl ⟨by rfl, ?_⟩) (by assumption) ?_
            rotate_left
            · (intro w hSw; (try dsimp only at hSw); go_simp) <;> with_reducible rfl
            simp only [Act.put, List.setIfInBounds_toArray, List.set_cons_zero, List.set_cons_succ]
            refine heldTake (i := 18) (v := ?_) rfl (by kernel_rfl) (by kernel_rfl) (by kernel_rfl) (fun _ _ _ h => h) (Or.inl ⟨by rfl, ?_⟩) (by assumption) ?_
            rotate_left
            · (intro w hSw; (try dsimp only at hSw); go_simp) <;> with_reducible rfl
            simp only [Act.put, List.setIfInBounds_toArray, List.set_cons_zero, List.set_cons_succ]
            refine heldOne (i := 19) (by kernel_rfl) rfl (fun K hK => ?_)
            go_simp
            go_at_call 38
            refine (HX.out.2.2.2 _ hk).mono ?_
            rintro e w5 ⟨ch, lh, rfl, hk, hC⟩
            go_wp2_with fail
            refine hK.out _ _ (HS3.out _ hk) (fun hHeld => ?_)
            clear hK K
            try simp only [Act.put, List.setIfInBounds_toArray, List.set_cons_zero, List.set_cons_succ]
            refine heldOne (i := 20) (by kernel_rfl) rfl (fun K hK => ?_)
            go_simp
            go_at_call 37
            refine (HX.out.2.1 _ _ _ hk hC).mono ?_
            rintro e w6 ⟨rfl, hk⟩
            go_wp2_with fail
            refine hK.out _ _ (HS3.out _ hk) (fun hHeld => ?_)
            clear hK K
            try simp only [Act.put, List.setIfInBounds_toArray, List.set_cons_zero, List.set_cons_succ]
            refine heldTake (i := 21) (v := ?_) rfl (by kernel_rfl) (by kernel_rfl) (by kernel_rfl) (fun _ _ _ h => h) (Or.inl ⟨by rfl, ?_⟩) (by assumption) ?_
            rotate_left
            · (intro w hSw; (try dsimp only at hSw); go_simp) <;> with_reducible rfl
            simp only [Act.put, List.setIfInBounds_toArray, List.set_cons_zero, List.set_cons_succ]
            refine heldTake (i := 22) (v := ?_) rfl (by kernel_rfl) (by kernel_rfl) (by kernel_rfl) (fun _ _ _ h => h) (Or.inl ⟨by rfl, ?_⟩) (by assumption) ?_
            rotate_left
            · (intro w hSw; (try dsimp only at hSw); go_simp) <;> with_reducible rfl
            simp only [Act.put, List.setIfInBounds_toArray, List.set_cons_zero, List.set_cons_succ]
            refine heldTake (i := 23) (v := ?_) rfl (by kernel_rfl) (by kernel_rfl) (by kernel_rfl) (fun _ _ _ h => h) (Or.inl ⟨by rfl, ?_⟩) (by assumption) ?_
            rotate_left
            · (intro w hSw; (try dsimp only at hSw); go_simp) <;> with_reducible rfl
            simp only [Act.put, List.setIfInBounds_toArray, List.set_cons_zero, List.set_cons_succ]
            refine heldTake (i := 24) (v := ?_) rfl (by kernel_rfl) (by kernel_rfl) (by kernel_rfl) (fun _ _ _ h => h) (Or.inl ⟨by rfl, ?_⟩) (by assumption) ?_
            rotate_left
            · (intro w hSw; (try dsimp only at hSw); go_simp) <;> with_reducible rfl
            simp only [Act.put, List.setIfInBounds_toArray, List.set_cons_zero, List.set_cons_succ]
            refine heldTake (i := 25) (v := ?_) rfl (by kernel_rfl) (by kernel_rfl) (by kernel_rfl) (fun _ _ _ h => h) (Or.inl ⟨by rfl, ?_⟩) (by assumption) ?_
            rotate_left
            · (intro w hSw; (try dsimp only at hSw); go_simp) <;> with_reducible rfl
            simp only [Act.put, List.setIfInBounds_toArray, List.set_cons_zero, List.set_cons_succ]
            refine heldTake (i := 26) (v := ?_) rfl (by kernel_rfl) (by kernel_rfl) (by kernel_rfl) (fun _ _ _ h => h) (Or.inl ⟨by rfl, ?_⟩) (by assumption) ?_
            rotate_left
            · (intro w hSw; (try dsimp only at hSw); go_simp) <;> with_reducible rfl
            simp only [Act.put, List.setIfInBounds_toArray, List.set_cons_zero, List.set_cons_succ]
            refine heldTake (i := 27) (v := ?_) rfl (by kernel_rfl) (by kernel_rfl) (by kernel_rfl) (fun _ _ _ h => h) (Or.inl ⟨by rfl, ?_⟩) (by assumption) ?_
            rotate_left
            · (intro w hSw; (try dsimp only at hSw); go_simp) <;> with_reducible rfl
            simp only [Act.put, List.setIfInBounds_toArray, List.set_cons_zero, List.set_cons_succ]
            refine heldTake (i := 29) rfl (by kernel_rfl) (by kernel_rfl) (by kernel_rfl) (fun _ _ _ h => h) (yieldsIf_load_mid (by rfl) 46 _ rfl bw 0 rfl L _ (fun w h => h.2.2.2) Try.underlying46 rfl HL.out.1) (by assumption) ?_
            simp only [Act.put, List.setIfInBounds_toArray, List.set_cons_zero, List.set_cons_succ]
            refine heldTake (i := 30) (v := ?_) rfl (by kernel_rfl) (by kernel_rfl) (by kernel_rfl) (fun _ _ _ h => h) (Or.inl ⟨by rfl, ?_⟩) (by assumption) ?_
            rotate_left
            · (intro w hSw; (try dsimp only at hSw); go_simp) <;> with_reducible rfl
            simp only [Act.put, List.setIfInBounds_toArray, List.set_cons_zero, List.set_cons_succ]
            refine heldTake (i := 31) (v := ?_) rfl (by kernel_rfl) (by kernel_rfl) (by kernel_rfl) (fun _ _ _ h => h) (Or.inl ⟨by rfl, ?_⟩) (by assumption) ?_
            rotate_left
            · (intro w hSw; (try dsimp only at hSw); go_simp) <;> with_reducible rfl
            simp only [Act.put, List.setIfInBounds_toArray, List.set_cons_zero, List.set_cons_succ]
            refine heldTake (i := 32) (v := ?_) rfl (by kernel_rfl) (by kernel_rfl) (by kernel_rfl) (fun _ _ _ h => h) (Or.inl ⟨by rfl, ?_⟩) (by assumption) ?_
            rotate_left
            · (intro w hSw; (try dsimp only at hSw); go_simp) <;> with_reducible rfl
            simp only [Act.put, List.setIfInBounds_toArray, List.set_cons_zero, List.set_cons_succ]
            refine heldTake (i := 33) (v := ?_) rfl (by kernel_rfl) (by kernel_rfl) (by kernel_rfl) (fun _ _ _ h => h) (Or.inl ⟨by rfl, ?_⟩) (by assumption) ?_
            rotate_left
            · (intro w hSw; (try dsimp only at hSw); go_simp) <;> with_reducible rfl
            simp only [Act.put, List.setIfInBounds_toArray, List.set_cons_zero, List.set_cons_succ]
            refine heldOne (i := 28) (by kernel_rfl) rfl (fun K hK => ?_)
            go_simp
            go_at_call 27
            refine (HI3.out.c27 hk _ _).mono ?_
            rintro e w2 ⟨rfl, hk⟩
            go_wp2_with fail
            refine hK.out _ _ (HS3.out _ hk) (fun hHeld => ?_)
            clear hK K
            try simp only [Act.put, List.setIfInBounds_toArray, List.set_cons_zero, List.set_cons_succ]
            refine heldOne (i := 34) (by kernel_rfl) rfl (fun K hK => ?_)
            go_simp
            go_at_call 35
            refine (TI.c35 HL.out.2 hk _ _).mono ?_
            rintro e w2 ⟨rfl, hk⟩
            go_wp2_with fail
            refine hK.out _ _ (HS3.out _ hk) (fun hHeld => ?_)
            clear hK K
            try simp only [Act.put, List.setIfInBounds_toArray, List.set_cons_zero, List.set_cons_succ]
            refine heldTake (i := 35) (v := ?_) rfl (by kernel_rfl) (by kernel_rfl) (by kernel_rfl) (fun _ _ _ h => h) (Or.inl ⟨by rfl, ?_⟩) (by assumption) ?_
            rotate_left
            · (intro w hSw; (try dsimp only at hSw); go_simp) <;> with_reducible rfl
            simp only [Act.put, List.setIfInBounds_toArray, List.set_cons_zero, List.set_cons_succ]
            refine heldTake (i := 36) (v := ?_) rfl (by kernel_rfl) (by kernel_rfl) (by kernel_rfl) (fun _ _ _ h => h) (Or.inl ⟨by rfl, ?_⟩) (by assumption) ?_
            rotate_left
            · (intro w hSw; (try dsimp only at hSw); go_simp) <;> with_reducible rfl
            simp only [Act.put, List.setIfInBounds_toArray, List.set_cons_zero, List.set_cons_succ]
            refine heldTake (i := 37) (v := ?_) rfl (by kernel_rfl) (by kernel_rfl) (by kernel_rfl) (fun _ _ _ h => h) (Or.inl ⟨by rfl, ?_⟩) (by assumption) ?_
            rotate_left
            · (intro w hSw; (try dsimp only at hSw); go_simp) <;> with_reducible rfl
            simp only [Act.put, List.setIfInBounds_toArray, List.set_cons_zero, List.set_cons_succ]
            refine heldTake (i := 38) (v := ?_) rfl (by kernel_rfl) (by kernel_rfl) (by kernel_rfl) (fun _ _ _ h => h) (Or.inl ⟨by rfl, ?_⟩) (by assumption) ?_
            rotate_left
            · (intro w hSw; (try dsimp only at hSw); go_simp) <;> with_reducible rfl
            simp only [Act.put, List.setIfInBounds_toArray, List.set_cons_zero, List.set_cons_succ]
            refine heldTake (i := 39) (v := ?_) rfl (by kernel_rfl) (by kernel_rfl) (by kernel_rfl) (fun _ _ _ h => h) (Or.inl ⟨by rfl, ?_⟩) (by assumption) ?_
            rotate_left
            · (intro w hSw; (try dsimp only at hSw); go_simp) <;> with_reducible rfl
            simp only [Act.put, List.setIfInBounds_toArray, List.set_cons_zero, List.set_cons_succ]
            refine heldTake (i := 40) (v := ?_) rfl (by kernel_rfl) (by kernel_rfl) (by kernel_rfl) (fun _ _ _ h => h) (Or.inl ⟨by rfl, ?_⟩) (by assumption) ?_
            rotate_left
            · (intro w hSw; (try dsimp only at hSw); go_simp) <;> with_reducible rfl
            simp only [Act.put, List.setIfInBounds_toArray, List.set_cons_zero, List.set_cons_succ]
            refine heldTake (i := 41) (v := ?_) rfl (by kernel_rfl) (by kernel_rfl) (by kernel_rfl) (fun _ _ _ h => h) (Or.inl ⟨by rfl, ?_⟩) (by assumption) ?_
            rotate_left
            · (intro w hSw; (try dsimp only at hSw); go_simp) <;> with_reducible rfl
            simp only [Act.put, List.setIfInBounds_toArray, List.set_cons_zero, List.set_cons_succ]
            refine heldTake (i := 42) (v := ?_) rfl (by kernel_rfl) (by kernel_rfl) (by kernel_rfl) (fun _ _ _ h => h) (Or.inl ⟨by rfl, ?_⟩) (by assumption) ?_
            rotate_left
            · (intro w hSw; (try dsimp only at hSw); go_simp) <;> with_reducible rfl
            simp only [Act.put, List.setIfInBounds_toArray, List.set_cons_zero, List.set_cons_succ]
            refine heldTake (i := 44) rfl (by kernel_rfl) (by kernel_rfl) (by kernel_rfl) (fun _ _ _ h => h) (yieldsIf_load_mid (by rfl) 46 _ rfl bw 0 rfl L _ (fun w h => h.2.2.2) Try.underlying46 rfl HL.out.1) (by assumption) ?_
            simp only [Act.put, List.setIfInBounds_toArray, List.set_cons_zero, List.set_cons_succ]
            refine heldTake (i := 45) (v := ?_) rfl (by kernel_rfl) (by kernel_rfl) (by kernel_rfl) (fun _ _ _ h => h) (Or.inl ⟨by rfl, ?_⟩) (by assumption) ?_
            rotate_left
            · (intro w hSw; (try dsimp only at hSw); go_simp) <;> with_reducible rfl
            simp only [Act.put, List.setIfInBounds_toArray, List.set_cons_zero, List.set_cons_succ]
            refine heldTake (i := 46) (v := ?_) rfl (by kernel_rfl) (by kernel_rfl) (by kernel_rfl) (fun _ _ _ h => h) (Or.inl ⟨by rfl, ?_⟩) (by assumption) ?_
            rotate_left
            · (intro w hSw; (try dsimp only at hSw); go_simp) <;> with_reducible rfl
            simp only [Act.put, List.setIfInBounds_toArray, List.set_cons_zero, List.set_cons_succ]
            refine heldTake (i := 47) (v := ?_) rfl (by kernel_rfl) (by kernel_rfl) (by kernel_rfl) (fun _ _ _ h => h) (Or.inl ⟨by rfl, ?_⟩) (by assumption) ?_
            rotate_left
            · (intro w hSw; (try dsimp only at hSw); go_simp) <;> with_reducible rfl
            simp only [Act.put, List.setIfInBounds_toArray, List.set_cons_zero, List.set_cons_succ]
            refine heldTake (i := 48) (v := ?_) rfl (by kernel_rfl) (by kernel_rfl) (by kernel_rfl) (fun _ _ _ h => h) (Or.inl ⟨by rfl, ?_⟩) (by assumption) ?_
            rotate_left
            · (intro w hSw; (try dsimp only at hSw); go_simp) <;> with_reducible rfl
            simp only [Act.put, List.setIfInBounds_toArray, List.set_cons_zero, List.set_cons_succ]
            refine heldOne (i := 43) (by kernel_rfl) rfl (fun K hK => ?_)
            go_simp
            go_at_call 28
            refine (HI3.out.c28 hk _ _).mono ?_
            rintro e w2 ⟨rfl, hk⟩
            go_wp2_with fail
            refine hK.out _ _ (HS3.out _ hk) (fun hHeld => ?_)
            clear hK K
            try simp only [Act.put, List.setIfInBounds_toArray, List.set_cons_zero, List.set_cons_succ]
            refine heldOne (i := 49) (by kernel_rfl) rfl (fun K hK => ?_)
            go_simp
            go_at_call 36
            refine (TI.c36 HL.out.2 HI3.out.inv hk _ _).mono ?_
            rintro e w2 ⟨rfl, hk⟩
            go_wp2_with fail
            refine hK.out _ _ (HS3.out _ hk) (fun hHeld => ?_)
            clear hK K
            try simp only [Act.put, List.setIfInBounds_toArray, List.set_cons_zero, List.set_cons_succ]
            refine heldTake (i := 50) (v := ?_) rfl (by kernel_rfl) (by kernel_rfl) (by kernel_rfl) (fun _ _ _ h => h) (Or.inl ⟨by rfl, ?_⟩) (by assumption) ?_
            rotate_left
            · (intro w hSw; (try dsimp only at hSw); go_simp) <;> with_reducible rfl
            simp only [Act.put, List.setIfInBounds_toArray, List.set_cons_zero, List.set_cons_succ]
            refine heldTake (i := 51) (v := ?_) rfl (by kernel_rfl) (by kernel_rfl) (by kernel_rfl) (fun _ _ _ h => h) (Or.inl ⟨by rfl, ?_⟩) (by assumption) ?_
            rotate_left
            · (intro w hSw; (try dsimp only at hSw); go_simp) <;> with_reducible rfl
            simp only [Act.put, List.setIfInBounds_toArray, List.set_cons_zero, List.set_cons_succ]
            refine heldTake (i := 52) (v := ?_) rfl (by kernel_rfl) (by kernel_rfl) (by kernel_rfl) (fun _ _ _ h => h) (Or.inl ⟨by rfl, ?_⟩) (by assumption) ?_
            rotate_left
            · (intro w hSw; (try dsimp only at hSw); go_simp) <;> with_reducible rfl
            simp only [Act.put, List.setIfInBounds_toArray, List.set_cons_zero, List.set_cons_succ]
            refine wpAnyH_done (by kernel_rfl) ?_ _
            -- E33
            go_wp2_with fail
            go_ret
            exact ⟨rfl, HKF.out.trans_no hk⟩
end Go.Proofs.Ytlpimkmkcfbddaa
