/- TableGives: what is free may be had as a copy, and owned just where nobody else holds it: the law answers true at every input. -/
import Derived.Test.YtlpimkmkcfbddaaTabAlive
import Derived.Test.YtlpimkmkcfbddaaTabGive
import Derived.Test.YtlpimkmkcfbddaaLawTableAlone
import Derived.Test.YtlpimkmkcfbddaaRd
namespace Go.Proofs.Ytlpimkmkcfbddaa
open Go.RowKit

def z4 : Array Value := #[.int .i64 0, .int .i64 0, .int .i64 0, .int .i64 0]
theorem built37 : Try.prog.built 37 [] = some z4 := by kernel_rfl
theorem info37 : (Try.prog.info? 37).map (fun i => (i.zero, i.size)) = some (some (.agg z4), z4.size) := by kernel_rfl
theorem z4_one : z4.all (·.oneCell') = true := by kernel_rfl
theorem z4_eq (T : TB) (p : Nat) : z4 = wcell4 T p 0 := by kernel_rfl

set_option maxRecDepth 100000 in
set_option maxHeartbeats 4000000 in
theorem tableGives_no (a : Option Addr) (len cap : Nat) (cl pg ob : Int) (w : World) (hl : len ≤ 9223372036854775807) (hin : ¬ (len ≤ 60 ∧ 0 ≤ cl ∧ cl ≤ 3 ∧ 0 ≤ pg ∧ pg ≤ 5 ∧ 0 ≤ ob ∧ ob ≤ 3)) :
    Calls Try.prog 5 #[.slice a len cap, .int .i64 cl, .agg #[.int .i64 pg, .int .i64 ob]] w (RetK noB (.bool true) w) := by
  have hk0 : ∀ w1, Keeps noB (w.alloc (.cells #[.int .i64 pg, .int .i64 ob] 36)) w1 → Keeps noB w w1 := fun w1 h => ((Keeps.refl noB w).alloc _).trans_no h
  by_cases h1 : len ≤ 60
  · by_cases h2 : 0 ≤ cl
    · by_cases h3 : cl ≤ 3
      · by_cases h4 : 0 ≤ pg
        · by_cases h5 : pg ≤ 5
          · by_cases h6 : 0 ≤ ob
            · have h7 : 3 < ob := by omega
              clear hin
              go_enter Try.func5, Try.ntmps5
              go_wp2_with (go_at_call 20; refine (tableAlive_c _).mono ?_; rintro e w1 ⟨rfl, hk1⟩; have c0 := hk1.blk (heap_alloc_new w (.cells #[.int .i64 pg, .int .i64 ob] 36)) (noB_not _); have d0 := blk_cell c0 (i := 0) rfl; have d1 := blk_cell c0 (i := 1) rfl)
              go_quiet (fail)
              go_wp2_with fail
              all_goals go_ret
              all_goals exact ⟨rfl, (hk0 _ hk1).drewN _⟩
            · clear hin
              go_enter Try.func5, Try.ntmps5
              go_wp2_with (go_at_call 20; refine (tableAlive_c _).mono ?_; rintro e w1 ⟨rfl, hk1⟩; have c0 := hk1.blk (heap_alloc_new w (.cells #[.int .i64 pg, .int .i64 ob] 36)) (noB_not _); have d0 := blk_cell c0 (i := 0) rfl; have d1 := blk_cell c0 (i := 1) rfl)
              go_quiet (fail)
              go_wp2_with fail
              all_goals go_ret
              all_goals exact ⟨rfl, (hk0 _ hk1).drewN _⟩
          · clear hin
            go_enter Try.func5, Try.ntmps5
            go_wp2_with (go_at_call 20; refine (tableAlive_c _).mono ?_; rintro e w1 ⟨rfl, hk1⟩; have c0 := hk1.blk (heap_alloc_new w (.cells #[.int .i64 pg, .int .i64 ob] 36)) (noB_not _); have d0 := blk_cell c0 (i := 0) rfl; have d1 := blk_cell c0 (i := 1) rfl)
            go_quiet (fail)
            go_wp2_with fail
            all_goals go_ret
            all_goals exact ⟨rfl, (hk0 _ hk1).drewN _⟩
        · clear hin
          go_enter Try.func5, Try.ntmps5
          go_wp2_with (go_at_call 20; refine (tableAlive_c _).mono ?_; rintro e w1 ⟨rfl, hk1⟩; have c0 := hk1.blk (heap_alloc_new w (.cells #[.int .i64 pg, .int .i64 ob] 36)) (noB_not _); have d0 := blk_cell c0 (i := 0) rfl; have d1 := blk_cell c0 (i := 1) rfl)
          go_quiet (fail)
          go_wp2_with fail
          all_goals go_ret
          all_goals exact ⟨rfl, (hk0 _ hk1).drewN _⟩
      · clear hin
        go_enter Try.func5, Try.ntmps5
        go_wp2_with (go_at_call 20; refine (tableAlive_c _).mono ?_; rintro e w1 ⟨rfl, hk1⟩; have c0 := hk1.blk (heap_alloc_new w (.cells #[.int .i64 pg, .int .i64 ob] 36)) (noB_not _); have d0 := blk_cell c0 (i := 0) rfl; have d1 := blk_cell c0 (i := 1) rfl)
        go_quiet (fail)
        go_wp2_with fail
        all_goals go_ret
        all_goals exact ⟨rfl, (hk0 _ hk1).drewN _⟩
    · clear hin
      go_enter Try.func5, Try.ntmps5
      go_wp2_with (go_at_call 20; refine (tableAlive_c _).mono ?_; rintro e w1 ⟨rfl, hk1⟩; have c0 := hk1.blk (heap_alloc_new w (.cells #[.int .i64 pg, .int .i64 ob] 36)) (noB_not _); have d0 := blk_cell c0 (i := 0) rfl; have d1 := blk_cell c0 (i := 1) rfl)
      go_quiet (fail)
      go_wp2_with fail
      all_goals go_ret
      all_goals exact ⟨rfl, (hk0 _ hk1).drewN _⟩
  · clear hin
    go_enter Try.func5, Try.ntmps5
    go_wp2_with (go_at_call 20; refine (tableAlive_c _).mono ?_; rintro e w1 ⟨rfl, hk1⟩; have c0 := hk1.blk (heap_alloc_new w (.cells #[.int .i64 pg, .int .i64 ob] 36)) (noB_not _); have d0 := blk_cell c0 (i := 0) rfl; have d1 := blk_cell c0 (i := 1) rfl)
    go_quiet (fail)
    go_wp2_with fail
    all_goals go_ret
    all_goals exact ⟨rfl, (hk0 _ hk1).drewN _⟩

set_option maxRecDepth 100000 in
set_option maxHeartbeats 8000000 in
theorem tableGives_w (a : Option Addr) (len cap : Nat) (g : Nat → Nat → Value) (cl : Int) (pv ov : Value) (w : World) (hl : len ≤ maxLen) (hr : RdS w 5 a len g) (hq : ∀ k, k < len → Q5 (g k))
    (_hcl : -9223372036854775808 ≤ cl ∧ cl ≤ 9223372036854775807) (hpv : IsI pv) (hov : IsI ov) :
    Calls Try.prog 5 #[.slice a len cap, .int .i64 cl, .agg #[pv, ov]] w (RetK noB (.bool true) w) := by
  unfold maxLen at hl
  obtain ⟨pg, rfl, _, _⟩ := hpv
  obtain ⟨ob, rfl, _, _⟩ := hov
  by_cases hin : len ≤ 60 ∧ 0 ≤ cl ∧ cl ≤ 3 ∧ 0 ≤ pg ∧ pg ≤ 5 ∧ 0 ≤ ob ∧ ob ≤ 3
  · obtain ⟨h60, hc0, hc3, hp0, hp5, ho0, ho3⟩ := hin
    obtain ⟨c, rfl⟩ := Int.eq_ofNat_of_zero_le hc0
    obtain ⟨p, rfl⟩ := Int.eq_ofNat_of_zero_le hp0
    obtain ⟨j, rfl⟩ := Int.eq_ofNat_of_zero_le ho0
    have hk0 : ∀ w1, Keeps noB (w.alloc (.cells #[.int .i64 (p : Int), .int .i64 (j : Int)] 36)) w1 → Keeps noB w w1 := fun w1 h => ((Keeps.refl noB w).alloc _).trans_no h
    go_enter Try.func5, Try.ntmps5
    go_wp2_with (go_at_call 20; refine (tableAlive_c _).mono ?_; rintro e w1 ⟨rfl, hk1⟩; have c0 := hk1.blk (heap_alloc_new w (.cells #[.int .i64 (p : Int), .int .i64 (j : Int)] 36)) (noB_not _); have d0 := blk_cell c0 (i := 0) rfl; have d1 := blk_cell c0 (i := 1) rfl)
    go_quiet (fail)
    have hkw := hk0 _ hk1
    clear c0 d0 d1 hk0 hk1
    go_wp2_with (go_at_call 21; refine (new_c _).mono ?_; rintro e w2 ⟨rfl, hk2, ht2⟩)
    all_goals try go_prune
    have hno : ∀ x, x < w.heap.size → oneB w1.heap.size x → noB x := fun x hx h => by unfold oneB at h; have := hkw.size; omega
    go_loopw [54] (fun i wr => ∃ k : Nat, k ≤ len ∧ i = .int .i64 k ∧ Keeps noB w wr ∧ ∃ T : TB, T.Inv ∧ TabAt wr w1.heap.size T)
      (fun i _ => len - (intOf i).toNat)
    case atStart => exact ⟨0, by omega, rfl, (hkw.drewN _).trans_no hk2, TB.zero, TB.Inv.zero, ht2⟩
    case round =>
      obtain ⟨k, hk, rfl, hkp, T, hT, ht⟩ := hrel
      by_cases hlt : k < len
      · obtain ⟨b, off, rfl, hb, hc⟩ := (hr.keep hkp) k hlt
        obtain ⟨⟨n0, e0, l0, m0⟩, ⟨n1, e1, _⟩, ⟨n2, e2, _⟩, ⟨n3, e3, _⟩, ⟨n4, e4, _⟩⟩ := hq k hlt
        have c0 : wr.cell? ⟨b, off + k * 5, none⟩ = some (.int .i64 n0) := by rw [← e0]; exact hc 0 (by omega)
        have c1 : wr.cell? ⟨b, off + k * 5 + 1, none⟩ = some (.int .i64 n1) := by rw [← e1]; exact hc 1 (by omega)
        have c2 : wr.cell? ⟨b, off + k * 5 + 2, none⟩ = some (.int .i64 n2) := by rw [← e2]; exact hc 2 (by omega)
        have c3 : wr.cell? ⟨b, off + k * 5 + 3, none⟩ = some (.int .i64 n3) := by rw [← e3]; exact hc 3 (by omega)
        have c4 : wr.cell? ⟨b, off + k * 5 + 4, none⟩ = some (.int .i64 n4) := by rw [← e4]; exact hc 4 (by omega)
        clear e0 e1 e2 e3 e4 hc
        have hta := ht.keep ((Keeps.refl noB wr).alloc (.cells #[.int .i64 n0, .int .i64 n1, .int .i64 n2, .int .i64 n3, .int .i64 n4] 27)) (noB_not _)
        go_wp2_with (go_at_call 22; refine (grant_c _ _ _ _ _ _ _ hta).mono ?_; rintro e w3 ⟨⟨rfl, hk3⟩, ht3⟩)
        · go_roundw
          case rel => exact ⟨k + 1, by omega, by go_num, (hkp.alloc _).trans hk3 hno, _, hT.grant _ _ _ _, ht3⟩
          case measure => simp [intOf]; omega
        · go_roundw
          case rel => exact ⟨k + 1, by omega, by go_num, hkp.alloc _, _, hT, hta⟩
          case measure => simp [intOf]; omega
      · clear hr hq
        have hbl := ht.lt
        obtain ⟨wo, rfl⟩ : ∃ wo : World, wo = wr := ⟨_, rfl⟩
        go_wp2_with (with_reducible refine wpList_var0 37 72 12 z4 rfl rfl rfl rfl rfl rfl rfl rfl rfl built37 info37 z4_one (by decide) (by simp) (by simp) ?_)
        go_loopw [73] (fun i wx => ∃ d : Nat, d ≤ 4 ∧ i = .int .i64 d ∧ Keeps noB w wx ∧ TabAt wx w1.heap.size T ∧ wx.heap[wo.heap.size]? = some (.cells (wcell4 T p d) 37 (0, 0)))
          (fun i _ => 4 - (intOf i).toNat)
        case atStart => exact ⟨0, by omega, rfl, hkp.alloc _, ht.keep ((Keeps.refl noB wo).alloc _) (noB_not _), by rw [heap_alloc_new, z4_eq T p]⟩
        case round =>
          obtain ⟨d, hd, rfl, hkp2, ht2', hW⟩ := hrel
          by_cases hd4 : d < 4
          · have hcp := TB.copies_nat T hd4 (show p < 6 by omega)
            have hcell := blk_cell hW (i := d) (wcell4_at T _ _ _ hd4)
            have hfree := blk_free hW d
            have HW := Lib.hid hW
            clear hW
            go_wp2_with (go_at_call 26; refine (copies_c _ _ _ _ _ ht2').mono ?_; rintro e w' ⟨rfl, rfl⟩)
            go_roundw
            case rel =>
              refine ⟨d + 1, by omega, by go_num, ?_, ?_, ?_⟩
              · exact hkp2.setCell _ _ (.inr hkp.size)
              · exact ht2'.keep (F := oneB wo.heap.size) ((Keeps.refl _ wr).set1 _ _) (fun h => by unfold oneB at h; omega)
              · rw [← wcell4_set T hd4]
                exact heap_setCell_same wr wo.heap.size _ _ HW.out
            case measure => simp [intOf]; omega
          · have hW4 : wr.heap[wo.heap.size]? = some (.cells (wcell4 T p 4) 37 (0, 0)) := by rw [hW, show d = 4 by omega]
            clear hW
            obtain ⟨wq, rfl⟩ : ∃ wq : World, wq = wr := ⟨_, rfl⟩
            have hc4' : c < 4 := by omega
            have hp6 : p < 6 := by omega
            have hj4 : j < 4 := by omega
            have hmb := mv_bit hj4
            have hLe := TB.holders_le T hc4' hp6 hj4
            go_wp2_with fail
            refine (holders_c _ _ _ _ _ _ _ ht2').mono ?_
            rintro e w3 ⟨v, ⟨rfl, hk3⟩, hown⟩
            obtain ⟨ha, hcc, rfl⟩ := hown.slice
            have ht3 := ht2'.keep hk3 (noB_not _)
            have hW3 := hk3.blk hW4 (noB_not _)
            have hkp3 := hkp2.trans_no hk3
            have hsz := hkp2.size
            have hwo := lt_of_blk hW4
            have hlt3 := ht2'.lt
            clear hW4 hk3 hkp2 ht2'
            go_wp2_with fail
            refine (free_c _ _ _ _ _ ht3).mono ?_
            rintro e w4 ⟨rfl, hk4⟩
            have ht4 := ht3.keep hk4 (noB_not _)
            have hok1 := TB.okG_free T hc4' hp6
            go_wp2_with fail
            refine (grant_c _ _ _ _ _ _ _ ht4).mono ?_
            rintro e w5 ⟨⟨rfl, hk5⟩, ht5⟩
            have hS1 := hT.grant c p (mv (T.free c p)) 0
            have hg1 : ∀ k, k ≠ c → (T.grant c p (mv (T.free c p)) 0).co k p = T.co k p := fun k hk => (TB.grant_other T c p (mv (T.free c p)) 0 k p (.inl (by simp; omega))).1
            have hok2 := TB.okG_holders hS1 hc4' hp6 hj4
            rw [TB.holders_congr T _ hc4' hp6 hj4 hg1] at hok2
            have hnT : ∀ k, wq.heap.size ≤ k → ¬ oneB w1.heap.size k := fun k hk h => by unfold oneB at h; omega
            have hnW : ¬ oneB w1.heap.size wo.heap.size := fun h => by unfold oneB at h; omega
            have hown5 := (hown.keep hk4 (fun k _ => noB_not k)).keep hk5 hnT
            have hW5 := hk5.blk (hk4.blk hW3 (noB_not _)) hnW
            have hkp5 := (hkp3.trans_no hk4).trans hk5 hno
            clear hown hW3 hkp3 ht4 hk5 hk4 ht3
            generalize hSg : T.grant c p (mv (T.free c p)) 0 = S1 at *
            have HSg := Lib.hid hSg
            clear hSg
            obtain ⟨z, hz⟩ : ∃ z, z = decide ((T.holders c p j true).length = 0) := ⟨_, rfl⟩
            rw [← hz] at hok2
            have hb : (((T.holders c p j true).length : Int) == 0) = z := by rw [hz, Bool.eq_iff_iff, beq_iff_eq, decide_eq_true_iff]; omega
            clear hz
            have hdB : decide ((d : Int) < 4) = false := by simp; omega
            have hjB : decide (3 < (j : Int)) = false := by simp; omega
            go_wp2_with fail
            refine (grant_c _ _ _ _ _ _ _ ht5).mono ?_
            rintro e w6 ⟨⟨rfl, hk6⟩, ht6⟩
            have hW6 := hk6.blk hW5 hnW
            have hown6 := hown5.keep hk6 hnT
            have hkp6 := hkp5.trans hk6 hno
            have hS2 := hS1.grant c p 0 (mv (bit4 j))
            have hg2 : ∀ k, k ≠ c → (S1.grant c p 0 (mv (bit4 j))).co k p = T.co k p := fun k hk => ((TB.grant_other S1 c p 0 (mv (bit4 j)) k p (.inl (by simp; omega))).1).trans (hg1 k hk)
            clear hW5 hown5 hkp5 ht5 hk6 hok1
            generalize hSg2 : S1.grant c p 0 (mv (bit4 j)) = S2 at *
            clear hSg2 hg1
            have HG2 := Lib.hid hg2
            clear hg2
            rw [hok2]
            go_wp2_with fail
            clear hok2
            go_loopw [109] (fun i wx => ∃ e : Nat, e ≤ 4 ∧ i = .int .i64 e ∧ Keeps noB w wx ∧ wx.heap[wo.heap.size]? = some (.cells (wcell4 T p 4) 37 (0, 0)) ∧ TabAt wx w1.heap.size S2 ∧ OwnI wx wq.heap.size (.slice ha (T.holders c p j true).length hcc) (T.holders c p j true))
              (fun i _ => 4 - (intOf i).toNat)
            case atStart => exact ⟨0, by omega, rfl, hkp6, hW6, ht6, hown6⟩
            case round =>
              obtain ⟨e, he, rfl, hkp7, hW7, ht7, hown7⟩ := hrel
              by_cases he4 : e < 4
              · have hcp := TB.copies_nat S2 he4 hp6
                have hcell := blk_cell hW7 (wcell4_full T he4)
                have HW := Lib.hid hW7
                clear hW7
                by_cases hec : e = c
                · subst hec
                  have hb1 : ((e : Int) != (e : Int)) = false := by simp
                  go_wp2_with fail
                  go_quiet ((first | (go_at_call 26; exact quiet_ret (copies_c _ _ _ _ _ (ht7.drewN _)))))
                  go_wp2_with fail
                  go_roundw
                  case rel => exact ⟨e + 1, by omega, by go_num, hkp7.drewN _, HW.out, ht7.drewN _, hown7⟩
                  case measure => simp [intOf]; omega
                · have hb1 : ((e : Int) != (c : Int)) = true := by simp; omega
                  rw [HG2.out e hec] at hcp
                  go_wp2_with fail
                  go_quiet ((first | (go_at_call 26; exact quiet_ret (copies_c _ _ _ _ _ (ht7.drewN _)))))
                  go_wp2_with fail
                  go_roundw
                  case rel => exact ⟨e + 1, by omega, by go_num, hkp7.drewN _, HW.out, ht7.drewN _, hown7⟩
                  case measure => simp [intOf]; omega
              · clear hW7 hown6 ht6 hW6 hkp6
                have hst := LeftD.start T S2 hc4' hp6 hj4 HG2.out
                go_wp2_with fail
                go_loopw [128] (fun i wx => ∃ n : Nat, n ≤ (T.holders c p j true).length ∧ i = .int .i64 n ∧ Keeps noB w wx ∧ OwnI wx wq.heap.size (.slice ha (T.holders c p j true).length hcc) (T.holders c p j true) ∧
                    ∃ S : TB, S.Inv ∧ TabAt wx w1.heap.size S ∧ LeftD S c p j (T.holders c p j true) n)
                  (fun i _ => (T.holders c p j true).length - (intOf i).toNat)
                case atStart => exact ⟨0, by omega, rfl, hkp7, hown7, S2, hS2, ht7, hst⟩
                case round =>
                  obtain ⟨n, hn, rfl, hkp8, hown8, S, hS, ht8, hlf⟩ := hrel
                  by_cases hnl : n < (T.holders c p j true).length
                  · obtain ⟨gg, rfl, hgg, hgl, hcell⟩ := hown8.cell hnl
                    have hmem : (T.holders c p j true).getD n 0 ∈ T.holders c p j true := by
                      rw [List.getD_eq_getElem?_getD, List.getElem?_eq_getElem hnl]
                      exact List.getElem_mem _
                    obtain ⟨kk, hkk, hkk4, hkkc, _⟩ := (TB.holders_mem T hc4' hp6 hj4 _).1 hmem
                    have hstep := hlf.step hkk4 hp6 hj4 hnl hkk
                    rw [hkk] at hcell
                    clear hmem hkk
                    go_wp2_with fail
                    refine (drop_c _ _ _ _ _ _ _ ht8).mono ?_
                    rintro e w9 ⟨⟨rfl, hk9⟩, ht9⟩
                    go_wp2_with fail
                    go_roundw
                    case rel => exact ⟨n + 1, by omega, by go_num, hkp8.trans hk9 hno, hown8.keep hk9 hnT, _, hS.drop _ _ _ _, ht9, hstep⟩
                    case measure => simp [intOf]; omega
                  · have hnn : n = (T.holders c p j true).length := by omega
                    rw [hnn] at hlf
                    have hoc := hlf.done
                    have hok := TB.okG_bit hS hc4' hp6 hj4
                    rw [hoc] at hok
                    simp only [Bool.not_false] at hok
                    have hob := TB.own_bit S hc4' hp6 hj4 hok
                    have hbt := bitB_mv ((S.grant c p 0 (mv (bit4 j))).owns c p) j hj4
                    rw [hob, hmb] at hbt
                    have hhl : (S.grant c p 0 (mv (bit4 j))).holders c p j true = [] := by
                      apply List.length_eq_zero_iff.1
                      rw [TB.holders_congr S _ hc4' hp6 hj4 (fun k hk => (TB.grant_other S c p 0 (mv (bit4 j)) k p (.inl (by simp; omega))).1)]
                      exact (TB.holders_nil S hc4' hp6 hj4).2 hoc
                    clear hnn hlf hoc hob
                    go_wp2_with fail
                    refine (grant_c _ _ _ _ _ _ _ ht8).mono ?_
                    rintro e w9 ⟨⟨rfl, hk9⟩, ht9⟩
                    rw [hok]
                    go_wp2_with fail
                    refine (own_c _ _ _ _ _ ht9).mono ?_
                    rintro e w9' ⟨rfl, rfl⟩
                    go_wp2_with fail
                    refine (holders_c _ _ _ _ _ _ _ ht9).mono ?_
                    rintro e w10 ⟨v, ⟨rfl, hk10⟩, hown10⟩
                    rw [hhl] at hown10
                    obtain ⟨ha', hcc', rfl⟩ := hown10.slice
                    go_wp2_with fail
                    go_ret
                    exact ⟨rfl, (hkp8.trans hk9 hno).trans_no hk10⟩
  · exact tableGives_no a len cap cl pg ob w hl hin
end Go.Proofs.Ytlpimkmkcfbddaa
