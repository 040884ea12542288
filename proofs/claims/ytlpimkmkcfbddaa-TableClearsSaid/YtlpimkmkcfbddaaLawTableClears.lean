/- TableClears: who is cleared has nothing, and is in nobody's way: the law answers true at every input. -/
import Derived.Test.YtlpimkmkcfbddaaTabAlive
import Derived.Test.YtlpimkmkcfbddaaTabMore
import Derived.Test.YtlpimkmkcfbddaaLawTableNames
import Derived.Test.YtlpimkmkcfbddaaLawTableAlone
import Derived.Test.YtlpimkmkcfbddaaRd
namespace Go.Proofs.Ytlpimkmkcfbddaa
open Go.RowKit

def z24 : Array Value := #[.int .i64 0, .int .i64 0, .int .i64 0, .int .i64 0, .int .i64 0, .int .i64 0, .int .i64 0, .int .i64 0, .int .i64 0, .int .i64 0, .int .i64 0, .int .i64 0, .int .i64 0, .int .i64 0, .int .i64 0, .int .i64 0, .int .i64 0, .int .i64 0, .int .i64 0, .int .i64 0, .int .i64 0, .int .i64 0, .int .i64 0, .int .i64 0]
theorem built40 : Try.prog.built 40 [] = some z24 := by kernel_rfl
theorem info40 : (Try.prog.info? 40).map (fun i => (i.zero, i.size)) = some (some (.agg z24), z24.size) := by kernel_rfl
theorem z24_one : z24.all (·.oneCell') = true := by kernel_rfl
theorem z24_eq (T : TB) : z24 = wcells T 0 := by kernel_rfl

set_option maxRecDepth 100000 in
set_option maxHeartbeats 4000000 in
theorem tableClears_no (a : Option Addr) (len cap : Nat) (cl ot : Int) (w : World) (hl : len ≤ 9223372036854775807) (hin : ¬ (len ≤ 60 ∧ 0 ≤ cl ∧ cl ≤ 3 ∧ 0 ≤ ot ∧ ot ≤ 3 ∧ cl ≠ ot)) :
    Calls Try.prog 6 #[.slice a len cap, .int .i64 cl, .int .i64 ot] w (RetK noB (.bool true) w) := by
  by_cases h1 : len ≤ 60
  · by_cases h2 : 0 ≤ cl
    · by_cases h3 : cl ≤ 3
      · by_cases h4 : 0 ≤ ot
        · by_cases h5 : ot ≤ 3
          · have h6 : cl = ot := by omega
            clear hin
            subst h6
            have hb : (cl == cl) = true := by simp
            go_enter Try.func6, Try.ntmps6
            go_wp2_with (go_at_call 20; refine (tableAlive_c _).mono ?_; rintro e w1 ⟨rfl, hk1⟩)
            all_goals go_ret
            all_goals exact ⟨rfl, hk1⟩
          · clear hin
            have h6 : 3 < ot := by omega
            have hd : decide (3 < ot) = true := decide_eq_true h6
            clear h5
            go_enter Try.func6, Try.ntmps6
            go_wp2_with (go_at_call 20; refine (tableAlive_c _).mono ?_; rintro e w1 ⟨rfl, hk1⟩)
            all_goals go_ret
            all_goals exact ⟨rfl, hk1⟩
        · clear hin
          go_enter Try.func6, Try.ntmps6
          go_wp2_with (go_at_call 20; refine (tableAlive_c _).mono ?_; rintro e w1 ⟨rfl, hk1⟩)
          all_goals go_ret
          all_goals exact ⟨rfl, hk1⟩
      · clear hin
        go_enter Try.func6, Try.ntmps6
        go_wp2_with (go_at_call 20; refine (tableAlive_c _).mono ?_; rintro e w1 ⟨rfl, hk1⟩)
        all_goals go_ret
        all_goals exact ⟨rfl, hk1⟩
    · clear hin
      go_enter Try.func6, Try.ntmps6
      go_wp2_with (go_at_call 20; refine (tableAlive_c _).mono ?_; rintro e w1 ⟨rfl, hk1⟩)
      all_goals go_ret
      all_goals exact ⟨rfl, hk1⟩
  · clear hin
    go_enter Try.func6, Try.ntmps6
    go_wp2_with (go_at_call 20; refine (tableAlive_c _).mono ?_; rintro e w1 ⟨rfl, hk1⟩)
    all_goals go_ret
    all_goals exact ⟨rfl, hk1⟩

set_option maxRecDepth 100000 in
set_option maxHeartbeats 4000000 in
theorem tableClears_w (a : Option Addr) (len cap : Nat) (g : Nat → Nat → Value) (cl ot : Int) (w : World) (hl : len ≤ maxLen) (hr : RdS w 5 a len g) (hq : ∀ k, k < len → Q5 (g k))
    (_hcl : -9223372036854775808 ≤ cl ∧ cl ≤ 9223372036854775807) (_hot : -9223372036854775808 ≤ ot ∧ ot ≤ 9223372036854775807) :
    Calls Try.prog 6 #[.slice a len cap, .int .i64 cl, .int .i64 ot] w (RetK noB (.bool true) w) := by
  unfold maxLen at hl
  by_cases hin : len ≤ 60 ∧ 0 ≤ cl ∧ cl ≤ 3 ∧ 0 ≤ ot ∧ ot ≤ 3 ∧ cl ≠ ot
  · obtain ⟨h60, hc0, hc3, ho0, ho3, hne⟩ := hin
    obtain ⟨c, rfl⟩ := Int.eq_ofNat_of_zero_le hc0
    obtain ⟨o, rfl⟩ := Int.eq_ofNat_of_zero_le ho0
    have hcB : ((c : Int) == (o : Int)) = false := by simp; omega
    go_enter Try.func6, Try.ntmps6
    go_wp2_with (first | (go_at_call 20; refine (tableAlive_c _).mono ?_; rintro e w1 ⟨rfl, hk1⟩) | (go_at_call 21; refine (new_c _).mono ?_; rintro e w2 ⟨rfl, hk2, ht2⟩))
    all_goals try go_prune
    go_loopw [46] (fun i wr => ∃ k : Nat, k ≤ len ∧ i = .int .i64 k ∧ Keeps noB w wr ∧ ∃ T : TB, T.Inv ∧ TabAt wr w1.heap.size T)
      (fun i _ => len - (intOf i).toNat)
    case atStart => exact ⟨0, by omega, rfl, hk1.trans_no hk2, TB.zero, TB.Inv.zero, ht2⟩
    case round =>
      obtain ⟨k, hk, rfl, hkp, T, hT, ht⟩ := hrel
      have hno : ∀ x, x < w.heap.size → oneB w1.heap.size x → noB x := fun x hx h => by unfold oneB at h; have := hk1.size; omega
      by_cases hlt : k < len
      · obtain ⟨b, off, rfl, hb, hc⟩ := (hr.keep hkp) k hlt
        obtain ⟨⟨n0, e0, l0, m0⟩, ⟨n1, e1, _⟩, ⟨n2, e2, _⟩, ⟨n3, e3, _⟩, ⟨n4, e4, _⟩⟩ := hq k hlt
        have c0 : wr.cell? ⟨b, off + k * 5, none⟩ = some (.int .i64 n0) := by rw [← e0]; exact hc 0 (by omega)
        have c1 : wr.cell? ⟨b, off + k * 5 + 1, none⟩ = some (.int .i64 n1) := by rw [← e1]; exact hc 1 (by omega)
        have c2 : wr.cell? ⟨b, off + k * 5 + 2, none⟩ = some (.int .i64 n2) := by rw [← e2]; exact hc 2 (by omega)
        have c3 : wr.cell? ⟨b, off + k * 5 + 3, none⟩ = some (.int .i64 n3) := by rw [← e3]; exact hc 3 (by omega)
        have c4 : wr.cell? ⟨b, off + k * 5 + 4, none⟩ = some (.int .i64 n4) := by rw [← e4]; exact hc 4 (by omega)
        clear e0 e1 e2 e3 e4 hc
        have hta := ht.keep ((Keeps.refl noB wr).alloc (.cells #[.int .i64 n0, .int .i64 n1, .int .i64 n2, .int .i64 n3, .int .i64 n4] 27)) (noB_not _)
        go_wp2_with (go_at_call 22; refine (grant_c _ _ _ _ _ _ _ hta).mono ?_; rintro e w3 ⟨⟨rfl, hk3⟩, ht3⟩)
        · go_roundw
          case rel => exact ⟨k + 1, by omega, by go_num, (hkp.alloc _).trans hk3 hno, _, hT.grant _ _ _ _, ht3⟩
          case measure => simp [intOf]; omega
        · go_roundw
          case rel => exact ⟨k + 1, by omega, by go_num, hkp.alloc _, _, hT, hta⟩
          case measure => simp [intOf]; omega
      · have hkl : k = len := by omega
        subst hkl
        clear hr hq
        have hbl := ht.lt
        obtain ⟨wo, rfl⟩ : ∃ wo : World, wo = wr := ⟨_, rfl⟩
        go_wp2_with (with_reducible refine wpList_var0 40 64 10 z24 rfl rfl rfl rfl rfl rfl rfl rfl rfl built40 info40 z24_one (by decide) (by simp) (by simp) ?_)
        go_loopw [65] (fun i wx => ∃ d : Nat, d ≤ 4 ∧ i = .int .i64 d ∧ Keeps noB w wx ∧ TabAt wx w1.heap.size T ∧ wx.heap[wo.heap.size]? = some (.cells (wcells T (d * 6)) 40 (0, 0)))
          (fun i _ => 4 - (intOf i).toNat)
        case atStart => exact ⟨0, by omega, rfl, hkp.alloc _, ht.keep ((Keeps.refl noB wo).alloc _) (noB_not _), by rw [heap_alloc_new, z24_eq T]⟩
        case round =>
          obtain ⟨d, hd, rfl, hkp2, ht2, hW⟩ := hrel
          by_cases hd4 : d < 4
          · have hdB : decide ((d : Int) < 4) = true := by simp; omega
            go_wp2_with fail
            go_loopw [68] (fun i wx => ∃ q : Nat, q ≤ 6 ∧ i = .int .i64 q ∧ Keeps noB w wx ∧ TabAt wx w1.heap.size T ∧ wx.heap[wo.heap.size]? = some (.cells (wcells T (d * 6 + q)) 40 (0, 0)))
              (fun i _ => 6 - (intOf i).toNat)
            case atStart => exact ⟨0, by omega, rfl, hkp2, ht2, hW⟩
            case round =>
              obtain ⟨q, hq6, rfl, hkp3, ht3, hW3⟩ := hrel
              by_cases hq7 : q < 6
              · have hcp := TB.copies_nat T hd4 hq7
                have hcell := blk_cell hW3 (i := d * 6 + q) (wcells_at T _ _ (by omega))
                have hfree := blk_free hW3 (d * 6 + q)
                have HW := Lib.hid hW3
                clear hW hW3
                go_wp2_with fail
                go_region_with (go_at_call 26; refine (copies_c _ _ _ _ _ (ht3.drewN 1)).mono ?_; rintro e w' ⟨rfl, rfl⟩)
                all_goals go_wp2_with fail
                all_goals
                  go_roundw
                  case rel =>
                    refine ⟨q + 1, by omega, by go_num, ?_, ?_, ?_⟩
                    · exact (hkp3.drewN 1).setCell _ _ (.inr hkp.size)
                    · exact ht3.keep (F := oneB wo.heap.size) (((Keeps.refl _ wr).drewN 1).set1 _ _) (fun h => by unfold oneB at h; omega)
                    · rw [← Nat.add_assoc, ← wcells_set T hd4 hq7]
                      exact heap_setCell_same (wr.drewN 1) wo.heap.size _ _ HW.out
                  case measure => simp [intOf]; omega
              · have : q = 6 := by omega
                subst this
                go_wp2_with fail
                go_roundw
                case rel => exact ⟨d + 1, by omega, by go_num, hkp3, ht3, by rw [Nat.add_mul]; exact hW3⟩
                case measure => simp [intOf]; omega
          · have : d = 4 := by omega
            subst this
            go_wp2_with fail
            refine (clear_c _ _ _ _ ht2).mono ?_
            rintro e w3 ⟨⟨rfl, hk3⟩, ht3⟩
            have hTc : T.clr c = T.clear c := by unfold TB.clr; rw [show inT (c : Int) 0 = true by unfold inT; simp; omega]; rfl
            have hTi : (T.clear c).Inv := by rw [← hTc]; exact hT.clr _
            rw [hTc] at ht3
            have hW3 : w3.heap[wo.heap.size]? = _ := hk3.blk hW (fun h => by unfold oneB at h; omega)
            have hkp3 : Keeps noB w w3 := hkp2.trans hk3 hno
            clear hTc hW hk3 hkp2 ht2
            go_wp2_with fail
            go_loopw [13] (fun i wx => ∃ p : Nat, p ≤ 6 ∧ i = .int .i64 p ∧ Keeps noB w wx ∧ wx.heap[wo.heap.size]? = some (.cells (wcells T 24) 40 (0, 0)) ∧
                ∃ T' : TB, T'.Inv ∧ TabAt wx w1.heap.size T' ∧ ∀ a q, p ≤ q → T'.co a q = (T.clear c).co a q ∧ T'.ow a q = (T.clear c).ow a q)
              (fun i _ => 6 - (intOf i).toNat)
            case atStart => exact ⟨0, by omega, rfl, hkp3, hW3, T.clear c, hTi, ht3, fun _ _ _ => ⟨rfl, rfl⟩⟩
            case round =>
              obtain ⟨p, hp, rfl, hkp4, hW4, T', hT', ht4, hag⟩ := hrel
              by_cases hp6 : p < 6
              · have hpB : decide ((p : Int) < 6) = true := by simp; omega
                go_wp2_with fail
                go_loopw [14] (fun i wx => ∃ e : Nat, e ≤ 4 ∧ i = .int .i64 e ∧ Keeps noB w wx ∧ wx.heap[wo.heap.size]? = some (.cells (wcells T 24) 40 (0, 0)) ∧ TabAt wx w1.heap.size T')
                  (fun i _ => 4 - (intOf i).toNat)
                case atStart => exact ⟨0, by omega, rfl, hkp4, hW4, ht4⟩
                case round =>
                  obtain ⟨e, he, rfl, hkp5, hW5, ht5⟩ := hrel
                  by_cases he4 : e < 4
                  · have hcp := TB.copies_nat T' he4 hp6
                    have how := TB.owns_nat T' he4 hp6
                    obtain ⟨hg1, hg2⟩ := hag e p (Nat.le_refl _)
                    have hcell := blk_cell hW5 (wcells_full T he4 hp6)
                    by_cases hec : e = c
                    · subst hec
                      have hz1 : T'.copies e p = 0#4 := by rw [hcp, hg1]; simp [TB.clear]
                      have hz2 : T'.owns e p = 0#4 := by rw [how, hg2]; simp [TB.clear]
                      have hb1 : ((e : Int) == (e : Int)) = true := by simp
                      have hb2 : ((e : Int) != (e : Int)) = false := by simp
                      have HW := Lib.hid hW5
                      clear hcp how hg1 hg2 hW5 hW4
                      go_wp2_with fail
                      go_quiet ((first | (go_at_call 26; exact quiet_ret (copies_c _ _ _ _ _ (ht5.drewN _))) | (go_at_call 25; exact quiet_ret (own_c _ _ _ _ _ (ht5.drewN _)))))
                      go_wp2_with fail
                      go_roundw
                      case rel => exact ⟨e + 1, by omega, by go_num, hkp5.drewN _, HW.out, ht5.drewN _⟩
                      case measure => simp [intOf]; omega
                    · have hz1 : T'.copies e p = T.co e p := by rw [hcp, hg1]; simp [TB.clear, hec]
                      have hb1 : ((e : Int) == (c : Int)) = false := by simp; omega
                      have hb2 : ((e : Int) != (c : Int)) = true := by simp; omega
                      have HW := Lib.hid hW5
                      clear hcp how hg1 hg2 hW5 hW4
                      go_wp2_with fail
                      go_quiet ((first | (go_at_call 26; exact quiet_ret (copies_c _ _ _ _ _ (ht5.drewN _))) | (go_at_call 25; exact quiet_ret (own_c _ _ _ _ _ (ht5.drewN _)))))
                      go_wp2_with fail
                      go_roundw
                      case rel => exact ⟨e + 1, by omega, by go_num, hkp5.drewN _, HW.out, ht5.drewN _⟩
                      case measure => simp [intOf]; omega
                  · have hag2 : ∀ a q, p + 1 ≤ q → T'.co a q = (T.clear c).co a q ∧ T'.ow a q = (T.clear c).ow a q := fun a q h => hag a q (by omega)
                    clear hag
                    go_wp2_with fail
                    go_loopw [15] (fun i wx => ∃ j : Nat, j ≤ 4 ∧ i = .int .i64 j ∧ Keeps noB w wx ∧ wx.heap[wo.heap.size]? = some (.cells (wcells T 24) 40 (0, 0)) ∧
                        ∃ S : TB, S.Inv ∧ TabAt wx w1.heap.size S ∧ ∀ a q, p + 1 ≤ q → S.co a q = (T.clear c).co a q ∧ S.ow a q = (T.clear c).ow a q)
                      (fun i _ => 4 - (intOf i).toNat)
                    case atStart => exact ⟨0, by omega, rfl, hkp5, hW5, T', hT', ht5, hag2⟩
                    case round =>
                      obtain ⟨j, hj, rfl, hkp6, hW6, S, hS, ht6, hag6⟩ := hrel
                      by_cases hj4 : j < 4
                      · have hmb := mv_bit hj4
                        have hsw := hkp6.size
                        have hlt6 := ht6.lt
                        have hwo6 := lt_of_blk hW6
                        go_wp2_with fail
                        refine (holders_c _ _ _ _ _ _ _ ht6).mono ?_
                        rintro e w4 ⟨v, ⟨rfl, hk4⟩, hown⟩
                        obtain ⟨ha, hc2, rfl⟩ := hown.slice
                        have ht7 := ht6.keep hk4 (noB_not _)
                        have hW7 := hk4.blk hW6 (noB_not _)
                        have hkp7 := hkp6.trans_no hk4
                        have ho4 : o < 4 := by omega
                        have hG := TB.okG_holders hS ho4 hp6 hj4
                        by_cases h0 : (S.holders o p j true).length = 0
                        · rw [decide_eq_true h0] at hG
                          have hb : (((S.holders o p j true).length : Int) == 0) = true := beq_iff_eq.2 (by omega)
                          clear h0
                          go_wp2_with fail
                          refine (grant_c _ _ _ _ _ _ _ ht7).mono ?_
                          rintro e w5 ⟨⟨rfl, hk5⟩, ht8⟩
                          have hW8 := hk5.blk hW7 (fun h => by unfold oneB at h; omega)
                          go_wp2_with fail
                          go_roundw
                          case rel => exact ⟨j + 1, by omega, by go_num, hkp7.trans hk5 hno, hW8, _, hS.grant _ _ _ _, ht8, fun a q h => by rw [(TB.grant_other S o p 0 (mv (bit4 j)) a q (.inr (by simp; omega))).1, (TB.grant_other S o p 0 (mv (bit4 j)) a q (.inr (by simp; omega))).2]; exact hag6 a q h⟩
                          case measure => simp [intOf]; omega
                        · rw [decide_eq_false h0] at hG
                          have hb : (((S.holders o p j true).length : Int) == 0) = false := beq_eq_false_iff_ne.2 (by omega)
                          clear h0
                          go_wp2_with fail
                          refine (grant_c _ _ _ _ _ _ _ ht7).mono ?_
                          rintro e w5 ⟨⟨rfl, hk5⟩, ht8⟩
                          have hW8 := hk5.blk hW7 (fun h => by unfold oneB at h; omega)
                          go_wp2_with fail
                          go_roundw
                          case rel => exact ⟨j + 1, by omega, by go_num, hkp7.trans hk5 hno, hW8, _, hS.grant _ _ _ _, ht8, fun a q h => by rw [(TB.grant_other S o p 0 (mv (bit4 j)) a q (.inr (by simp; omega))).1, (TB.grant_other S o p 0 (mv (bit4 j)) a q (.inr (by simp; omega))).2]; exact hag6 a q h⟩
                          case measure => simp [intOf]; omega
                      · go_wp2_with fail
                        go_roundw
                        case rel => exact ⟨p + 1, by omega, by go_num, hkp6, hW6, S, hS, ht6, hag6⟩
                        case measure => simp [intOf]; omega
              · have : p = 6 := by omega
                subst this
                go_wp2_with fail
                go_ret
                exact ⟨rfl, hkp4⟩
  · exact tableClears_no a len cap cl ot w hl hin
end Go.Proofs.Ytlpimkmkcfbddaa
