/- The document's table: who else has an object; what is free; who is alone. No condition. -/
import Derived.Test.YtlpimkmkcfbddaaTr
import Derived.Test.YtlpimkmkcfbddaaQueE
namespace Go.Proofs.Ytlpimkmkcfbddaa
open Go.RowKit

set_option maxRecDepth 100000 in
set_option maxHeartbeats 4000000 in
theorem holders_r (c p j : Int) (wb : Bool) (T : TB) (w : World) : Calls Try.prog 38 #[.agg (rcells T), .int .i64 c, .int .i64 p, .int .i64 j, .bool wb] w
    fun e w' => ∃ v, RetK noB v w e w' ∧ OwnI w' w.heap.size v (T.holders c p j wb) := by
  have hk0 : Keeps noB w ((w.alloc (.cells (rcells T) 46)).alloc (.cells #[] 3)) := ((Keeps.refl _ _).alloc _).alloc _
  have hs0 : (w.alloc (.cells (rcells T) 46)).heap.size = w.heap.size + 1 := alloc_size _ _
  have hA : RtAt ((w.alloc (.cells (rcells T) 46)).alloc (.cells #[] 3)) w.heap.size T := ((Keeps.refl noB _).alloc _).blk (heap_alloc_new w (.cells (rcells T) 46)) (noB_not _)
  have ho : ((w.alloc (.cells (rcells T) 46)).alloc (.cells #[] 3)).ownsRow (w.heap.size + 1) 3 1 (.slice (some ⟨w.heap.size + 1, 0, none⟩) 0 0) 0 [] :=
    ⟨rfl, .inr ⟨_, _, _, rfl, Nat.le_refl _, by rw [← hs0]; exact heap_alloc_new _ _, Nat.le_refl _, by unfold maxLen; omega, rfl, rfl⟩⟩
  have H0 := Lib.hid (And.intro hk0 (And.intro hA ho))
  clear hk0 hA ho hs0
  cases h : inT c p
  · have hg : T.holders c p j wb = [] := by unfold TB.holders; rw [h]; rfl
    rw [hg]; clear hg
    go_enter Try.func38, Try.ntmps38
    go_wp2_with (first | (go_at_call 81; refine (in_r _ _ _).mono ?_; rintro e w' ⟨rfl, rfl⟩; try rw [h]))
    go_ret
    exact ⟨_, ⟨rfl, H0.out.1⟩, own_lower H0.out.2.2 (by omega)⟩
  · cases h2 : inO j
    · have hg : T.holders c p j wb = [] := by unfold TB.holders; rw [h, h2]; rfl
      rw [hg]; clear hg
      have h2' : j < 0 ∨ 3 < j := by unfold inO at h2; simp at h2; omega
      rcases h2' with h3 | h3
      · have d0 : decide (j < 0) = true := decide_eq_true h3
        go_enter Try.func38, Try.ntmps38
        go_wp2_with (first | (go_at_call 81; refine (in_r _ _ _).mono ?_; rintro e w' ⟨rfl, rfl⟩; try rw [h]))
        go_ret
        exact ⟨_, ⟨rfl, H0.out.1⟩, own_lower H0.out.2.2 (by omega)⟩
      · have d0 : decide (j < 0) = false := decide_eq_false (by omega)
        have d1 : decide (j > 3) = true := decide_eq_true h3
        go_enter Try.func38, Try.ntmps38
        go_wp2_with (first | (go_at_call 81; refine (in_r _ _ _).mono ?_; rintro e w' ⟨rfl, rfl⟩; try rw [h]))
        go_ret
        exact ⟨_, ⟨rfl, H0.out.1⟩, own_lower H0.out.2.2 (by omega)⟩
    · obtain ⟨a, q, rfl, rfl, ha, hq⟩ := inT_open h
      obtain ⟨o, rfl, ho⟩ := inO_open h2
      have hg : T.holders a q o wb = T.holdN a q o wb 4 := by unfold TB.holders; rw [h, h2]; rfl
      rw [hg]; clear hg
      obtain ⟨i0, hi, hz0, hz1, hz2⟩ := info_parts info3
      have d0 : decide ((o : Int) < 0) = false := decide_eq_false (by omega)
      have d1 : decide ((o : Int) > 3) = false := decide_eq_false (by omega)
      go_enter Try.func38, Try.ntmps38
      go_wp2_with (first | (go_at_call 81; refine (in_r _ _ _).mono ?_; rintro e w' ⟨rfl, rfl⟩; try rw [h]))
      go_loopw [11, 12] (fun v i wd => ∃ k : Nat, k ≤ 4 ∧ i = .int .i64 k ∧ Keeps noB w wd ∧ RtAt wd w.heap.size T ∧ OwnI wd (w.heap.size + 1) v (T.holdN a q o wb k))
        (fun _ i _ => 4 - (intOf i).toNat)
      case atStart => exact ⟨0, by omega, rfl, H0.out.1, H0.out.2.1, H0.out.2.2⟩
      case round =>
        obtain ⟨k, hk, rfl, hkp, hR, hown⟩ := hrel
        by_cases hlt4 : k < 4
        · have hle := holdN_le T a q o wb k
          have hc0 := hR.co hlt4 hq ho
          have hc1 := hR.ow hlt4 hq ho
          have HR := Lib.hid (And.intro hR (And.intro hown hkp))
          clear hR
          by_cases hka : k = a
          · subst hka
            have hh : T.holdN k q o wb (k + 1) = T.holdN k q o wb k := by simp [TB.holdN]
            have HH := Lib.hid hh
            clear hh hc0 hc1 hown
            have hb0 : ((k : Int) != (k : Int)) = false := by simp
            cases wb
            all_goals
              go_wp2_with fail
              all_goals first
                | exact ⟨⟨k + 1, by omega, by go_num, HR.out.2.2, HR.out.1, by unfold OwnI; rw [HH.out]; exact HR.out.2.1⟩, by simp [intOf]; omega⟩
                | (go_roundw
                   case rel => exact ⟨k + 1, by omega, by go_num, HR.out.2.2, HR.out.1, by unfold OwnI; rw [HH.out]; exact HR.out.2.1⟩
                   case measure => simp [intOf]; omega)
          · have hb0 : ((k : Int) != (a : Int)) = true := by simp; omega
            by_cases hit : (if wb then T.co k q else T.ow k q).getLsbD o = true
            · have hh : T.holdN a q o wb (k + 1) = T.holdN a q o wb k ++ [(k : Int)] := by rw [TB.holdN, if_pos ⟨hka, hit⟩]
              have HH := Lib.hid hh
              clear hh
              cases wb
              all_goals
                simp only [Bool.false_eq_true, if_false, if_true] at hit
                first
                  | (have hb : bt (T.ow k q) o = true := hit
                     rw [hb] at hc1
                     clear hb)
                  | (have hb : bt (T.co k q) o = true := hit
                     rw [hb] at hc0
                     clear hb)
                clear hit
                have hown1 := hown.alloc (.cells #[.int .i64 k] 3)
                have hnew := heap_alloc_new wr (.cells #[.int .i64 k] 3)
                have hbase : w.heap.size + 1 ≤ (wr.alloc (.cells #[.int .i64 k] 3)).heap.size := by have := lt_of_blk HR.out.1; rw [alloc_size]; omega
                have HX := Lib.hid (And.intro hown1 (And.intro hnew hbase))
                clear hown1 hnew hbase
                go_wp2_with (at_builtin; refine wpList_append1 rfl _ _ 34 rfl (w.heap.size + 1) 3 i0 (.int .i64 0) 1 8 Try.underlying34 hi hz0 hz1 hz2 rfl (by decide) _ _ _ rfl HX.out.1 wr.heap.size 1 [.int .i64 k] 3 (0, 0) rfl HX.out.2.1 rfl rfl (by omega) (by omega) HX.out.2.2 ?_)
                intro v' w1 hown' hgrow
                have hk1 : Keeps noB w w1 := (hkp.alloc _).own (hown.alloc _) (by omega) hgrow
                have hR1 : RtAt w1 w.heap.size T := ((Keeps.refl noB wr).alloc _ |>.blk HR.out.1 (noB_not _)) |> fun h => (Keeps.grown (F := fun y => w.heap.size + 1 ≤ y) (Keeps.refl _ _) hgrow (fun y hy => .inr (by have := (hown.lt y hy).1; omega))).blk h (by omega)
                clear hgrow hown
                go_wp2_with fail
                go_roundw
                case rel => exact ⟨k + 1, by omega, by go_num, hk1, hR1, by unfold OwnI; rw [HH.out]; simpa using hown'⟩
                case measure => simp [intOf]; omega
            · have hit2 : (if wb then T.co k q else T.ow k q).getLsbD o = false := by simpa using hit
              have hh : T.holdN a q o wb (k + 1) = T.holdN a q o wb k := by rw [TB.holdN, if_neg (fun h => hit h.2)]
              have HH := Lib.hid hh
              clear hh hit hown
              cases wb
              all_goals
                simp only [Bool.false_eq_true, if_false, if_true] at hit2
                first
                  | (have hb : bt (T.ow k q) o = false := hit2
                     rw [hb] at hc1
                     clear hb)
                  | (have hb : bt (T.co k q) o = false := hit2
                     rw [hb] at hc0
                     clear hb)
                clear hit2
                go_wp2_with fail
                go_roundw
                case rel => exact ⟨k + 1, by omega, by go_num, HR.out.2.2, HR.out.1, by unfold OwnI; rw [HH.out]; exact HR.out.2.1⟩
                case measure => simp [intOf]; omega
        · have hk4 : k = 4 := by omega
          subst hk4
          go_wp2_with fail
          go_ret
          exact ⟨_, ⟨rfl, hkp⟩, own_lower hown (by omega)⟩
end Go.Proofs.Ytlpimkmkcfbddaa
