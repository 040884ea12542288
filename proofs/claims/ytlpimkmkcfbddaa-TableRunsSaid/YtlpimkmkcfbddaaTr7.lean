/- The document's table: a client has nothing; all answers at once. No condition. -/
import Derived.Test.YtlpimkmkcfbddaaTr6
import Derived.Test.YtlpimkmkcfbddaaTabInv
namespace Go.Proofs.Ytlpimkmkcfbddaa
open Go.RowKit

theorem drop_r (c p m o : Int) (T : TB) (w : World) : Calls Try.prog 31 #[.agg (rcells T), .int .i64 c, .int .i64 p, .int .i64 m, .int .i64 o] w (RetK noB (.agg (rcells (T.drop c p m o))) w) := by
  by_cases h : (inT c p && (okB m && okB o)) = true
  · rw [Bool.and_eq_true, Bool.and_eq_true] at h
    obtain ⟨h1, h2, h3⟩ := h
    obtain ⟨a, q, rfl, rfl, ha, hq⟩ := inT_open h1
    have hm : mkB m = mk4 m := by unfold mkB; rw [if_pos h2]
    have ho : mkB o = mk4 o := by unfold mkB; rw [if_pos h3]
    have hk : okM m o = true := by rw [okM_okB, h2, h3]; rfl
    have := drop_go a q ha hq m o h2 h3 T w
    rw [hm, ho] at this
    have hT : T.drop a q m o = T.drop' a q (mk4 m) (mk4 o) := by unfold TB.drop; rw [h1, hk]; rfl
    rw [hT]
    exact this
  · have h' : (inT c p && (okB m && okB o)) = false := by simpa using h
    have hT : T.drop c p m o = T := by unfold TB.drop; rw [okM_okB, if_neg (by rw [h']; decide)]
    rw [hT]
    exact drop_no c p m o T w h'
/-- k pages of a client are emptied. -/
def TB.clrN (T : TB) (c : Int) : Nat → TB
  | 0 => T
  | k + 1 => (T.clrN c k).drop c k 15 15
theorem TB.clrN_at (T : TB) (c : Int) : ∀ (k : Nat), k ≤ 6 → ∀ a q, a < 4 → q < 6 → ((T.clrN c k).co a q = if (a : Int) = c ∧ q < k then 0#4 else T.co a q) ∧ ((T.clrN c k).ow a q = if (a : Int) = c ∧ q < k then 0#4 else T.ow a q)
  | 0, _, a, q, _, _ => by simp [TB.clrN]
  | k + 1, hk, a, q, ha, hq => by
    obtain ⟨h1, h2⟩ := TB.clrN_at T c k (by omega) a q ha hq
    have h15 : ∀ x : BitVec 4, x &&& ~~~(mk4 15) = 0#4 := by decide +kernel
    have h15' : ∀ x : BitVec 4, x &&& ~~~(mk4 15 ||| mk4 15) = 0#4 := by decide +kernel
    unfold TB.clrN TB.drop
    by_cases hin : inT c k = true
    · obtain ⟨a', q', hc', hq', ha4, hq6⟩ := inT_open hin
      rw [if_pos (by rw [hin]; rfl)]
      have hqk : q' = k := by omega
      subst hc' hqk
      unfold TB.drop'
      simp only [Int.toNat_natCast, TB.setC, TB.setO]
      by_cases e : a = a' ∧ q = q'
      · rw [if_pos e, if_pos e, if_pos ⟨by omega, by omega⟩, if_pos ⟨by omega, by omega⟩, h15, h15']
        exact ⟨rfl, rfl⟩
      · rw [if_neg e, if_neg e, h1, h2]
        by_cases e2 : (a : Int) = (a' : Int) ∧ q < q'
        · rw [if_pos e2, if_pos ⟨e2.1, by omega⟩, if_pos e2, if_pos ⟨e2.1, by omega⟩]; exact ⟨rfl, rfl⟩
        · rw [if_neg e2, if_neg (by omega), if_neg e2, if_neg (by omega)]; exact ⟨rfl, rfl⟩
    · rw [if_neg (by simp [hin]), h1, h2]
      have hne : ¬ (a : Int) = c := fun h => by subst h; exact hin (inT_nat ha (by omega))
      rw [if_neg (fun h => hne h.1), if_neg (fun h => hne h.1), if_neg (fun h => hne h.1), if_neg (fun h => hne h.1)]
      exact ⟨rfl, rfl⟩
theorem rcells_congr {T U : TB} (h : ∀ a q, a < 4 → q < 6 → T.co a q = U.co a q ∧ T.ow a q = U.ow a q) : rcells T = rcells U := by
  apply Array.ext_getElem?
  intro i
  by_cases hi : i < 192
  · rw [rcells_at T i hi, rcells_at U i hi]
    unfold rbit
    by_cases h96 : i < 96
    · rw [if_pos h96, if_pos h96, (h _ _ (by omega) (by omega)).1]
    · rw [if_neg h96, if_neg h96, (h _ _ (by omega) (by omega)).2]
  · rw [Array.getElem?_eq_none (by rw [rcells_size]; omega), Array.getElem?_eq_none (by rw [rcells_size]; omega)]
theorem rcells_clr (T : TB) (c : Int) : rcells (T.clrN c 6) = rcells (T.clr c) := by
  apply rcells_congr
  intro a q ha hq
  obtain ⟨h1, h2⟩ := TB.clrN_at T c 6 (by omega) a q ha hq
  rw [h1, h2]
  unfold TB.clr
  by_cases hin : inT c 0 = true
  · obtain ⟨a', q', hc', _, ha4, _⟩ := inT_open hin
    rw [if_pos hin]
    subst hc'
    unfold TB.clear
    simp only [Int.toNat_natCast]
    by_cases e : a = a'
    · simp only [if_pos e]
      exact ⟨if_pos ⟨by omega, hq⟩, if_pos ⟨by omega, hq⟩⟩
    · simp only [if_neg e]
      exact ⟨if_neg (fun h => e (by omega)), if_neg (fun h => e (by omega))⟩
  · rw [if_neg hin]
    have hne : ¬ (a : Int) = c := fun h => by subst h; exact hin (inT_nat ha (b := 0) (by omega))
    exact ⟨if_neg (fun h => hne h.1), if_neg (fun h => hne h.1)⟩
set_option maxRecDepth 100000 in
set_option maxHeartbeats 8000000 in
theorem clear_r (c : Int) (T : TB) (w : World) : Calls Try.prog 32 #[.agg (rcells T), .int .i64 c] w (RetK noB (.agg (rcells (T.clr c))) w) := by
  have hz46 := zero46
  have s0 : (w.alloc (.cells (rcells T) 46)).heap.size = w.heap.size + 1 := alloc_size _ _
  have hA : ((w.alloc (.cells (rcells T) 46)).alloc (.cells (rcells TB.zero) 46)).heap[w.heap.size]? = some (.cells (rcells T) 46 (0, 0)) := ((Keeps.refl noB _).alloc _).blk (heap_alloc_new w (.cells (rcells T) 46)) (noB_not _)
  have hB : ((w.alloc (.cells (rcells T) 46)).alloc (.cells (rcells TB.zero) 46)).heap[w.heap.size + 1]? = some (.cells (rcells TB.zero) 46 (0, 0)) := by rw [← s0]; exact heap_alloc_new _ _
  have hk0 : Keeps noB w ((w.alloc (.cells (rcells T) 46)).alloc (.cells (rcells TB.zero) 46)) := ((Keeps.refl noB w).alloc _).alloc _
  have H0 := Lib.hid (And.intro hk0 (And.intro hA hB))
  clear s0 hA hB hk0
  rw [← rcells_clr]
  go_enter Try.func32, Try.ntmps32
  go_wp2_with (with_reducible refine wpList_alloc0 rfl 46 rfl _ hz46 ?_)
  go_loopw [5] (fun v wd => ∃ k : Nat, k ≤ 6 ∧ v = .int .i64 k ∧ Keeps noB w wd ∧ wd.heap[w.heap.size]? = some (.cells (rcells (T.clrN c k)) 46 (0, 0)) ∧ wd.heap[w.heap.size + 1]? = some (.cells (rcells TB.zero) 46 (0, 0))) (fun v _ => 6 - (intOf v).toNat)
  case atStart => exact ⟨0, by omega, rfl, H0.out.1, H0.out.2.1, H0.out.2.2⟩
  case round =>
    obtain ⟨k, hk, rfl, hkp, hR, hZ⟩ := hrel
    by_cases hk6 : k < 6
    · have HL := Lib.hid (And.intro hkp (And.intro hR hZ))
      clear hZ hz46
      go_wp2_with (first | with_reducible refine wpList_load_row rfl 46 _ rfl w.heap.size rfl 46 _ (0, 0) _ hR Try.underlying46 rfl (info46' _) ?_ | (go_at_call 31; refine (drop_r _ _ _ _ (T.clrN c k) _).mono ?_; rintro e w1 ⟨rfl, hk1⟩; have hR1 := hk1.blk hR (noB_not _)) | with_reducible refine wpList_store_row rfl 46 _ _ rfl w.heap.size (rcells (T.clrN c (k + 1))) rfl rfl 46 _ hR1 (info46' _) (by rw [rcells_size, rcells_size]) (rcells_one _) ?_)
      refine ⟨⟨k + 1, by omega, by go_num, (hkp.trans_no hk1).setRow _ _ (.inr (Nat.le_refl _)), setRow_heap' hR1, ?_⟩, by simp [intOf]; omega⟩
      rw [setRow_other _ _ _ _ (by omega)]
      exact hk1.blk HL.out.2.2 (noB_not _)
    · obtain rfl : k = 6 := by omega
      generalize T.clrN c 6 = TG at *
      go_wp2_with (first | with_reducible refine wpList_load_row rfl 46 _ rfl w.heap.size rfl 46 _ (0, 0) _ hR Try.underlying46 rfl (info46' TG) ?_ | with_reducible refine wpList_store_row rfl 46 _ _ rfl (w.heap.size + 1) (rcells TG) rfl rfl 46 _ hZ (info46' TG) (by rw [rcells_size, rcells_size]) (rcells_one TG) ?_)
      refine bodyPost_ret (results_cell_row (fn := Try.f32) Try.results32 _ _ _ 46 _ (0, 0) _ rfl (setRow_heap' hZ) Try.underlying46 rfl (info46' TG)) rfl ?_
      exact ⟨rfl, hkp.setRow _ _ (.inr (by omega))⟩
end Go.Proofs.Ytlpimkmkcfbddaa
