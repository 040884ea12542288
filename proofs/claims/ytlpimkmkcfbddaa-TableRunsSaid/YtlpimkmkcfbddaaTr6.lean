/- The document's table: a client has less. No condition. -/
import Derived.Test.YtlpimkmkcfbddaaTr5
namespace Go.Proofs.Ytlpimkmkcfbddaa
open Go.RowKit

theorem grant_r (c p m o : Int) (T : TB) (w : World) : Calls Try.prog 30 #[.agg (rcells T), .int .i64 c, .int .i64 p, .int .i64 m, .int .i64 o] w (RetK noB (.tuple #[.agg (rcells (T.grant c p m o)), .bool (T.okG c p m o)]) w) := by
  by_cases h : (inT c p && (okB m && okB o)) = true
  · rw [Bool.and_eq_true, Bool.and_eq_true] at h
    obtain ⟨h1, h2, h3⟩ := h
    obtain ⟨a, q, rfl, rfl, ha, hq⟩ := inT_open h1
    have hm : mkB m = mk4 m := by unfold mkB; rw [if_pos h2]
    have ho : mkB o = mk4 o := by unfold mkB; rw [if_pos h3]
    have hk : okM m o = true := by rw [okM_okB, h2, h3]; rfl
    refine grant_go a q ha hq m o h2 h3 T _ _ w (Lib.hid fun hc => ?_) (Lib.hid fun hc => ?_)
    · rw [hm, ho] at hc
      have hg : T.okG a q m o = false := by unfold TB.okG; simp only [Int.toNat_natCast]; rw [hc]; simp
      exact ⟨by unfold TB.grant; rw [if_neg (by rw [hg]; decide)], hg⟩
    · rw [hm, ho] at hc
      have hg : T.okG a q m o = true := by unfold TB.okG; simp only [Int.toNat_natCast]; rw [hc, h1, hk]; rfl
      exact ⟨by unfold TB.grant; rw [if_pos hg]; simp only [Int.toNat_natCast]; unfold TB.grant'; rw [hm, ho], hg⟩
  · have h' : (inT c p && (okB m && okB o)) = false := by simpa using h
    have hg : T.okG c p m o = false := by unfold TB.okG; rw [okM_okB]; rw [h']; rfl
    have hT : T.grant c p m o = T := by unfold TB.grant; rw [if_neg (by rw [hg]; decide)]
    rw [hT, hg]
    exact grant_no c p m o T w h'
set_option maxRecDepth 100000 in
set_option maxHeartbeats 8000000 in
/-- Who can't be, or gives back what can't be, keeps all. -/
theorem drop_no (c p m o : Int) (T : TB) (w : World) (h : (inT c p && (okB m && okB o)) = false) : Calls Try.prog 31 #[.agg (rcells T), .int .i64 c, .int .i64 p, .int .i64 m, .int .i64 o] w (RetK noB (.agg (rcells T)) w) := by
  have hz46 := zero46
  have hCm := bits_u m
  have hCo := bits_u o
  have hI := in_r c p
  generalize inT c p = bi at *
  generalize mkB m = x at *
  generalize mkB o = y at *
  generalize okB m = bm at *
  generalize okB o = bo at *
  have HCm := Lib.hid hCm
  have HCo := Lib.hid hCo
  have HI := Lib.hid hI
  have HH := Lib.hid h
  clear hCm hCo hI h
  go_enter Try.func31, Try.ntmps31
  go_upto_region 3 with (first | with_reducible refine wpList_alloc0 rfl 46 rfl _ hz46 ?_ | (go_at_call 80; ((with_reducible refine (HCm.out _).mono ?_); rintro e w1 ⟨rfl, hk1⟩)) | (go_at_call 80; ((with_reducible refine (HCo.out _).mono ?_); rintro e w3 ⟨rfl, hk3⟩)))
  have hS : RtS w _ T x y _ _ := RtS.mk2 hk1 hk3
  unfold bcells at hS
  clear hk1 hk3
  generalize w3.alloc (.cells #[.bool (bt y 0), .bool (bt y 1), .bool (bt y 2), .bool (bt y 3)] 42) = wx at *
  generalize w1.heap.size = gc at *
  generalize w3.heap.size = go at *
  have hR' : wx.heap[w.heap.size]? = some (.cells (rcells T) 46 (0, 0)) := hS.rt
  have hZ := hS.rs
  have hkz : Keeps noB w (wx.setRow (w.heap.size + 1) (rcells T)) := hS.kp.setRow _ _ (.inr (by omega))
  have hres := setRow_heap' (cs := rcells T) hZ
  have HF := Lib.hid (And.intro hkz hres)
  clear hkz hres
  cases bi
  · go_wp2_with (first | (go_at_call 81; ((with_reducible refine (HI.out _).mono ?_); rintro e w' ⟨rfl, rfl⟩)) | with_reducible refine wpList_load_row rfl 46 _ rfl w.heap.size rfl 46 _ (0, 0) _ hR' Try.underlying46 rfl (info46' T) ?_ | with_reducible refine wpList_store_row rfl 46 _ _ rfl (w.heap.size + 1) (rcells T) rfl rfl 46 _ hZ (info46' T) (by rw [rcells_size, rcells_size]) (rcells_one T) ?_)
    refine bodyPost_ret (results_cell_row (fn := Try.f31) Try.results31 _ _ _ 46 _ (0, 0) _ rfl HF.out.2 Try.underlying46 rfl (info46' T)) rfl ?_
    exact ⟨rfl, HF.out.1⟩
  · cases bm
    · go_wp2_with (first | (go_at_call 81; ((with_reducible refine (HI.out _).mono ?_); rintro e w' ⟨rfl, rfl⟩)) | with_reducible refine wpList_load_row rfl 46 _ rfl w.heap.size rfl 46 _ (0, 0) _ hR' Try.underlying46 rfl (info46' T) ?_ | with_reducible refine wpList_store_row rfl 46 _ _ rfl (w.heap.size + 1) (rcells T) rfl rfl 46 _ hZ (info46' T) (by rw [rcells_size, rcells_size]) (rcells_one T) ?_)
      refine bodyPost_ret (results_cell_row (fn := Try.f31) Try.results31 _ _ _ 46 _ (0, 0) _ rfl HF.out.2 Try.underlying46 rfl (info46' T)) rfl ?_
      exact ⟨rfl, HF.out.1⟩
    · cases bo
      · go_wp2_with (first | (go_at_call 81; ((with_reducible refine (HI.out _).mono ?_); rintro e w' ⟨rfl, rfl⟩)) | with_reducible refine wpList_load_row rfl 46 _ rfl w.heap.size rfl 46 _ (0, 0) _ hR' Try.underlying46 rfl (info46' T) ?_ | with_reducible refine wpList_store_row rfl 46 _ _ rfl (w.heap.size + 1) (rcells T) rfl rfl 46 _ hZ (info46' T) (by rw [rcells_size, rcells_size]) (rcells_one T) ?_)
        refine bodyPost_ret (results_cell_row (fn := Try.f31) Try.results31 _ _ _ 46 _ (0, 0) _ rfl HF.out.2 Try.underlying46 rfl (info46' T)) rfl ?_
        exact ⟨rfl, HF.out.1⟩
      · exact absurd HH.out (by decide)
theorem bt_drop : ∀ (u v : BitVec 4) (k : Nat), k < 4 → bt (u &&& ~~~v) k = (bt u k && !bt v k) := by decide +kernel
/-- A bit that goes. -/
theorem mixC_off (T : TB) (a q k : Nat) (X Y : BitVec 4) (hk : k < 4) (hX : bt X k = false) : (T.mixed a q k X Y).setC a q (sb ((T.mixed a q k X Y).co a q) k false) = (T.setC a q (mix (k + 1) (T.co a q) X)).setO a q (mix k (T.ow a q) Y) := by
  rw [mixed_co, ← hX, mix_put _ _ _ hk]
  unfold TB.mixed
  rw [setC_setO, setC_setC]
theorem mixC_id (T : TB) (a q k : Nat) (X Y : BitVec 4) (hk : k < 4) (hX : bt X k = bt (T.co a q) k) : T.mixed a q k X Y = (T.setC a q (mix (k + 1) (T.co a q) X)).setO a q (mix k (T.ow a q) Y) := by
  unfold TB.mixed
  rw [mix_skip _ _ _ hk hX]
theorem mixO_off (T : TB) (a q k : Nat) (X Y : BitVec 4) (hk : k < 4) (hY : bt Y k = false) : ((T.setC a q (mix (k + 1) (T.co a q) X)).setO a q (mix k (T.ow a q) Y)).setO a q (sb (((T.setC a q (mix (k + 1) (T.co a q) X)).setO a q (mix k (T.ow a q) Y)).ow a q) k false) = T.mixed a q (k + 1) X Y := by
  have h1 : ((T.setC a q (mix (k + 1) (T.co a q) X)).setO a q (mix k (T.ow a q) Y)).ow a q = mix k (T.ow a q) Y := by simp [TB.setO]
  rw [h1, ← hY, mix_put _ _ _ hk, setO_setO]
  rfl
theorem mixO_id (T : TB) (a q k : Nat) (X Y : BitVec 4) (hk : k < 4) (hY : bt Y k = bt (T.ow a q) k) : (T.setC a q (mix (k + 1) (T.co a q) X)).setO a q (mix k (T.ow a q) Y) = T.mixed a q (k + 1) X Y := by
  unfold TB.mixed
  rw [mix_skip _ _ _ hk hY]
set_option maxRecDepth 100000 in
set_option maxHeartbeats 8000000 in
theorem drop_go (a q : Nat) (ha : a < 4) (hq : q < 6) (m o : Int) (hm : okB m = true) (ho : okB o = true) (T : TB) (w : World) :
    Calls Try.prog 31 #[.agg (rcells T), .int .i64 a, .int .i64 q, .int .i64 m, .int .i64 o] w (RetK noB (.agg (rcells ((T.setC a q (T.co a q &&& ~~~(mkB m))).setO a q (T.ow a q &&& ~~~(mkB m ||| mkB o))))) w) := by
  have hz46 := zero46
  have hCm := bits_u m
  have hCo := bits_u o
  have hI := in_r a q
  rw [inT_nat ha hq] at hI
  rw [hm] at hCm
  rw [ho] at hCo
  clear hm ho
  generalize mkB m = x at *
  generalize mkB o = y at *
  have HCm := Lib.hid hCm
  have HCo := Lib.hid hCo
  have HI := Lib.hid hI
  clear hCm hCo hI
  obtain ⟨X, hX⟩ : ∃ X, X = T.co a q &&& ~~~x := ⟨_, rfl⟩
  obtain ⟨Y, hY⟩ : ∃ Y, Y = T.ow a q &&& ~~~(x ||| y) := ⟨_, rfl⟩
  have hXb : ∀ k, k < 4 → bt X k = (bt (T.co a q) k && !bt x k) := fun k hk => by rw [hX, bt_drop _ _ _ hk]
  have hYb : ∀ k, k < 4 → bt Y k = (bt (T.ow a q) k && !(bt x k || bt y k)) := fun k hk => by rw [hY, bt_drop _ _ _ hk, bt_or _ _ _ hk]
  rw [← hX, ← hY]
  have HX := Lib.hid (And.intro hXb hYb)
  clear hX hY hXb hYb
  go_enter Try.func31, Try.ntmps31
  go_upto_region 3 with (first | with_reducible refine wpList_alloc0 rfl 46 rfl _ hz46 ?_ | (go_at_call 80; ((with_reducible refine (HCm.out _).mono ?_); rintro e w1 ⟨rfl, hk1⟩)) | (go_at_call 80; ((with_reducible refine (HCo.out _).mono ?_); rintro e w3 ⟨rfl, hk3⟩)))
  have hS : RtS w _ T x y _ _ := RtS.mk2 hk1 hk3
  have HS : Hid (RtS w _ T x y _ _) := Lib.hid hS
  unfold bcells at HS
  clear hk1 hk3 hS hz46
  generalize w3.alloc (.cells #[.bool (bt y 0), .bool (bt y 1), .bool (bt y 2), .bool (bt y 3)] 42) = wx at *
  generalize w1.heap.size = gc at *
  generalize w3.heap.size = go at *
  go_wp2_with (go_at_call 81; ((with_reducible refine (HI.out _).mono ?_); rintro e w' ⟨rfl, rfl⟩))
  go_loopw [15] (fun v wd => ∃ k : Nat, k ≤ 4 ∧ v = .int .i64 k ∧ RtS w wd (T.mixed a q k X Y) x y gc go) (fun v _ => 4 - (intOf v).toNat)
  case atStart => exact ⟨0, by omega, rfl, by rw [mixed_0]; exact HS.out⟩
  case round =>
    obtain ⟨k, hk, rfl, hR⟩ := hrel
    have HR := Lib.hid hR
    clear hR
    by_cases hk4 : k < 4
    · have c1 := HR.out.rt.co ha hq hk4
      have c2 := HR.out.cellC hk4
      have c3 := HR.out.cellO hk4
      have f1 := blk_free HR.out.rt (a * 24 + q * 4 + k)
      have hx := HX.out.1 k hk4
      have hy := HX.out.2 k hk4
      cases hb2 : bt x k
      · rw [hb2] at hx hy c2
        simp only [Bool.not_false, Bool.and_true, Bool.false_or] at hx hy
        have h5 := HR.out
        rw [mixC_id T a q k X Y hk4 hx] at h5
        cases hb3 : bt y k
        · rw [hb3] at hy c3
          simp only [Bool.not_false, Bool.and_true] at hy
          have h6 := h5
          rw [mixO_id T a q k X Y hk4 hy] at h6
          have H6 := Lib.hid h6
          clear h5 h6 hx hy hb2 hb3 c1 f1
          go_wp2_with fail
          refine ⟨⟨k + 1, by omega, by go_num, H6.out⟩, by simp [intOf]; omega⟩
        · rw [hb3] at hy c3
          simp only [Bool.not_true, Bool.and_false] at hy
          have c5 := h5.rt.ow ha hq hk4
          have f5 := blk_free h5.rt (96 + a * 24 + q * 4 + k)
          have h6 := h5.put _ _ (Keeps.refl noB _) (h5.rt.setO ha hq hk4 false)
          rw [mixO_off T a q k X Y hk4 hy] at h6
          have H6 := Lib.hid h6
          clear h5 h6 hx hy hb2 hb3 c1 f1
          go_wp2_with fail
          refine ⟨⟨k + 1, by omega, by go_num, H6.out⟩, by simp [intOf]; omega⟩
      · rw [hb2] at hx hy c2
        simp only [Bool.not_true, Bool.and_false, Bool.true_or] at hx hy
        have h5 := HR.out.put _ _ (Keeps.refl noB _) (HR.out.rt.setC ha hq hk4 false)
        rw [mixC_off T a q k X Y hk4 hx] at h5
        have c6 := h5.cellC hk4
        rw [hb2] at c6
        have c5 := h5.rt.ow ha hq hk4
        have f5 := blk_free h5.rt (96 + a * 24 + q * 4 + k)
        have h6 := h5.put _ _ (Keeps.refl noB _) (h5.rt.setO ha hq hk4 false)
        rw [mixO_off T a q k X Y hk4 hy] at h6
        have H6 := Lib.hid h6
        have H5 := Lib.hid (And.intro c6 (And.intro c5 f5))
        clear h5 h6 hx hy hb2 c3 c6 c5 f5
        go_upto_region 10 with fail
        generalize wr.setCell ⟨w.heap.size, a * 24 + q * 4 + k, none⟩ (.bool false) = w5 at *
        obtain ⟨c6, c5, f5⟩ := H5.out
        clear c1 c2 f1
        go_wp2_with fail
        refine ⟨⟨k + 1, by omega, by go_num, H6.out⟩, by simp [intOf]; omega⟩
    · obtain rfl : k = 4 := by omega
      rw [mixed_4] at HR
      have hR' : wr.heap[w.heap.size]? = some (.cells (rcells ((T.setC a q X).setO a q Y)) 46 (0, 0)) := HR.out.rt
      have hZ := HR.out.rs
      generalize (T.setC a q X).setO a q Y = TG at *
      go_wp2_with (first | with_reducible refine wpList_load_row rfl 46 _ rfl w.heap.size rfl 46 _ (0, 0) _ hR' Try.underlying46 rfl (info46' TG) ?_ | with_reducible refine wpList_store_row rfl 46 _ _ rfl (w.heap.size + 1) (rcells TG) rfl rfl 46 _ hZ (info46' TG) (by rw [rcells_size, rcells_size]) (rcells_one TG) ?_)
      refine bodyPost_ret (results_cell_row (fn := Try.f31) Try.results31 _ _ _ 46 _ (0, 0) _ rfl (setRow_heap' hZ) Try.underlying46 rfl (info46' TG)) rfl ?_
      exact ⟨rfl, HR.out.kp.setRow _ _ (.inr (by omega))⟩
end Go.Proofs.Ytlpimkmkcfbddaa
