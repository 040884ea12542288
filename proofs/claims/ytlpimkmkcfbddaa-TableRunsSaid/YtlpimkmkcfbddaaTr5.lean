/- The document's table: a client has more. No condition. -/
import Derived.Test.YtlpimkmkcfbddaaTr4
namespace Go.Proofs.Ytlpimkmkcfbddaa
open Go.RowKit

theorem RtS.cellC {w wx : World} {T : TB} {x y : BitVec 4} {gc go : Nat} (h : RtS w wx T x y gc go) {i : Nat} (hi : i < 4) : wx.cell? ⟨gc, i, none⟩ = some (.bool (bt x i)) := blk_cell h.hc (bcells_at x hi)
theorem RtS.cellO {w wx : World} {T : TB} {x y : BitVec 4} {gc go : Nat} (h : RtS w wx T x y gc go) {i : Nat} (hi : i < 4) : wx.cell? ⟨go, i, none⟩ = some (.bool (bt y i)) := blk_cell h.ho (bcells_at y hi)
theorem mixed_put (T : TB) (a q k : Nat) (X Y : BitVec 4) (hk : k < 4) : ((T.mixed a q k X Y).setC a q (sb ((T.mixed a q k X Y).co a q) k (bt X k))).setO a q (sb (((T.mixed a q k X Y).setC a q (sb ((T.mixed a q k X Y).co a q) k (bt X k))).ow a q) k (bt Y k)) = T.mixed a q (k + 1) X Y := by
  have h1 : ((T.mixed a q k X Y).setC a q (sb ((T.mixed a q k X Y).co a q) k (bt X k))).ow a q = mix k (T.ow a q) Y := mixed_ow T a q k X Y
  rw [h1, mixed_co, mix_put _ _ _ hk, mix_put _ _ _ hk]
  unfold TB.mixed
  rw [← setC_setO, setO_setO, setC_setO, setC_setC]
theorem RtS.put {w wx w1 : World} {T T' : TB} {x y : BitVec 4} {gc go : Nat} (h : RtS w wx T x y gc go) (i : Nat) (v : Value) (hk : Keeps noB wx w1) (ht : RtAt (w1.setCell ⟨w.heap.size, i, none⟩ v) w.heap.size T') : RtS w (w1.setCell ⟨w.heap.size, i, none⟩ v) T' x y gc go := by
  have k1 : Keeps (oneB w.heap.size) wx (w1.setCell ⟨w.heap.size, i, none⟩ v) := hk.of_no.set1 i v
  have n1 := h.lc
  have n2 := h.lo
  exact ⟨h.kp.trans k1 (fun y hy e => by unfold oneB at e; omega), ht, k1.blk h.rs (fun e => by unfold oneB at e; omega), k1.blk h.hc (fun e => by unfold oneB at e; omega), k1.blk h.ho (fun e => by unfold oneB at e; omega), h.lc, h.lo⟩
theorem RtS.no {w wx w1 : World} {T : TB} {x y : BitVec 4} {gc go : Nat} (h : RtS w wx T x y gc go) (hk : Keeps noB wx w1) : RtS w w1 T x y gc go :=
  ⟨h.kp.trans_no hk, h.rt.no hk, hk.blk h.rs (noB_not _), hk.blk h.hc (noB_not _), hk.blk h.ho (noB_not _), h.lc, h.lo⟩
set_option maxRecDepth 100000 in
set_option maxHeartbeats 16000000 in
theorem grant_go (a q : Nat) (ha : a < 4) (hq : q < 6) (m o : Int) (hm : okB m = true) (ho : okB o = true) (T TG : TB) (ok : Bool) (w : World)
    (HC : Hid (T.clash a q (mkB m) (mkB o) = true → TG = T ∧ ok = false)) (HN : Hid (T.clash a q (mkB m) (mkB o) = false → TG = (T.setC a q (T.co a q ||| (mkB m ||| mkB o))).setO a q (T.ow a q ||| mkB o) ∧ ok = true)) :
    Calls Try.prog 30 #[.agg (rcells T), .int .i64 a, .int .i64 q, .int .i64 m, .int .i64 o] w (RetK noB (.tuple #[.agg (rcells TG), .bool ok]) w) := by
  have hz46 := zero46
  have hCm := bits_u m
  have hCo := bits_u o
  have hI := in_r a q
  rw [inT_nat ha hq] at hI
  rw [hm] at hCm
  rw [ho] at hCo
  clear hm ho
  generalize mkB m = x at *
  generalize mkB o = y at *
  have HCm := Lib.hid hCm
  have HCo := Lib.hid hCo
  have HI := Lib.hid hI
  clear hCm hCo hI
  go_enter Try.func30, Try.ntmps30
  go_upto_region 3 with (first | with_reducible refine wpList_alloc0 rfl 46 rfl _ hz46 ?_ | (go_at_call 80; ((with_reducible refine (HCm.out _).mono ?_); rintro e w1 ⟨rfl, hk1⟩)) | (go_at_call 80; ((with_reducible refine (HCo.out _).mono ?_); rintro e w3 ⟨rfl, hk3⟩)))
  have hS : RtS w _ T x y _ _ := RtS.mk2 hk1 hk3
  have hS' := hS
  unfold bcells at hS'
  have HS : Hid (RtS w _ T x y _ _) := Lib.hid hS
  unfold bcells at HS
  clear hk1 hk3 hS hS' hz46
  generalize w3.alloc (.cells #[.bool (bt y 0), .bool (bt y 1), .bool (bt y 2), .bool (bt y 3)] 42) = wx at *
  generalize w1.heap.size = gc at *
  generalize w3.heap.size = go at *
  have hR' : wx.heap[w.heap.size]? = some (.cells (rcells T) 46 (0, 0)) := HS.out.rt
  have hZ := HS.out.rs
  go_wp2_with (go_at_call 81; ((with_reducible refine (HI.out _).mono ?_); rintro e w' ⟨rfl, rfl⟩))
  go_loop [16] (fun v => ∃ i : Nat, i ≤ 4 ∧ v = .int .i64 i ∧ ∀ i' d : Nat, i' < i → d < 4 → d ≠ a → hitB T q x y i' d = false) (fun v => 4 - (intOf v).toNat)
  case atStart => exact ⟨0, by omega, rfl, fun i' d h => by omega⟩
  case round =>
    obtain ⟨i, hi, rfl, hno⟩ := hrel
    have HNO := Lib.hid hno
    clear hno
    by_cases hi4 : i < 4
    · go_wp2_with fail
      go_loop [17] (fun v => ∃ d : Nat, d ≤ 4 ∧ v = .int .i64 d ∧ ∀ d' : Nat, d' < d → d' ≠ a → hitB T q x y i d' = false) (fun v => 4 - (intOf v).toNat)
      case atStart => exact ⟨0, by omega, rfl, fun d h => by omega⟩
      case round =>
        obtain ⟨d, hd, rfl, hnd⟩ := hrel
        have HND := Lib.hid hnd
        clear hnd
        by_cases hd4 : d < 4
        · by_cases hda : d = a
          · subst hda
            have hb0 : ((d : Int) != (d : Int)) = false := by simp
            go_wp2_with fail
            exact ⟨⟨d + 1, by omega, by go_num, fun d' h1 h2 => HND.out d' (by omega) h2⟩, by simp [intOf]; omega⟩
          · have hb0 : ((d : Int) != (a : Int)) = true := by simp; omega
            have c1 := HS.out.rt.ow hd4 hq hi4
            have c2 := HS.out.cellC hi4
            have c3 := HS.out.cellO hi4
            have c4 := HS.out.rt.co hd4 hq hi4
            have hh : hitB T q x y i d = (bt (T.ow d q) i && (bt x i || bt y i) || bt (T.co d q) i && bt y i) := rfl
            have HH := Lib.hid hh
            clear hh
            generalize bt (T.ow d q) i = b1 at *
            generalize bt x i = b2 at *
            generalize bt y i = b3 at *
            generalize bt (T.co d q) i = b4 at *
            cases b1 <;> cases b2 <;> cases b3 <;> cases b4
            all_goals first
              | (have hf : hitB T q x y i d = false := HH.out
                 have HF := Lib.hid hf
                 clear hf
                 go_wp2_with fail
                 exact ⟨⟨d + 1, by omega, by go_num, fun d' h1 h2 => by
                   by_cases e : d' = d
                   · subst e; exact HF.out
                   · exact HND.out d' (by omega) h2⟩, by simp [intOf]; omega⟩)
              | (have hf : hitB T q x y i d = true := HH.out
                 have hcl : T.clash a q x y = true := (clash_iff T a q x y).2 ⟨i, d, hi4, hd4, hda, hf⟩
                 obtain ⟨e1, e2⟩ := HC.out hcl
                 have e1' := e1.symm
                 subst e1' e2
                 clear hf hcl
                 go_wp2_with (first | with_reducible refine wpList_load_row rfl 46 _ rfl w.heap.size rfl 46 _ (0, 0) _ hR' Try.underlying46 rfl (info46' T) ?_ | with_reducible refine wpList_store_row rfl 46 _ _ rfl (w.heap.size + 1) (rcells T) rfl rfl 46 _ hZ (info46' T) (by rw [rcells_size, rcells_size]) (rcells_one T) ?_)
                 refine bodyPost_ret (results_row_tmp (fn := Try.f30) Try.results30 _ _ _ 46 _ (0, 0) _ rfl (setRow_heap' hZ) Try.underlying46 rfl (info46' T)) rfl ?_
                 exact ⟨rfl, HS.out.kp.setRow _ _ (.inr (by omega))⟩)
        · obtain rfl : d = 4 := by omega
          go_wp2_with fail
          exact ⟨⟨i + 1, by omega, by go_num, fun i' d h1 h2 h3 => by
            by_cases e : i' = i
            · subst e; exact HND.out d h2 h3
            · exact HNO.out i' d (by omega) h2 h3⟩, by simp [intOf]; omega⟩
    · obtain rfl : i = 4 := by omega
      have hcl : T.clash a q x y = false := by
        cases e : T.clash a q x y
        · rfl
        · obtain ⟨i, d, h1, h2, h3, h4⟩ := (clash_iff T a q x y).1 e
          rw [HNO.out i d h1 h2 h3] at h4
          cases h4
      obtain ⟨e1, e2⟩ := HN.out hcl
      subst e2
      have HE := Lib.hid e1
      clear hcl e1 HNO
      obtain ⟨X, hX⟩ : ∃ X, X = T.co a q ||| (x ||| y) := ⟨_, rfl⟩
      obtain ⟨Y, hY⟩ : ∃ Y, Y = T.ow a q ||| y := ⟨_, rfl⟩
      have hXb : ∀ k, k < 4 → bt X k = (bt (T.co a q) k || bt x k || bt y k) := fun k hk => by rw [hX, bt_or _ _ _ hk, bt_or _ _ _ hk]; simp [Bool.or_assoc]
      have hYb : ∀ k, k < 4 → bt Y k = (bt (T.ow a q) k || bt y k) := fun k hk => by rw [hY, bt_or _ _ _ hk]
      have HX := Lib.hid (And.intro hX (And.intro hY (And.intro hXb hYb)))
      clear hX hY hXb hYb hR' hZ
      go_wp2_with fail
      go_loopw [18] (fun v wd => ∃ k : Nat, k ≤ 4 ∧ v = .int .i64 k ∧ RtS w wd (T.mixed a q k X Y) x y gc go) (fun v _ => 4 - (intOf v).toNat)
      case atStart => exact ⟨0, by omega, rfl, by rw [mixed_0]; exact HS.out⟩
      case round =>
        obtain ⟨k, hk, rfl, hR⟩ := hrel
        have HR := Lib.hid hR
        clear hR
        by_cases hk4 : k < 4
        · have c1 := HR.out.rt.co ha hq hk4
          rw [mixed_co, mix_at _ _ _ hk4] at c1
          have c2 := HR.out.cellC hk4
          have c3 := HR.out.cellO hk4
          have f1 := blk_free HR.out.rt (a * 24 + q * 4 + k)
          have hx := HX.out.2.2.1 k hk4
          have hy := HX.out.2.2.2 k hk4
          have hR5 := (HR.out.put (a * 24 + q * 4 + k) (.bool (bt X k)) (Keeps.refl noB wr) (HR.out.rt.setC ha hq hk4 (bt X k))).no ((Keeps.refl noB _).drew)
          have hP := mixed_put T a q k X Y hk4
          have h5o : bt (((T.mixed a q k X Y).setC a q (sb ((T.mixed a q k X Y).co a q) k (bt X k))).ow a q) k = bt (T.ow a q) k := by
            rw [show ((T.mixed a q k X Y).setC a q (sb ((T.mixed a q k X Y).co a q) k (bt X k))).ow a q = mix k (T.ow a q) Y from mixed_ow T a q k X Y, mix_at _ _ _ hk4]
          generalize (T.mixed a q k X Y).setC a q (sb ((T.mixed a q k X Y).co a q) k (bt X k)) = T5 at *
          have hc5 := hR5.rt.ow ha hq hk4
          rw [h5o] at hc5
          have hc6 := hR5.cellO hk4
          have H5 := Lib.hid (And.intro hR5 (And.intro hP (And.intro hc5 hc6)))
          have HB := Lib.hid (And.intro hx hy)
          clear hx hy hR5 hP h5o hc5 hc6
          generalize bt (T.co a q) k = b1 at *
          generalize bt x k = b2 at *
          generalize bt y k = b3 at *
          generalize bt (T.ow a q) k = b4 at *
          generalize bt X k = bX at *
          generalize bt Y k = bY at *
          cases b1 <;> cases b2 <;> cases b3
          all_goals
            go_upto_region 16 with fail
            go_region
            go_upto_region 17 with fail
            clear c1 c2 c3 f1
            first
              | (have e : bX = true := HB.out.1
                 subst e
                 generalize (wr.setCell ⟨w.heap.size, a * 24 + q * 4 + k, none⟩ (.bool true)).drew = w5 at *)
              | (have e : bX = false := HB.out.1
                 subst e
                 generalize (wr.setCell ⟨w.heap.size, a * 24 + q * 4 + k, none⟩ (.bool false)).drew = w5 at *)
            have c5 := H5.out.2.2.1
            have c6 := H5.out.2.2.2
            have f5 := blk_free H5.out.1.rt (96 + a * 24 + q * 4 + k)
            cases b4
            all_goals first
              | (have e : bY = true := HB.out.2
                 subst e
                 go_region
                 go_wp2_with fail
                 refine ⟨⟨k + 1, by omega, by go_num, ?_⟩, by simp [intOf]; omega⟩
                 rw [← H5.out.2.1]
                 exact (H5.out.1.put _ _ (Keeps.refl noB _) (H5.out.1.rt.setO ha hq hk4 true)).no ((Keeps.refl noB _).drew))
              | (have e : bY = false := HB.out.2
                 subst e
                 go_region
                 go_wp2_with fail
                 refine ⟨⟨k + 1, by omega, by go_num, ?_⟩, by simp [intOf]; omega⟩
                 rw [← H5.out.2.1]
                 exact (H5.out.1.put _ _ (Keeps.refl noB _) (H5.out.1.rt.setO ha hq hk4 false)).no ((Keeps.refl noB _).drew))
        · obtain rfl : k = 4 := by omega
          rw [mixed_4] at HR
          rw [← HX.out.1, ← HX.out.2.1] at HE
          have e := HE.out
          subst e
          have hR' : wr.heap[w.heap.size]? = some (.cells (rcells ((T.setC a q X).setO a q Y)) 46 (0, 0)) := HR.out.rt
          have hZ := HR.out.rs
          generalize (T.setC a q X).setO a q Y = TG at *
          go_wp2_with (first | with_reducible refine wpList_load_row rfl 46 _ rfl w.heap.size rfl 46 _ (0, 0) _ hR' Try.underlying46 rfl (info46' TG) ?_ | with_reducible refine wpList_store_row rfl 46 _ _ rfl (w.heap.size + 1) (rcells TG) rfl rfl 46 _ hZ (info46' TG) (by rw [rcells_size, rcells_size]) (rcells_one TG) ?_)
          refine bodyPost_ret (results_row_tmp (fn := Try.f30) Try.results30 _ _ _ 46 _ (0, 0) _ rfl (setRow_heap' hZ) Try.underlying46 rfl (info46' TG)) rfl ?_
          exact ⟨rfl, HR.out.kp.setRow _ _ (.inr (by omega))⟩
end Go.Proofs.Ytlpimkmkcfbddaa
