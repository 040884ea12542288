/- The document's queue: who stands ahead. Printed by mk_qri.py. No condition. -/
import Derived.Test.YtlpimkmkcfbddaaQrH
namespace Go.Proofs.Ytlpimkmkcfbddaa
open Go.RowKit

theorem own_ints0 (w : World) : OwnN (w.alloc (.cells #[] 3)) w.heap.size (.slice (some ⟨w.heap.size, 0, none⟩) 0 0) [] :=
  ⟨rfl, .inr ⟨w.heap.size, 0, #[], rfl, Nat.le_refl _, heap_alloc_new _ _, Nat.le_refl _, Nat.zero_le _, rfl, rfl⟩⟩
theorem OwnN.no {w w1 : World} {B : Nat} {v : Value} {l : List Int} (h : OwnN w B v l) (hk : Keeps noB w w1) : OwnN w1 B v l := own_keep_no h hk
theorem OwnN.alloc {w : World} {B : Nat} {v : Value} {l : List Int} (h : OwnN w B v l) (o : Obj) : (w.alloc o).ownsRow B 3 1 v l.length (l.map (Value.int .i64)) := own_keep_no h ((Keeps.refl _ _).alloc _)
set_option maxRecDepth 100000 in
set_option maxHeartbeats 8000000 in
theorem ahead_q {w : World} {va vb : Value} {ws : List Wt} {l : List (Kc × Bool)} (h : RQ w va vb ws l) (hl : ws.length ≤ 900) (x : Wt) : Calls Try.prog 67 #[.agg #[va, vb], .agg #[.int .i64 x.c, .int .i64 x.p, .int .i64 x.o, .bool x.w]] w
    fun e w' => ∃ v', RetK noB v' w e w' ∧ OwnN w' w.heap.size v' (aheadL x ws) := by
  obtain ⟨xc, xp, xo, xw⟩ := x
  obtain ⟨a, n, b, d, rfl, rfl⟩ := h.slices
  obtain ⟨hk0, hs0, hb0, hb2⟩ := two_alloc w (.cells #[.slice a ws.length n, .slice b l.length d] 85) (.cells #[.int .i64 xc, .int .i64 xp, .int .i64 xo, .bool xw] 73)
  obtain ⟨w0, hw0⟩ : ∃ w0, w0 = (w.alloc (.cells #[.slice a ws.length n, .slice b l.length d] 85)).alloc (.cells #[.int .i64 xc, .int .i64 xp, .int .i64 xo, .bool xw] 73) := ⟨_, rfl⟩
  rw [← hw0] at hk0 hs0 hb0 hb2
  have h0 := h.no hk0
  have H := Lib.hid (And.intro h0 (And.intro hk0 (And.intro hb0 (And.intro hb2 hs0))))
  obtain ⟨res, hres⟩ : ∃ r, r = aheadL ⟨xc, xp, xo, xw⟩ ws := ⟨_, rfl⟩
  rw [← hres]
  have HR := Lib.hid hres
  clear h h0 hk0 hb0 hb2 hs0 hres
  have hi0 := own_ints0 w0
  rw [H.out.2.2.2.2] at hi0
  have kL : Keeps noB w0 (w0.alloc (.cells #[] 3)) := (Keeps.refl _ _).alloc _
  have zL := blk_cell (kL.blk H.out.2.2.1 (noB_not _)) (i := 0) rfl
  have HA := Lib.hid (And.intro hi0 kL)
  have hsz0 := H.out.2.2.2.2
  clear hi0 kL
  go_enter Try.func67, Try.ntmps67
  go_upto_region 1 with fail
  rw [← hw0]
  clear hw0
  go_wp2_with fail
  go_loopw [5, 12] (fun u i wr => ∃ k : Nat, k ≤ ws.length ∧ i = .int .i64 k ∧ Keeps noB w0 wr ∧ (∀ i (hi : i < ws.length), i < k → (ws[i].c == xc) = false) ∧ OwnN wr (w.heap.size + 2) u (ahd ⟨xc, xp, xo, xw⟩ (ws.take k))) (fun _ i _ => ws.length - (intOf i).toNat)
  case atStart => exact ⟨0, by omega, rfl, HA.out.2, fun i hi h => by omega, HA.out.1⟩
  case round =>
    clear zL
    obtain ⟨k, hk, rfl, hkp, hall, hown⟩ := hrel
    have HAL := Lib.hid hall
    have HO := Lib.hid hown
    clear hall hown hsz0
    by_cases hlt : k < ws.length
    · obtain ⟨g, rfl, c0, c1, c2, c3⟩ := (H.out.1.no hkp).wat hlt
      have htk : ws.take (k + 1) = ws.take k ++ [ws[k]] := List.take_succ_eq_append_getElem hlt
      obtain ⟨y, hy⟩ : ∃ y, y = ws[k] := ⟨_, rfl⟩
      rw [← hy] at c0 c1 c2 c3 htk
      have HTK := Lib.hid htk
      have HY := Lib.hid hy
      clear hy htk
      have hlen := ahd_le (x := ⟨xc, xp, xo, xw⟩) (l := ws.take k)
      rw [List.length_take] at hlen
      have HLE := Lib.hid hlen
      obtain ⟨fl, hfl⟩ : ∃ fl, fl = ahd ⟨xc, xp, xo, xw⟩ (ws.take k) := ⟨_, rfl⟩
      rw [← hfl] at HO HLE
      have HFL := Lib.hid hfl
      clear hfl hlen
      obtain ⟨yc, yp, yo, yw⟩ := y
      simp only at c0 c1 c2 c3
      have kB : Keeps noB wr (wr.alloc (.cells #[.int .i64 yc, .int .i64 yp, .int .i64 yo, .bool yw] 73)) := (Keeps.refl _ _).alloc _
      have hX := kB.blk (hkp.blk H.out.2.2.2.1 (noB_not _)) (noB_not _)
      have x0 := blk_cell hX (i := 0) rfl
      have x1 := blk_cell hX (i := 1) rfl
      have x2 := blk_cell hX (i := 2) rfl
      have x3 := blk_cell hX (i := 3) rfl
      clear hX
      cases e0 : (yc == xc)
      · have hnext : ∀ j (hj : j < ws.length), j < k + 1 → (ws[j].c == xc) = false := fun j hj hlt2 => by
          by_cases e2 : j = k
          · subst e2; rw [← HY.out]; exact e0
          · exact HAL.out j hj (by omega)
        have HNX := Lib.hid hnext
        clear hnext
        have e0' : (yc != xc) = true := by rw [bne, e0]; rfl
        cases e1 : (yp == xp)
        · have hcr : true = true → crossB ⟨yc, yp, yo, yw⟩ ⟨xc, xp, xo, xw⟩ = false := fun _ => by show (yp == xp && (yo == xo && (yc != xc && (yw || xw)))) = _; rw [e1]; rfl
          have HCR := Lib.hid (hcr rfl)
          clear hcr
          have KB := Lib.hid kB
          clear kB
          go_wp2_with fail
          refine ⟨⟨k + 1, by omega, by go_num, hkp.trans_no KB.out, HNX.out, ?_⟩, by simp [intOf]; omega⟩
          rw [HTK.out, ahd_false HCR.out, ← HFL.out]
          exact HO.out.no KB.out
        · cases e2 : (yo == xo)
          · have hcr : true = true → crossB ⟨yc, yp, yo, yw⟩ ⟨xc, xp, xo, xw⟩ = false := fun _ => by show (yp == xp && (yo == xo && (yc != xc && (yw || xw)))) = _; rw [e1, e2]; rfl
            have HCR := Lib.hid (hcr rfl)
            clear hcr
            have KB := Lib.hid kB
            clear kB
            go_wp2_with fail
            refine ⟨⟨k + 1, by omega, by go_num, hkp.trans_no KB.out, HNX.out, ?_⟩, by simp [intOf]; omega⟩
            rw [HTK.out, ahd_false HCR.out, ← HFL.out]
            exact HO.out.no KB.out
          · cases yw
            · cases xw
              · have hcr : true = true → crossB ⟨yc, yp, yo, false⟩ ⟨xc, xp, xo, false⟩ = false := fun _ => by show (yp == xp && (yo == xo && (yc != xc && (false || false)))) = _; rw [e1, e2, e0']; rfl
                have HCR := Lib.hid (hcr rfl)
                clear hcr
                have KB := Lib.hid kB
                clear kB
                go_wp2_with fail
                refine ⟨⟨k + 1, by omega, by go_num, hkp.trans_no KB.out, HNX.out, ?_⟩, by simp [intOf]; omega⟩
                rw [HTK.out, ahd_false HCR.out, ← HFL.out]
                exact HO.out.no KB.out
              · have hcr : true = true → crossB ⟨yc, yp, yo, false⟩ ⟨xc, xp, xo, true⟩ = true := fun _ => by show (yp == xp && (yo == xo && (yc != xc && (false || true)))) = _; rw [e1, e2, e0']; rfl
                have HCR := Lib.hid (hcr rfl)
                clear hcr
                have hnew : ((wr.alloc (.cells #[.int .i64 yc, .int .i64 yp, .int .i64 yo, .bool false] 73)).alloc (.cells #[.int .i64 yc] 3)).heap[wr.heap.size + 1]? = some (.cells #[.int .i64 yc] 3) := by rw [← alloc_size wr (.cells #[.int .i64 yc, .int .i64 yp, .int .i64 yo, .bool false] 73)]; exact heap_alloc_new _ _
                have HNW := Lib.hid hnew
                have hown := HO.out.no kB
                have HOB := Lib.hid hown
                have hsz : w.heap.size + 2 ≤ ((wr.alloc (.cells #[.int .i64 yc, .int .i64 yp, .int .i64 yo, .bool false] 73)).alloc (.cells #[.int .i64 yc] 3)).heap.size := by rw [alloc_size, alloc_size]; have := hkp.size; have := H.out.2.2.2.2; omega
                have HSZ := Lib.hid hsz
                have KB := Lib.hid kB
                obtain ⟨i0, hi, hz0, hz1, hz2⟩ := info_parts infoN
                have hd1 : fl.length + 1 ≤ 1000 := by have := HLE.out; omega
                have HD1 := Lib.hid hd1
                clear hnew hown hsz kB hd1
                go_wp2_with (at_builtin; refine wpList_append1 rfl _ _ 34 rfl (w.heap.size + 2) 3 i0 (.int .i64 0) 1 8 Try.underlying34 hi hz0 hz1 hz2 rfl (by decide) _ _ _ rfl (HOB.out.alloc _) (wr.heap.size + 1) 1 [.int .i64 yc] 3 (0, 0) rfl HNW.out rfl rfl ?d3 ?d4 HSZ.out ?_)
                case d3 => have := HD1.out; omega
                case d4 => have := HD1.out; omega
                intro v5 w5 hown5 hg5
                have k5 : Keeps noB w0 w5 := ((hkp.trans_no KB.out).alloc _).own (HOB.out.alloc _) (by have := H.out.2.2.2.2; omega) hg5
                clear hg5
                have H5 := Lib.hid (And.intro hown5 k5)
                clear hown5 k5
                go_wp2_with fail
                refine ⟨⟨k + 1, by omega, by go_num, H5.out.2, HNX.out, ?_⟩, by simp [intOf]; omega⟩
                rw [HTK.out, ahd_true HCR.out, ← HFL.out]
                unfold OwnN
                simpa using H5.out.1
            · have hcr : true = true → crossB ⟨yc, yp, yo, true⟩ ⟨xc, xp, xo, xw⟩ = true := fun _ => by show (yp == xp && (yo == xo && (yc != xc && (true || xw)))) = _; rw [e1, e2, e0']; rfl
              have HCR := Lib.hid (hcr rfl)
              clear hcr
              have hnew : ((wr.alloc (.cells #[.int .i64 yc, .int .i64 yp, .int .i64 yo, .bool true] 73)).alloc (.cells #[.int .i64 yc] 3)).heap[wr.heap.size + 1]? = some (.cells #[.int .i64 yc] 3) := by rw [← alloc_size wr (.cells #[.int .i64 yc, .int .i64 yp, .int .i64 yo, .bool true] 73)]; exact heap_alloc_new _ _
              have HNW := Lib.hid hnew
              have hown := HO.out.no kB
              have HOB := Lib.hid hown
              have hsz : w.heap.size + 2 ≤ ((wr.alloc (.cells #[.int .i64 yc, .int .i64 yp, .int .i64 yo, .bool true] 73)).alloc (.cells #[.int .i64 yc] 3)).heap.size := by rw [alloc_size, alloc_size]; have := hkp.size; have := H.out.2.2.2.2; omega
              have HSZ := Lib.hid hsz
              have KB := Lib.hid kB
              obtain ⟨i0, hi, hz0, hz1, hz2⟩ := info_parts infoN
              have hd1 : fl.length + 1 ≤ 1000 := by have := HLE.out; omega
              have HD1 := Lib.hid hd1
              clear hnew hown hsz kB hd1
              go_wp2_with (at_builtin; refine wpList_append1 rfl _ _ 34 rfl (w.heap.size + 2) 3 i0 (.int .i64 0) 1 8 Try.underlying34 hi hz0 hz1 hz2 rfl (by decide) _ _ _ rfl (HOB.out.alloc _) (wr.heap.size + 1) 1 [.int .i64 yc] 3 (0, 0) rfl HNW.out rfl rfl ?d3 ?d4 HSZ.out ?_)
              case d3 => have := HD1.out; omega
              case d4 => have := HD1.out; omega
              intro v5 w5 hown5 hg5
              have k5 : Keeps noB w0 w5 := ((hkp.trans_no KB.out).alloc _).own (HOB.out.alloc _) (by have := H.out.2.2.2.2; omega) hg5
              clear hg5
              have H5 := Lib.hid (And.intro hown5 k5)
              clear hown5 k5
              go_wp2_with fail
              refine ⟨⟨k + 1, by omega, by go_num, H5.out.2, HNX.out, ?_⟩, by simp [intOf]; omega⟩
              rw [HTK.out, ahd_true HCR.out, ← HFL.out]
              unfold OwnN
              simpa using H5.out.1
      · clear kB
        have kB : Keeps noB wr (wr.alloc (.cells #[.int .i64 yc, .int .i64 yp, .int .i64 yo, .bool yw] 73)) := (Keeps.refl _ _).alloc _
        have KB := Lib.hid kB
        clear kB
        go_wp2_with fail
        go_ret
        have hp : ofW xc ws = k := ofW_some hlt (fun x hx => by
          obtain ⟨i, hi, h1, rfl⟩ := take_mem hx
          exact HAL.out i hi h1) (by rw [← HY.out]; exact e0)
        have hr : res = fl := by
          rw [HR.out, HFL.out]
          unfold aheadL
          simp only [hp]
          rw [if_pos (by omega)]
          rfl
        rw [hr]
        exact ⟨_, ⟨rfl, (H.out.2.1.trans_no hkp).trans_no KB.out⟩, own_lower (HO.out.no KB.out) (by omega)⟩
    · have : k = ws.length := by omega
      subst this
      rw [List.take_length] at HO
      go_wp2_with fail
      go_ret
      have hp : ofW xc ws = -1 := ofW_none (fun x hx => by
        obtain ⟨i, hi, rfl⟩ := List.getElem_of_mem hx
        exact HAL.out i hi hi)
      have hr : res = ahd ⟨xc, xp, xo, xw⟩ ws := by
        rw [HR.out]
        unfold aheadL
        simp only [hp]
        rfl
      rw [hr]
      exact ⟨_, ⟨rfl, H.out.2.1.trans_no hkp⟩, own_lower HO.out (by omega)⟩
end Go.Proofs.Ytlpimkmkcfbddaa
