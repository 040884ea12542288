/- LinkOthers: a packet of another session, or of one's own end, tells nothing and changes nothing: the law answers true at every input. No condition. -/
import Derived.Test.YtoeikgaikdbpbaaLkSame
namespace Go.Proofs.Ytoeikgaikdbpbaa
open Go.RowKit

set_option maxRecDepth 100000 in
set_option maxHeartbeats 16000000 in
theorem linkOthers_w (x0 x1 x2 x3 x4 x5 x6 : Value) (a : Option Addr) (len cap : Nat) (g : Nat → Nat → Value) (y0 y1 y2 y3 y4 y5 y6 : Value) (w : World) (q0 : IsI x0) (q1 : IsI x1) (q2 : IsI x2) (q3 : IsI x3) (q4 : IsI x4) (q5 : IsB x5) (q6 : IsByS w x6)
    (hl : len ≤ maxLen) (hr : RdS w 1 a len g) (hq : ∀ k, k < len → IsByS w (g k 0)) (p0 : IsI y0) (p1 : IsI y1) (p2 : IsI y2) (p3 : IsI y3) (p4 : IsI y4) (p5 : IsB y5) (p6 : IsByS w y6) :
    Calls Try.prog 5 #[.agg #[x0, x1, x2, x3, x4, x5, x6], .slice a len cap, .agg #[y0, y1, y2, y3, y4, y5, y6]] w (RetK noB (.bool true) w) := by
  unfold maxLen at hl
  obtain ⟨hc, rfl, hc1, hc2⟩ := q0
  obtain ⟨he, rfl, he1, he2⟩ := q1
  obtain ⟨hb, rfl, hb1, hb2⟩ := q2
  obtain ⟨hs, rfl, _, _⟩ := q3
  obtain ⟨hk, rfl, _, _⟩ := q4
  obtain ⟨hv, rfl⟩ := q5
  obtain ⟨xa, xl, xc, rfl, _, _, _⟩ := q6.read
  obtain ⟨pc, rfl, _, _⟩ := p0
  obtain ⟨pe, rfl, _, _⟩ := p1
  obtain ⟨pb, rfl, _, _⟩ := p2
  obtain ⟨ps, rfl, _, _⟩ := p3
  obtain ⟨pk, rfl, _, _⟩ := p4
  obtain ⟨pv, rfl⟩ := p5
  obtain ⟨ya, yl, yc, rfl, _, _, _⟩ := p6.read
  clear q6 p6
  have HQ := Lib.hid hq
  clear hq
  obtain ⟨wA, hwA⟩ : ∃ wA, wA = (w.alloc (.cells #[.int .i64 hc, .int .i64 he, .int .i64 hb, .int .i64 hs, .int .i64 hk, .bool hv, .slice xa xl.length xc] 24)).alloc (.cells #[.int .i64 pc, .int .i64 pe, .int .i64 pb, .int .i64 ps, .int .i64 pk, .bool pv, .slice ya yl.length yc] 24) := ⟨_, rfl⟩
  have hkA : Keeps noB w wA := by rw [hwA]; exact ((Keeps.refl _ _).alloc _).alloc _
  have hsA : wA.heap.size = w.heap.size + 2 := by rw [hwA, alloc_size, alloc_size]
  have hX : wA.heap[w.heap.size]? = some (.cells #[.int .i64 hc, .int .i64 he, .int .i64 hb, .int .i64 hs, .int .i64 hk, .bool hv, .slice xa xl.length xc] 24 (0, 0)) := by rw [hwA, alloc_old _ _ _ (by rw [alloc_size]; omega)]; exact heap_alloc_new _ _
  have hY : wA.heap[w.heap.size + 1]? = some (.cells #[.int .i64 pc, .int .i64 pe, .int .i64 pb, .int .i64 ps, .int .i64 pk, .bool pv, .slice ya yl.length yc] 24 (0, 0)) := by rw [hwA, ← alloc_size w (.cells #[.int .i64 hc, .int .i64 he, .int .i64 hb, .int .i64 hs, .int .i64 hk, .bool hv, .slice xa xl.length xc] 24)]; exact heap_alloc_new _ _
  have HX := Lib.hid hX
  have HY := Lib.hid hY
  have HSA := Lib.hid hsA
  have hrA := hr.keep hkA
  clear hr hX hY hsA
  go_enter Try.func5, Try.ntmps5
  go_upto_region 1 with fail
  rw [← hwA]
  clear hwA
  go_upto_region 3 with (go_at_call 9; refine (linkAlive_c wA).mono ?_; rintro e w1 ⟨rfl, hk1⟩)
  have hX1 := hk1.blk HX.out (noB_not _)
  have hY1 := hk1.blk HY.out (noB_not _)
  have u0 := blk_cell hX1 (i := 0) rfl
  have u1 := blk_cell hX1 (i := 1) rfl
  have u2 := blk_cell hX1 (i := 2) rfl
  have u5 := blk_cell hX1 (i := 5) rfl
  have HX1 := Lib.hid hX1
  have HY1 := Lib.hid hY1
  clear hX1 hY1
  by_cases z0 : len > 20
  · have t0 : decide ((len : Int) > 20) = true := decide_eq_true (by omega)
    go_wp2_with fail
    go_ret
    exact ⟨rfl, hkA.trans_no hk1⟩
  have t0 : decide ((len : Int) > 20) = false := decide_eq_false (by omega)
  by_cases z1 : hc < 0
  · have t1 : decide (hc < 0) = true := decide_eq_true (by omega)
    go_wp2_with fail
    go_ret
    exact ⟨rfl, hkA.trans_no hk1⟩
  have t1 : decide (hc < 0) = false := decide_eq_false (by omega)
  by_cases z2 : hc > 3
  · have t2 : decide (hc > 3) = true := decide_eq_true (by omega)
    go_wp2_with fail
    go_ret
    exact ⟨rfl, hkA.trans_no hk1⟩
  have t2 : decide (hc > 3) = false := decide_eq_false (by omega)
  by_cases z3 : he < 0
  · have t3 : decide (he < 0) = true := decide_eq_true (by omega)
    go_wp2_with fail
    go_ret
    exact ⟨rfl, hkA.trans_no hk1⟩
  have t3 : decide (he < 0) = false := decide_eq_false (by omega)
  by_cases z4 : he > 16777215
  · have t4 : decide (he > 16777215) = true := decide_eq_true (by omega)
    go_wp2_with fail
    go_ret
    exact ⟨rfl, hkA.trans_no hk1⟩
  have t4 : decide (he > 16777215) = false := decide_eq_false (by omega)
  by_cases z5 : hb < 0
  · have t5 : decide (hb < 0) = true := decide_eq_true (by omega)
    go_wp2_with fail
    go_ret
    exact ⟨rfl, hkA.trans_no hk1⟩
  have t5 : decide (hb < 0) = false := decide_eq_false (by omega)
  by_cases z6 : hb > 16777215
  · have t6 : decide (hb > 16777215) = true := decide_eq_true (by omega)
    go_wp2_with fail
    go_ret
    exact ⟨rfl, hkA.trans_no hk1⟩
  have t6 : decide (hb > 16777215) = false := decide_eq_false (by omega)
  have hsz1 := hk1.size
  go_wp2_with fail
  refine (new_c hc he hb hv w1).mono ?_
  rintro e w2 ⟨⟨rfl, hk2⟩, hs2, ha2⟩
  have HS2 := Lib.hid hs2
  clear hs2 u0 u1 u2 u5
  go_wp2_with fail
  go_loopw [59] (fun v wr => ∃ i : Nat, i ≤ len ∧ v = .int .i64 i ∧ Keeps noB w1 wr ∧ ∃ S k vi, LkAt wr S w1.heap.size k vi ∧ (∀ x, S x → w1.heap.size ≤ x) ∧ (k.c = hc ∧ k.e = he ∧ k.b = hb ∧ k.v = hv) ∧ k.heard = 0)
    (fun v _ => len - (intOf v).toNat)
  case atStart => exact ⟨0, by omega, rfl, hk2, _, _, _, ha2, fun x hx => by unfold oneB at hx; omega, ⟨rfl, rfl, rfl, rfl⟩, rfl⟩
  case round =>
    clear ha2 hk2
    obtain ⟨i, hi, rfl, hkp, S, k, vi, ha, hSS, hkk, hhe⟩ := hrel
    have hsz := hkp.size
    by_cases hlt : i < len
    · obtain ⟨b, off, rfl, hbl, hcc⟩ := ((hrA.keep hk1).keep hkp) i hlt
      obtain ⟨da, dl, dc, e2, hdl, hdr, _⟩ := (HQ.out i hlt).read
      have c0 : wr.cell? ⟨b, off + i, none⟩ = some (.slice da dl.length dc) := by rw [← e2]; have := hcc 0 (by omega); simpa using this
      clear e2 hcc
      have hdr2 := (((hdr.keep hkA (fun b _ => noB_not b)).keep hk1 (fun b _ => noB_not b)).keep hkp (fun b _ => noB_not b)).keep ((Keeps.refl noB wr).alloc (.cells #[] 5)) (fun b _ => noB_not b)
      have HK := Lib.hid (And.intro hSS (And.intro hkk hhe))
      clear hSS hkk hhe hdr
      go_wp2_with (at_builtin; refine wpList_append_by rfl _ _ rfl wr.heap.size _ _ _ rfl (own_bytes0 wr) da dl dc _ rfl hdr2 (by omega) (by rw [alloc_size]; omega) ?_)
      intro v' w3 hown' hgrow
      obtain ⟨hk3, a3, c3, rfl, hO3⟩ := copy_own (by simpa using hown') hgrow
      clear hown' hgrow
      have hP := push_c (ha.no hk3) _ a3 dl c3 hdl hO3.byr
      have hs3 := hk3.size
      go_wp2_with fail
      refine hP.mono ?_
      rintro e w4 ⟨⟨rfl, hk4⟩, Sa, hSa1, hSa2, va, ta, hts, htl, ha4⟩
      clear hP
      go_wp2_with fail
      go_roundw
      case rel =>
        obtain ⟨r1, r2, r3⟩ := HK.out
        refine ⟨i + 1, by omega, by go_num, (hkp.trans_no hk3).trans hk4 (fun x hx h => by have := r1 x h; omega), Sa, _, va, ha4, fun x hx => ?_, ?_, ?_⟩
        · rcases hSa2 x hx with h | h
          · exact r1 x h
          · omega
        · split
          · exact r2
          · exact r2
        · split
          · exact r3
          · exact r3
      case measure => simp [intOf]; omega
    · have : i = len := by omega
      subst this
      obtain ⟨r1, r2, r3, r4⟩ := hkk
      have hX2 := hkp.blk HX1.out (noB_not _)
      have hY2 := hkp.blk HY1.out (noB_not _)
      have m0 := blk_cell hX2 (i := 0) rfl
      have m1 := blk_cell hX2 (i := 1) rfl
      have m2 := blk_cell hX2 (i := 2) rfl
      have m5 := blk_cell hX2 (i := 5) rfl
      have l0 := blk_cell hY2 (i := 0) rfl
      have l1 := blk_cell hY2 (i := 1) rfl
      have l2 := blk_cell hY2 (i := 2) rfl
      have l5 := blk_cell hY2 (i := 5) rfl
      have g1 := r1
      have g2 := r2
      have g3 := r3
      have g4 := r4
      clear hX2 hY2 r1 r2 r3 r4 hSS
      go_upto_region 11 with fail
      cases o1 : (pc == hc)
      · have hmine : mineB k pc pe pb pk pv = false := by unfold mineB; rw [g1, g2, g3, g4]; rw [o1]; rfl
        go_wp2_with fail
        refine (packets_c ha).mono ?_
        rintro e w6 ⟨v6, ⟨rfl, hk6⟩, hp6⟩
        obtain ⟨a6, c6, rfl⟩ := hp6.slice
        have ha6 := ha.no hk6
        have hkB := hkp.trans_no hk6
        have hY6 := hkB.blk HY1.out (noB_not _)
        have n0 := blk_cell hY6 (i := 0) rfl
        have n1 := blk_cell hY6 (i := 1) rfl
        have n2 := blk_cell hY6 (i := 2) rfl
        have n3 := blk_cell hY6 (i := 3) rfl
        have n4 := blk_cell hY6 (i := 4) rfl
        have n5 := blk_cell hY6 (i := 5) rfl
        have n6 := blk_cell hY6 (i := 6) rfl
        have hG := got_no ha6 pc pe pb ps pk pv ya yl.length yc hmine
        have hr6 := hp6.row
        have hps : k.pks.length ≤ 1000000 := by have h1 := pks_len k; have h2 := ha.few; split at h1 <;> omega
        have HR6 := Lib.hid hr6
        have HA6 := Lib.hid ha6
        have HHE := Lib.hid hhe
        clear ha ha6 hp6 hr6 hY6 hmine g1 g2 g3 g4 hhe m0 m1 m2 m5 l0 l1 l2 l5
        go_wp2_with fail
        refine hG.mono ?_
        rintro e w7 ⟨rfl, hk7⟩
        clear hG n0 n1 n2 n3 n4 n5 n6
        have ha7 := HA6.out.no hk7
        have hr7 := HR6.out.no hk7
        go_wp2_with fail
        refine (packets_c ha7).mono ?_
        rintro e w8 ⟨v8, ⟨rfl, hk8⟩, hp8⟩
        obtain ⟨a8, c8, rfl⟩ := hp8.slice
        have hS := samePks_true hp8.row (hr7.no hk8) hps
        have ha8 := ha7.no hk8
        have HP8 := Lib.hid (And.intro hp8 (And.intro hr7 ha7))
        clear hp8 hr7 ha7
        go_wp2_with fail
        refine hS.mono ?_
        rintro e w9 ⟨rfl, hk9⟩
        have hhd := heard_c (ha8.no hk9)
        rw [HHE.out] at hhd
        clear hS ha8
        go_wp2_with fail
        refine hhd.mono ?_
        rintro e w10 ⟨rfl, rfl⟩
        go_wp2_with fail
        go_ret
        exact ⟨rfl, ((((hkA.trans_no hk1).trans_no hkB).trans_no hk7).trans_no hk8).trans_no hk9⟩
      · cases o2 : (pe == he)
        · have hmine : mineB k pc pe pb pk pv = false := by unfold mineB; rw [g1, g2, g3, g4]; rw [o1, o2]; rfl
          go_wp2_with fail
          refine (packets_c ha).mono ?_
          rintro e w6 ⟨v6, ⟨rfl, hk6⟩, hp6⟩
          obtain ⟨a6, c6, rfl⟩ := hp6.slice
          have ha6 := ha.no hk6
          have hkB := hkp.trans_no hk6
          have hY6 := hkB.blk HY1.out (noB_not _)
          have n0 := blk_cell hY6 (i := 0) rfl
          have n1 := blk_cell hY6 (i := 1) rfl
          have n2 := blk_cell hY6 (i := 2) rfl
          have n3 := blk_cell hY6 (i := 3) rfl
          have n4 := blk_cell hY6 (i := 4) rfl
          have n5 := blk_cell hY6 (i := 5) rfl
          have n6 := blk_cell hY6 (i := 6) rfl
          have hG := got_no ha6 pc pe pb ps pk pv ya yl.length yc hmine
          have hr6 := hp6.row
          have hps : k.pks.length ≤ 1000000 := by have h1 := pks_len k; have h2 := ha.few; split at h1 <;> omega
          have HR6 := Lib.hid hr6
          have HA6 := Lib.hid ha6
          have HHE := Lib.hid hhe
          clear ha ha6 hp6 hr6 hY6 hmine g1 g2 g3 g4 hhe m0 m1 m2 m5 l0 l1 l2 l5
          go_wp2_with fail
          refine hG.mono ?_
          rintro e w7 ⟨rfl, hk7⟩
          clear hG n0 n1 n2 n3 n4 n5 n6
          have ha7 := HA6.out.no hk7
          have hr7 := HR6.out.no hk7
          go_wp2_with fail
          refine (packets_c ha7).mono ?_
          rintro e w8 ⟨v8, ⟨rfl, hk8⟩, hp8⟩
          obtain ⟨a8, c8, rfl⟩ := hp8.slice
          have hS := samePks_true hp8.row (hr7.no hk8) hps
          have ha8 := ha7.no hk8
          have HP8 := Lib.hid (And.intro hp8 (And.intro hr7 ha7))
          clear hp8 hr7 ha7
          go_wp2_with fail
          refine hS.mono ?_
          rintro e w9 ⟨rfl, hk9⟩
          have hhd := heard_c (ha8.no hk9)
          rw [HHE.out] at hhd
          clear hS ha8
          go_wp2_with fail
          refine hhd.mono ?_
          rintro e w10 ⟨rfl, rfl⟩
          go_wp2_with fail
          go_ret
          exact ⟨rfl, ((((hkA.trans_no hk1).trans_no hkB).trans_no hk7).trans_no hk8).trans_no hk9⟩
        · cases o3 : (pb == hb)
          · have hmine : mineB k pc pe pb pk pv = false := by unfold mineB; rw [g1, g2, g3, g4]; rw [o1, o2, o3]; rfl
            go_wp2_with fail
            refine (packets_c ha).mono ?_
            rintro e w6 ⟨v6, ⟨rfl, hk6⟩, hp6⟩
            obtain ⟨a6, c6, rfl⟩ := hp6.slice
            have ha6 := ha.no hk6
            have hkB := hkp.trans_no hk6
            have hY6 := hkB.blk HY1.out (noB_not _)
            have n0 := blk_cell hY6 (i := 0) rfl
            have n1 := blk_cell hY6 (i := 1) rfl
            have n2 := blk_cell hY6 (i := 2) rfl
            have n3 := blk_cell hY6 (i := 3) rfl
            have n4 := blk_cell hY6 (i := 4) rfl
            have n5 := blk_cell hY6 (i := 5) rfl
            have n6 := blk_cell hY6 (i := 6) rfl
            have hG := got_no ha6 pc pe pb ps pk pv ya yl.length yc hmine
            have hr6 := hp6.row
            have hps : k.pks.length ≤ 1000000 := by have h1 := pks_len k; have h2 := ha.few; split at h1 <;> omega
            have HR6 := Lib.hid hr6
            have HA6 := Lib.hid ha6
            have HHE := Lib.hid hhe
            clear ha ha6 hp6 hr6 hY6 hmine g1 g2 g3 g4 hhe m0 m1 m2 m5 l0 l1 l2 l5
            go_wp2_with fail
            refine hG.mono ?_
            rintro e w7 ⟨rfl, hk7⟩
            clear hG n0 n1 n2 n3 n4 n5 n6
            have ha7 := HA6.out.no hk7
            have hr7 := HR6.out.no hk7
            go_wp2_with fail
            refine (packets_c ha7).mono ?_
            rintro e w8 ⟨v8, ⟨rfl, hk8⟩, hp8⟩
            obtain ⟨a8, c8, rfl⟩ := hp8.slice
            have hS := samePks_true hp8.row (hr7.no hk8) hps
            have ha8 := ha7.no hk8
            have HP8 := Lib.hid (And.intro hp8 (And.intro hr7 ha7))
            clear hp8 hr7 ha7
            go_wp2_with fail
            refine hS.mono ?_
            rintro e w9 ⟨rfl, hk9⟩
            have hhd := heard_c (ha8.no hk9)
            rw [HHE.out] at hhd
            clear hS ha8
            go_wp2_with fail
            refine hhd.mono ?_
            rintro e w10 ⟨rfl, rfl⟩
            go_wp2_with fail
            go_ret
            exact ⟨rfl, ((((hkA.trans_no hk1).trans_no hkB).trans_no hk7).trans_no hk8).trans_no hk9⟩
          · cases pv
            · cases hv
              · have hmine : mineB k pc pe pb pk false = false := by unfold mineB; rw [g1, g2, g3, g4]; rw [o1, o2, o3]; rfl
                go_wp2_with fail
                refine (packets_c ha).mono ?_
                rintro e w6 ⟨v6, ⟨rfl, hk6⟩, hp6⟩
                obtain ⟨a6, c6, rfl⟩ := hp6.slice
                have ha6 := ha.no hk6
                have hkB := hkp.trans_no hk6
                have hY6 := hkB.blk HY1.out (noB_not _)
                have n0 := blk_cell hY6 (i := 0) rfl
                have n1 := blk_cell hY6 (i := 1) rfl
                have n2 := blk_cell hY6 (i := 2) rfl
                have n3 := blk_cell hY6 (i := 3) rfl
                have n4 := blk_cell hY6 (i := 4) rfl
                have n5 := blk_cell hY6 (i := 5) rfl
                have n6 := blk_cell hY6 (i := 6) rfl
                have hG := got_no ha6 pc pe pb ps pk false ya yl.length yc hmine
                have hr6 := hp6.row
                have hps : k.pks.length ≤ 1000000 := by have h1 := pks_len k; have h2 := ha.few; split at h1 <;> omega
                have HR6 := Lib.hid hr6
                have HA6 := Lib.hid ha6
                have HHE := Lib.hid hhe
                clear ha ha6 hp6 hr6 hY6 hmine g1 g2 g3 g4 hhe m0 m1 m2 m5 l0 l1 l2 l5
                go_wp2_with fail
                refine hG.mono ?_
                rintro e w7 ⟨rfl, hk7⟩
                clear hG n0 n1 n2 n3 n4 n5 n6
                have ha7 := HA6.out.no hk7
                have hr7 := HR6.out.no hk7
                go_wp2_with fail
                refine (packets_c ha7).mono ?_
                rintro e w8 ⟨v8, ⟨rfl, hk8⟩, hp8⟩
                obtain ⟨a8, c8, rfl⟩ := hp8.slice
                have hS := samePks_true hp8.row (hr7.no hk8) hps
                have ha8 := ha7.no hk8
                have HP8 := Lib.hid (And.intro hp8 (And.intro hr7 ha7))
                clear hp8 hr7 ha7
                go_wp2_with fail
                refine hS.mono ?_
                rintro e w9 ⟨rfl, hk9⟩
                have hhd := heard_c (ha8.no hk9)
                rw [HHE.out] at hhd
                clear hS ha8
                go_wp2_with fail
                refine hhd.mono ?_
                rintro e w10 ⟨rfl, rfl⟩
                go_wp2_with fail
                go_ret
                exact ⟨rfl, ((((hkA.trans_no hk1).trans_no hkB).trans_no hk7).trans_no hk8).trans_no hk9⟩
              · go_wp2_with fail
                go_ret
                exact ⟨rfl, (hkA.trans_no hk1).trans_no hkp⟩
            · cases hv
              · go_wp2_with fail
                go_ret
                exact ⟨rfl, (hkA.trans_no hk1).trans_no hkp⟩
              · have hmine : mineB k pc pe pb pk true = false := by unfold mineB; rw [g1, g2, g3, g4]; rw [o1, o2, o3]; rfl
                go_wp2_with fail
                refine (packets_c ha).mono ?_
                rintro e w6 ⟨v6, ⟨rfl, hk6⟩, hp6⟩
                obtain ⟨a6, c6, rfl⟩ := hp6.slice
                have ha6 := ha.no hk6
                have hkB := hkp.trans_no hk6
                have hY6 := hkB.blk HY1.out (noB_not _)
                have n0 := blk_cell hY6 (i := 0) rfl
                have n1 := blk_cell hY6 (i := 1) rfl
                have n2 := blk_cell hY6 (i := 2) rfl
                have n3 := blk_cell hY6 (i := 3) rfl
                have n4 := blk_cell hY6 (i := 4) rfl
                have n5 := blk_cell hY6 (i := 5) rfl
                have n6 := blk_cell hY6 (i := 6) rfl
                have hG := got_no ha6 pc pe pb ps pk true ya yl.length yc hmine
                have hr6 := hp6.row
                have hps : k.pks.length ≤ 1000000 := by have h1 := pks_len k; have h2 := ha.few; split at h1 <;> omega
                have HR6 := Lib.hid hr6
                have HA6 := Lib.hid ha6
                have HHE := Lib.hid hhe
                clear ha ha6 hp6 hr6 hY6 hmine g1 g2 g3 g4 hhe m0 m1 m2 m5 l0 l1 l2 l5
                go_wp2_with fail
                refine hG.mono ?_
                rintro e w7 ⟨rfl, hk7⟩
                clear hG n0 n1 n2 n3 n4 n5 n6
                have ha7 := HA6.out.no hk7
                have hr7 := HR6.out.no hk7
                go_wp2_with fail
                refine (packets_c ha7).mono ?_
                rintro e w8 ⟨v8, ⟨rfl, hk8⟩, hp8⟩
                obtain ⟨a8, c8, rfl⟩ := hp8.slice
                have hS := samePks_true hp8.row (hr7.no hk8) hps
                have ha8 := ha7.no hk8
                have HP8 := Lib.hid (And.intro hp8 (And.intro hr7 ha7))
                clear hp8 hr7 ha7
                go_wp2_with fail
                refine hS.mono ?_
                rintro e w9 ⟨rfl, hk9⟩
                have hhd := heard_c (ha8.no hk9)
                rw [HHE.out] at hhd
                clear hS ha8
                go_wp2_with fail
                refine hhd.mono ?_
                rintro e w10 ⟨rfl, rfl⟩
                go_wp2_with fail
                go_ret
                exact ⟨rfl, ((((hkA.trans_no hk1).trans_no hkB).trans_no hk7).trans_no hk8).trans_no hk9⟩
end Go.Proofs.Ytoeikgaikdbpbaa
