/- SectorRuns: whatever is done with a drive: all answers, the bytes of all sectors, and which are loose: the law answers true at every input. No condition. -/
import Derived.Test.YteoafecdlnaecaaSecRun
import Derived.Test.YteoafecdlnaecaaSecAlive
import Derived.Deep.RegionHeld3
namespace Go.Proofs.Yteoafecdlnaecaa
open Go.RowKit

/-- What an act is. -/
def QAc (w : World) (f : Nat → Value) : Prop := IsI (f 0) ∧ IsI (f 1) ∧ IsByS w (f 2)
set_option maxRecDepth 100000 in
set_option maxHeartbeats 16000000 in
theorem sectorRuns_w (many : Int) (a : Option Addr) (len cap : Nat) (g : Nat → Nat → Value) (w : World) (hm : -9223372036854775808 ≤ many ∧ many ≤ 9223372036854775807) (hl : len ≤ maxLen) (hr : RdS w 3 a len g) (hq : ∀ k, k < len → QAc w (g k)) :
    Calls Try.prog 6 #[.int .i64 many, .slice a len cap] w (RetK noB (.bool true) w) := by
  unfold maxLen at hl
  have HQ := Lib.hid hq
  have HRD := Lib.hid hr
  clear hq hr
  by_cases h2 : len > 200
  · have d1 : decide ((len : Int) > 200) = true := decide_eq_true (by omega)
    go_enter Try.func6, Try.ntmps6
    go_wp2_with fail
    refine (sectorAlive_c w).mono ?_
    rintro e w1 ⟨rfl, hk1⟩
    go_wp2_with fail
    go_ret
    exact ⟨rfl, hk1⟩
  · have d1 : decide ((len : Int) > 200) = false := decide_eq_false (by omega)
    go_enter Try.func6, Try.ntmps6
    go_wp2_with fail
    refine (sectorAlive_c w).mono ?_
    rintro e w1 ⟨rfl, hk1⟩
    have hN := new_v many hm w1 w1.heap.size (Nat.le_refl _)
    have HK1 := Lib.hid hk1
    clear hk1
    go_wp2_with fail
    refine hN.mono ?_
    rintro e w2 ⟨rfl, hk2, hd2⟩
    clear hN
    have HD2 := Lib.hid (And.intro hk2 hd2)
    clear hk2 hd2
    go_wp2_with fail
    refine (rnew_c many w2).mono ?_
    rintro e w3 ⟨uN, uS, uL, ⟨rfl, hk3⟩, hR3⟩
    obtain ⟨b1, e1, b2, e2, b3, e3, rfl, rfl, rfl⟩ := hR3.slices
    have HR3 := Lib.hid (And.intro hk3 hR3)
    clear hk3 hR3
    go_wp2_with fail
    obtain ⟨bw, hbw⟩ : ∃ bw, bw = w3.heap.size := ⟨_, rfl⟩
    have hI0 : SrI w (w3.alloc (.cells #[.slice b1 (newN many) e1, .slice b2 (newN many) e2, .slice b3 (newN many) e3] 41)) (w1.heap.size + 1) w1.heap.size bw (newN many) (fun y => w1.heap.size ≤ y ∧ y < w2.heap.size) (fun y => w2.heap.size ≤ y ∧ y < w3.heap.size) (.slice b1 (newN many) e1) (.slice b2 (newN many) e2) (.slice b3 (newN many) e3) noBy noBy noLo := by
      have hkZ : Keeps noB w3 (w3.alloc (.cells #[.slice b1 (newN many) e1, .slice b2 (newN many) e2, .slice b3 (newN many) e3] 41)) := (Keeps.refl _ _).alloc _
      have s1 := HK1.out.size
      have s2 := HD2.out.1.size
      have s3 := HR3.out.1.size
      refine ⟨((HK1.out.trans_no HD2.out.1).trans_no HR3.out.1).trans_no hkZ, ((HD2.out.2.mono (S' := fun y => w1.heap.size ≤ y ∧ y < w2.heap.size) (fun x h1 h2 => ⟨h1, h2⟩)).no HR3.out.1).no hkZ, HR3.out.2.no hkZ, fun y hy => by rw [alloc_size]; omega, fun y hy => by omega, fun y hy => by rw [alloc_size]; omega, fun y hy => ⟨fun h => by omega, by omega⟩, by rw [hbw]; exact heap_alloc_new _ _, by omega, fun i _ _ => rfl, by unfold newN; split; omega; split <;> omega⟩
    have HI0 := Lib.hid hI0
    rw [← hbw]
    clear hI0 hbw HR3 HD2
    obtain ⟨bd, hbd⟩ : ∃ bd, bd = w1.heap.size + 1 := ⟨_, rfl⟩
    rw [← hbd] at HI0 ⊢
    clear hbd
    generalize hnn : newN many = nn at *
    clear hnn
    go_loopw [28] (fun i wr => ∃ k : Nat, k ≤ len ∧ i = .int .i64 k ∧ ∃ S D vN vS vL now st lo, SrI w wr bd w1.heap.size bw nn S D vN vS vL now st lo)
      (fun i _ => len - (intOf i).toNat)
    case atStart => exact ⟨0, by omega, rfl, _, _, _, _, _, _, _, _, HI0.out⟩
    case round =>
      clear HI0
      obtain ⟨k, hk, rfl, S, D, vN, vS, vL, now, st, lo, hI⟩ := hrel
      have HI := Lib.hid hI
      by_cases hlt : k < len
      · obtain ⟨b, off, rfl, hbl, hcc⟩ := (HRD.out.keep hI.kp) k hlt
        obtain ⟨p0, p1, p2⟩ := HQ.out k hlt
        obtain ⟨kd, f0, _, _⟩ := p0
        obtain ⟨ni, f1, hni1, hni2⟩ := p1
        obtain ⟨da, dl, dc, f2, hdl, hdr, _⟩ := p2.read
        have c0 : wr.cell? ⟨b, off + k * 3, none⟩ = some (.int .i64 kd) := by rw [← f0]; exact hcc 0 (by omega)
        have c1 : wr.cell? ⟨b, off + k * 3 + 1, none⟩ = some (.int .i64 ni) := by rw [← f1, Nat.add_assoc]; exact hcc 1 (by omega)
        have c2 : wr.cell? ⟨b, off + k * 3 + 2, none⟩ = some (.slice da dl.length dc) := by rw [← f2, Nat.add_assoc]; exact hcc 2 (by omega)
        obtain ⟨x1, y1, x2, y2, x3, y3, rfl, rfl, rfl⟩ := hI.r.slices
        clear hcc f0 f1 f2 p2 hI
        have hkB : Keeps noB wr (wr.alloc (.cells #[.int .i64 kd, .int .i64 ni, .slice da dl.length dc] 44)) := (Keeps.refl _ _).alloc _
        have hAB := heap_alloc_new wr (.cells #[.int .i64 kd, .int .i64 ni, .slice da dl.length dc] 44)
        have hsB : (wr.alloc (.cells #[.int .i64 kd, .int .i64 ni, .slice da dl.length dc] 44)).heap.size = wr.heap.size + 1 := alloc_size _ _
        have hdB := (hdr.keep HI.out.kp (fun b _ => noB_not b)).keep hkB (fun b _ => noB_not b)
        obtain ⟨bA, hbA⟩ : ∃ bA, bA = wr.heap.size := ⟨_, rfl⟩
        have HB := Lib.hid (And.intro hkB (And.intro hAB (And.intro hsB hdB)))
        have HBA := Lib.hid hbA
        clear hkB hAB hsB hdB hdr
        go_upto_block 2 with fail
        rw [← hbA] at HB ⊢
        clear hbA c0 c1 c2
        generalize wr.alloc (.cells #[.int .i64 kd, .int .i64 ni, .slice da dl.length dc] 44) = wB at *
        have a0 := blk_cell HB.out.2.1 (i := 0) rfl
        go_cut [9, 10] (fun e f wx => ∃ E : Int, e = .int .i64 E ∧ f = .int .i64 E ∧ ∃ S D vN vS vL now st lo, SrI w wx bd w1.heap.size bw nn S D vN vS vL now st lo ∧ wx.heap[bA]? = some (.cells #[.int .i64 kd, .int .i64 ni, .slice da dl.length dc] 44 (0, 0)))
        case first =>
          have a1 := blk_cell HB.out.2.1 (i := 1) rfl
          have a2 := blk_cell HB.out.2.1 (i := 2) rfl
          have W0 := blk_cell HI.out.wv (i := 0) rfl
          by_cases k0 : kd = 0
          · subst k0
            have hkE := (Keeps.refl noB wB).alloc (.cells #[] 5)
            have a2 := blk_cell (hkE.blk HB.out.2.1 (noB_not _)) (i := 2) rfl
            have hdr2 := HB.out.2.2.2.keep hkE (fun b _ => noB_not b)
            clear a0 a1 W0
            go_wp2_with (at_builtin; refine wpList_append_by rfl _ _ rfl wB.heap.size _ _ _ rfl (own_bytes0 wB) da dl dc _ rfl hdr2 (by omega) (by rw [alloc_size]; omega) ?_)
            intro v' w3 hown' hgrow
            obtain ⟨hk3, a3, c3, rfl, hO3⟩ := copy_own (by simpa using hown') hgrow
            have hI3 := (HI.out.no HB.out.1).no hk3
            have hWr := write_s (hI3.d.mono (S' := fun y => S y ∨ w3.heap.size ≤ y) (fun x h1 _ => .inl h1)) (fun x hx => .inr hx) ni _ a3 dl c3 hdl hO3.byr
            have hd3 := HB.out.2.2.2.keep hk3 (fun b _ => noB_not b)
            have hA3 := hk3.blk HB.out.2.1 (noB_not _)
            have a1 := blk_cell hA3 (i := 1) rfl
            obtain ⟨E, hE⟩ : ∃ E : Int, E = (if okW nn ni dl then 0 else 51) := ⟨_, rfl⟩
            rw [← hE] at hWr
            have H3 := Lib.hid (And.intro hI3 (And.intro hO3 (And.intro hd3 (And.intro hA3 (And.intro hk3 hE)))))
            clear hI3 hO3 hd3 hA3 hk3 hE hown' hgrow hdr2 hkE a2
            go_wp2_with fail
            refine hWr.mono ?_
            rintro e w4 ⟨⟨rfl, hk4⟩, hd4⟩
            clear hWr a1
            obtain ⟨hI3, hO3, hd3, hA3, hk3, hE⟩ := H3.out
            have hbA3 : bA < w3.heap.size := lt_of_blk hA3
            have hSA : ∀ y, S y → y < bA := fun y hy => by rw [HBA.out]; exact HI.out.sl y hy
            have hbw3 := lt_of_blk hI3.wv
            have hW4 := hk4.blk hI3.wv (fun e => e.elim (fun e => (hI3.sbw _ e).2 rfl) (fun e => by omega))
            have hA4 := hk4.blk hA3 (fun e => e.elim (fun e => by have := hSA _ e; omega) (fun e => by omega))
            have m0 := blk_cell hW4 (i := 0) rfl
            have m1 := blk_cell hW4 (i := 1) rfl
            have m2 := blk_cell hW4 (i := 2) rfl
            have a1 := blk_cell hA4 (i := 1) rfl
            have a2 := blk_cell hA4 (i := 2) rfl
            have hd4' := hd3.keep hk4 (fun y hy e => e.elim (fun e => by have := (hI3.sbw y e).1; omega) (fun e => by have := hI3.kp.size; omega))
            have hs4 := hk4.size
            have hr4 := hI3.r.keep hk4 (fun y hy hD e => e.elim (fun e => (hI3.ds y hD).1 e) (fun e => by omega))
            have hRW := rwrite_c hr4 (fun y hy => by have := hI3.dl y hy; omega) hI3.n6 ni _ da dl dc hdl hd4'
            rw [← hE] at hRW
            have H4 := Lib.hid (And.intro hk4 (And.intro hd4 (And.intro hW4 (And.intro hA4 (And.intro hs4 (And.intro hSA hbw3))))))
            clear hI3 hO3 hd3 hA3 hk3 hE hk4 hd4 hbA3 hSA hW4 hA4 hd4' hs4 hr4 hbw3
            go_wp2_with fail
            refine hRW.mono ?_
            rintro e w5 ⟨uN, uS, uL, ⟨rfl, hk5⟩, hr5⟩
            clear hRW m0 m1 m2 a1 a2
            obtain ⟨u1, t1, u2, t2, u3, t3, rfl, rfl, rfl⟩ := hr5.slices
            obtain ⟨hk4, hd4, hW4, hA4, hs4, hSA, hbw3⟩ := H4.out
            obtain ⟨hI3, hO3, hd3, hA3, hk3, hE⟩ := H3.out
            have hW5 := hk5.blk hW4 (noB_not _)
            have hA5 := hk5.blk hA4 (noB_not _)
            have hI6 := hI3.step hk4 hd4 hk5 hr5 (by cases okW nn ni dl; exact hI3.stb; exact hI3.stb.write _ _)
            have hkr : Keeps (oneB bw) w5 (w5.setRow bw #[.slice u1 nn t1, .slice u2 nn t2, .slice u3 nn t3]) := (Keeps.refl _ _).setRow _ _ (.inl rfl)
            have hs5 := hk5.size
            have hbwA : bw ≠ bA := by have := lt_of_blk HI.out.wv; have := HBA.out; omega
            have hA6 := hkr.blk hA5 (fun e => by unfold oneB at e; omega)
            have hO6 : ByO (w5.setRow bw #[.slice u1 nn t1, .slice u2 nn t2, .slice u3 nn t3]) wB.heap.size a3 c3 dl := ((hO3.keep hk4 (fun b h1 h2 h => h.elim (fun h => by have := hSA b h; have := HB.out.2.2.1; have := HBA.out; omega) (fun h => by omega))).keep hk5 (fun b _ _ => noB_not b)).keep hkr (fun b h1 h2 h => by unfold oneB at h; subst h; have := lt_of_blk HI.out.wv; have := HB.out.1.size; omega)
            have H5 := Lib.hid (And.intro hI6 (And.intro hO6 (And.intro hO3 (And.intro hA6 (And.intro hk3 (And.intro hk4 (And.intro hk5 hSA)))))))
            clear hI6 hO6 hO3 hA6 hk3 hk4 hk5 hSA hI3 hd3 hA3 hE hkr hs5 hA5 hW4 hA4 hs4 hd4 hr5 H4 H3 hbwA hbw3
            go_wp2_with (with_reducible refine wpList_store_row rfl 41 _ _ rfl bw #[.slice u1 nn t1, .slice u2 nn t2, .slice u3 nn t3] rfl rfl 41 _ hW5 (by kernel_rfl) rfl (by kernel_rfl) ?_)
            generalize w5.setRow bw #[.slice u1 nn t1, .slice u2 nn t2, .slice u3 nn t3] = w6 at *
            go_loopw [56] (fun v wx => ∃ q : Nat, q ≤ dl.length ∧ v = .int .i64 q ∧ Keeps (fun y => wB.heap.size ≤ y ∧ y < w3.heap.size) w6 wx ∧ (0 < dl.length → ∃ gq cs, a3 = some ⟨gq, 0, none⟩ ∧ wB.heap.size ≤ gq ∧ gq < w3.heap.size ∧ wx.heap[gq]? = some (.cells cs 5 (0, 0)) ∧ ∀ y, y < dl.length → ∃ z, cs[y]? = some (.int .u8 z)))
              (fun v _ => dl.length - (intOf v).toNat)
            case atStart =>
              obtain ⟨hI6, hO6, hO3, _⟩ := H5.out
              refine ⟨0, by omega, rfl, Keeps.refl _ _, fun h0 => ?_⟩
              rcases hO6 with ⟨_, h, _⟩ | ⟨gq, cs, rfl, hB, hb, h1, h2, _, h4⟩
              · rw [h] at h0; simp at h0
              · refine ⟨gq, cs, rfl, hB, ?_, hb, fun y hy => ⟨_, h4 y hy⟩⟩
                rcases hO3 with ⟨_, h, _⟩ | ⟨g', _, e', _, hb', _⟩
                · rw [h] at h0; simp at h0
                · simp at e'; subst e'; exact lt_of_blk hb'
            case round =>
              obtain ⟨q, hq, rfl, hkq, hcs⟩ := hrel
              by_cases hlt2 : q < dl.length
              · obtain ⟨gq, cs, rfl, hq1, hq2, hq3, hq4⟩ := hcs (by omega)
                obtain ⟨z, hz⟩ := hq4 q hlt2
                have g1 := blk_cell hq3 hz
                have g2 := blk_free hq3 q
                have HQ3 := Lib.hid hq3
                have HQ4 := Lib.hid hq4
                clear hq3 hq4 hz hcs
                go_wp2_with fail
                go_roundw
                case rel =>
                  refine ⟨q + 1, by omega, by go_num, hkq.setCell _ _ (.inl ⟨hq1, hq2⟩), fun _ => ⟨gq, _, rfl, hq1, hq2, heap_setCell_same _ _ _ _ HQ3.out, fun y hy => ?_⟩⟩
                  obtain ⟨z2, hz2⟩ := HQ4.out y hy
                  have hys := (Array.getElem?_eq_some_iff.1 hz2).1
                  rw [Array.getElem?_setIfInBounds]
                  split
                  · rename_i hty; subst hty; rw [if_pos hys]; exact ⟨_, rfl⟩
                  · exact ⟨z2, hz2⟩
                case measure => simp [intOf]; omega
              · have : q = dl.length := by omega
                subst this
                clear hcs
                go_wp2_with fail
                go_meet
                case rel =>
                  obtain ⟨hI6, hO6, hO3, hA6, hk3, hk4, hk5, hSA⟩ := H5.out
                  have hs3 := hk3.size
                  have hs4 := hk4.size
                  have hsB := HB.out.2.2.1
                  have hbA := HBA.out
                  have hbwl := lt_of_blk HI.out.wv
                  have hw0 := HI.out.kp.size
                  refine ⟨E, rfl, rfl, _, _, _, _, _, _, _, _, hI6.far hkq (fun y ⟨y1, y2⟩ => ⟨by omega, fun hS => ?_, fun hD => ?_, by omega⟩), hkq.blk hA6 (fun ⟨y1, _⟩ => by omega)⟩
                  · rcases hS.1 with h | h
                    · have := hSA y h; omega
                    · omega
                  · rcases hD with h | h
                    · have := HI.out.dl y h; omega
                    · omega
          · by_cases k1 : kd = 1
            · subst k1
              obtain hSY := sync_s (HI.out.no HB.out.1).d
              have HSY := Lib.hid hSY
              clear hSY
              go_wp2_with fail
              refine HSY.out.mono ?_
              rintro e w4 ⟨⟨rfl, hk4⟩, hd4⟩
              clear a0 a1 a2 W0
              have hI3 := HI.out.no HB.out.1
              have hbA3 : bA < wB.heap.size := lt_of_blk HB.out.2.1
              have hSA : ∀ y, S y → y < bA := fun y hy => by rw [HBA.out]; exact HI.out.sl y hy
              have hbw3 := lt_of_blk hI3.wv
              have hk4' : Keeps (fun y => S y ∨ wB.heap.size ≤ y) wB w4 := hk4.mono (fun _ _ h => .inl h)
              have hd4' := hd4.mono (S' := fun y => S y ∨ wB.heap.size ≤ y) (fun x h1 _ => .inl h1)
              have hW4 := hk4.blk hI3.wv (fun e => (hI3.sbw _ e).2 rfl)
              have hA4 := hk4.blk HB.out.2.1 (fun e => by have := hSA _ e; omega)
              have m0 := blk_cell hW4 (i := 0) rfl
              have m1 := blk_cell hW4 (i := 1) rfl
              have m2 := blk_cell hW4 (i := 2) rfl
              have a1 := blk_cell hA4 (i := 1) rfl
              have hs4 := hk4.size
              have hr4 := hI3.r.keep hk4 (fun y hy hD e => (hI3.ds y hD).1 e)
              have hRW := rsync_c hr4 (fun y hy => by have := hI3.dl y hy; omega) hI3.n6
              have H4 := Lib.hid (And.intro hk4' (And.intro hd4' (And.intro hW4 (And.intro hA4 (And.intro hI3 hs4)))))
              clear hk4 hd4 hk4' hd4' hW4 hA4 hI3 hbA3 hSA hbw3 hs4 hr4 HSY
              go_wp2_with fail
              refine hRW.mono ?_
              rintro e w5 ⟨uN, uS, uL, ⟨rfl, hk5⟩, hr5⟩
              clear hRW m0 m1 m2 a1
              obtain ⟨u1, t1, u2, t2, u3, t3, rfl, rfl, rfl⟩ := hr5.slices
              obtain ⟨hk4, hd4, hW4, hA4, hI3, hs4⟩ := H4.out
              have hW5 := hk5.blk hW4 (noB_not _)
              have hA5 := hk5.blk hA4 (noB_not _)
              have hI6 := hI3.step hk4 hd4 hk5 (hr5.congr (sync_now hI3.n6 hI3.stb) (sync_st hI3.n6 _ _ _)) (hI3.stb.sync hI3.n6)
              have hkr : Keeps (oneB bw) w5 (w5.setRow bw #[.slice u1 nn t1, .slice u2 nn t2, .slice u3 nn t3]) := (Keeps.refl _ _).setRow _ _ (.inl rfl)
              have hbwA : bw ≠ bA := by have := lt_of_blk HI.out.wv; have := HBA.out; omega
              have hA6 := hkr.blk hA5 (fun e => by unfold oneB at e; omega)
              have H5 := Lib.hid (And.intro hI6 hA6)
              clear hk4 hd4 hW4 hA4 hI3 hs4 hA5 hI6 hkr hbwA hA6 hr5 hk5 H4
              go_wp2_with (with_reducible refine wpList_store_row rfl 41 _ _ rfl bw #[.slice u1 nn t1, .slice u2 nn t2, .slice u3 nn t3] rfl rfl 41 _ hW5 (by kernel_rfl) rfl (by kernel_rfl) ?_)
              go_meet
              case rel => exact ⟨0, rfl, rfl, _, _, _, _, _, _, _, _, H5.out.1, H5.out.2⟩
            · by_cases k2 : kd = 2
              · subst k2
                obtain hSY := crash_s (HI.out.no HB.out.1).d ni
                have HSY := Lib.hid hSY
                clear hSY
                go_wp2_with fail
                refine HSY.out.mono ?_
                rintro e w4 ⟨⟨rfl, hk4⟩, hd4⟩
                clear a0 a1 a2 W0
                have hI3 := HI.out.no HB.out.1
                have hbA3 : bA < wB.heap.size := lt_of_blk HB.out.2.1
                have hSA : ∀ y, S y → y < bA := fun y hy => by rw [HBA.out]; exact HI.out.sl y hy
                have hbw3 := lt_of_blk hI3.wv
                have hk4' : Keeps (fun y => S y ∨ wB.heap.size ≤ y) wB w4 := hk4.mono (fun _ _ h => .inl h)
                have hd4' := hd4.mono (S' := fun y => S y ∨ wB.heap.size ≤ y) (fun x h1 _ => .inl h1)
                have hW4 := hk4.blk hI3.wv (fun e => (hI3.sbw _ e).2 rfl)
                have hA4 := hk4.blk HB.out.2.1 (fun e => by have := hSA _ e; omega)
                have m0 := blk_cell hW4 (i := 0) rfl
                have m1 := blk_cell hW4 (i := 1) rfl
                have m2 := blk_cell hW4 (i := 2) rfl
                have a1 := blk_cell hA4 (i := 1) rfl
                have hs4 := hk4.size
                have hr4 := hI3.r.keep hk4 (fun y hy hD e => (hI3.ds y hD).1 e)
                have hRW := rcrash_c hr4 (fun y hy => by have := hI3.dl y hy; omega) hI3.n6 ni hni1 hni2
                have H4 := Lib.hid (And.intro hk4' (And.intro hd4' (And.intro hW4 (And.intro hA4 (And.intro hI3 hs4)))))
                clear hk4 hd4 hk4' hd4' hW4 hA4 hI3 hbA3 hSA hbw3 hs4 hr4 HSY
                go_wp2_with fail
                refine hRW.mono ?_
                rintro e w5 ⟨uN, uS, uL, ⟨rfl, hk5⟩, hr5⟩
                clear hRW m0 m1 m2 a1
                obtain ⟨u1, t1, u2, t2, u3, t3, rfl, rfl, rfl⟩ := hr5.slices
                obtain ⟨hk4, hd4, hW4, hA4, hI3, hs4⟩ := H4.out
                have hW5 := hk5.blk hW4 (noB_not _)
                have hA5 := hk5.blk hA4 (noB_not _)
                have hI6 := hI3.step hk4 hd4 hk5 (hr5.congr (crash_now hI3.stb ni) (fun i _ => crash_st _ _ _ _ i)) (hI3.stb.crash ni)
                have hkr : Keeps (oneB bw) w5 (w5.setRow bw #[.slice u1 nn t1, .slice u2 nn t2, .slice u3 nn t3]) := (Keeps.refl _ _).setRow _ _ (.inl rfl)
                have hbwA : bw ≠ bA := by have := lt_of_blk HI.out.wv; have := HBA.out; omega
                have hA6 := hkr.blk hA5 (fun e => by unfold oneB at e; omega)
                have H5 := Lib.hid (And.intro hI6 hA6)
                clear hk4 hd4 hW4 hA4 hI3 hs4 hA5 hI6 hkr hbwA hA6 hr5 hk5 H4
                go_wp2_with (with_reducible refine wpList_store_row rfl 41 _ _ rfl bw #[.slice u1 nn t1, .slice u2 nn t2, .slice u3 nn t3] rfl rfl 41 _ hW5 (by kernel_rfl) rfl (by kernel_rfl) ?_)
                go_meet
                case rel => exact ⟨0, rfl, rfl, _, _, _, _, _, _, _, _, H5.out.1, H5.out.2⟩
              · have e0 : decide (kd = 0) = false := decide_eq_false k0
                have e1 : decide (kd = 1) = false := decide_eq_false k1
                have e2 : decide (kd = 2) = false := decide_eq_false k2
                go_wp2_with fail
                go_meet
                case rel => exact ⟨0, rfl, rfl, _, _, _, _, _, _, _, _, HI.out.no HB.out.1, HB.out.2.1⟩
        case rest =>
          obtain ⟨E, rfl, rfl, S', D', vN', vS', vL', now', st', lo', hI', hA'⟩ := hcut
          have HI' := Lib.hid hI'
          have HA' := Lib.hid hA'
          clear hI' hA'
          have a1 := blk_cell HA'.out (i := 1) rfl
          have hRE := read_s HI'.out.d ni
          clear a0
          go_wp2_with fail
          refine hRE.mono ?_
          rintro e wc ⟨a7, c7, ⟨rfl, hk7⟩, hO7⟩
          clear hRE a1
          generalize (if inD nn ni = true then now' ni.toNat else []) = lR at *
          have hI7 := HI'.out.no hk7
          have hA7 := hk7.blk HA'.out (noB_not _)
          obtain ⟨p1, q1, p2, q2, p3, q3, rfl, rfl, rfl⟩ := hI7.r.slices
          have a1 := blk_cell hA7 (i := 1) rfl
          have m0 := blk_cell hI7.wv (i := 0) rfl
          have m1 := blk_cell hI7.wv (i := 1) rfl
          have m2 := blk_cell hI7.wv (i := 2) rfl
          have hRR := rread_c hI7.r hI7.n6 ni
          obtain ⟨F, hF⟩ : ∃ F : Int, F = (if inD nn ni then 0 else 51) := ⟨_, rfl⟩
          rw [← hF]
          rw [← hF] at hRR
          have HI7 := Lib.hid hI7
          clear hI7 hA7 hF hO7 hk7
          go_wp2_with fail
          refine hRR.mono ?_
          rintro e wd ⟨u8, rfl, hk8⟩
          clear hRR a1 m0 m1 m2
          have hI8 := HI7.out.no hk8
          have hS : ∀ w', Keeps noB wd w' → w'.cell? ⟨bw, 0, none⟩ = some (.slice p1 nn q1) ∧ w'.cell? ⟨bw, 1, none⟩ = some (.slice p2 nn q2) ∧ w'.cell? ⟨bw, 2, none⟩ = some (.slice p3 nn q3) := fun w' hk => by
            have hW := hk.blk hI8.wv (noB_not _)
            exact ⟨blk_cell hW (i := 0) rfl, blk_cell hW (i := 1) rfl, blk_cell hW (i := 2) rfl⟩
          have hC22 : ∀ w', Keeps noB wd w' → Calls Try.prog 22 #[.pointer (some ⟨bd, 0, none⟩)] w' fun e w2 => ∃ a c, e = .returned (.slice a nn c) ∧ Keeps noB wd w2 ∧ RowB w2 w'.heap.size (.slice a nn c) nn now' := fun w' hk => by
            refine (all_s (hI8.d.no hk) hI8.n6).mono ?_
            rintro e w2 ⟨v, ⟨he, hk2⟩, hp⟩
            obtain ⟨a, c, rfl⟩ := hp.slice
            exact ⟨a, c, he, hk.trans_no hk2, hp⟩
          have hC15 : ∀ w', Keeps noB wd w' → Calls Try.prog 15 #[.pointer (some ⟨bd, 0, none⟩)] w' fun e w2 => ∃ a c, e = .returned (.slice a (looN lo' nn).length c) ∧ Keeps noB wd w2 ∧ OwnI w2 w'.heap.size (.slice a (looN lo' nn).length c) (looN lo' nn) := fun w' hk => by
            refine (loose_s (hI8.d.no hk)).mono ?_
            rintro e w2 ⟨v, ⟨he, hk2⟩, hp⟩
            obtain ⟨a, c, rfl⟩ := hp.slice
            exact ⟨a, c, he, hk.trans_no hk2, hp⟩
          have hC24 : ∀ w', Keeps noB wd w' → Calls Try.prog 24 #[.agg #[.slice p1 nn q1, .slice p2 nn q2, .slice p3 nn q3]] w' fun e w2 => ∃ a c, e = .returned (.slice a (looN lo' nn).length c) ∧ Keeps noB w' w2 ∧ Keeps noB wd w2 ∧ OwnI w2 w'.heap.size (.slice a (looN lo' nn).length c) (looN lo' nn) := fun w' hk => by
            refine (rloose_c (hI8.r.no hk) hI8.n6).mono ?_
            rintro e w2 ⟨v, ⟨he, hk2⟩, hp⟩
            obtain ⟨a, c, rfl⟩ := hp.slice
            exact ⟨a, c, he, hk2, hk.trans_no hk2, hp⟩
          have hRN : ∀ w', Keeps noB wd w' → RowR w' D' (.slice p1 nn q1) nn now' := fun w' hk => (hI8.r.no hk).1
          have hln : (looN lo' nn).length ≤ 1000000 := Nat.le_trans (looN_le _ _) (by have := hI8.n6; omega)
          have hn6 : nn ≤ 1000000 := by have := hI8.n6; omega
          have HS := Lib.hid hS
          have HH := Lib.hid (And.intro hC22 (And.intro hC15 (And.intro hC24 (And.intro hRN (And.intro hln (And.intro hn6 hI8))))))
          clear hS hC22 hC15 hC24 hRN hln hn6 hI8
          go_upto_region 29 with fail
          go_region_held3 (fun w' => w'.cell? ⟨bw, 0, none⟩ = some (.slice p1 nn q1) ∧ w'.cell? ⟨bw, 1, none⟩ = some (.slice p2 nn q2) ∧ w'.cell? ⟨bw, 2, none⟩ = some (.slice p3 nn q3))
            (first | exact HS.out _ ((Keeps.refl noB wd).drew) | exact HS.out _ hk9 | exact HS.out _ hk10 | exact HS.out _ hk11 | exact HS.out _ hk12 | exact HS.out _ hk13)
            (first
              | (go_at_call 22; refine (HH.out.1 _ ((Keeps.refl noB wd).drew)).mono ?_; rintro e w9 ⟨a9, c9, rfl, hk9, hp9⟩)
              | (go_at_call 21; refine (same_true hp9.row (HH.out.2.2.2.1 _ hk9) (fun _ _ => rfl) HH.out.2.2.2.2.2.1).mono ?_; rintro e w10 ⟨rfl, hk910⟩; have hk10 := hk9.trans_no hk910)
              | (go_at_call 15; refine (HH.out.2.1 _ hk10).mono ?_; rintro e w11 ⟨a11, c11, rfl, hk11, hp11⟩)
              | (go_at_call 24; refine (HH.out.2.2.1 _ hk11).mono ?_; rintro e w12 ⟨a12, c12, rfl, hk1112, hk12, hp12⟩)
              | (go_at_call 23; refine (sameN_true (hp11.num.no hk1112) hp12.num HH.out.2.2.2.2.1).mono ?_; rintro e w13 ⟨rfl, hk1213⟩; have hk13 := hk12.trans_no hk1213))
          all_goals
            go_wp2_with fail
            go_roundw
            case rel => exact ⟨k + 1, by omega, by go_num, _, _, _, _, _, _, _, _, HH.out.2.2.2.2.2.2.no hk13⟩
            case measure => simp [intOf]; omega
      · have : k = len := by omega
        subst this
        go_wp2_with fail
        go_ret
        exact ⟨rfl, HI.out.kp⟩
end Go.Proofs.Yteoafecdlnaecaa
