/- SectorParts: a write touches no other sector: the law answers true at every input. No condition. -/
import Derived.Test.YteoafecdlnaecaaSecAll
import Derived.Test.YteoafecdlnaecaaSecArg
namespace Go.Proofs.Yteoafecdlnaecaa
open Go.RowKit

def nowP (i j : Nat) : List Int := if j < i then [(j : Int), 7] else []
def loP (i j : Nat) : Bool := decide (j < i)
theorem two_byr {w : World} (x y : Int) (fr : Nat × Nat) : ByR (w.alloc (.cells #[.int .u8 x, .int .u8 y] 5 fr)) (fun z => w.heap.size ≤ z) (some ⟨w.heap.size, 0, none⟩) [x, y] := by
  intro k hk
  have h2 : k < 2 := by simpa using hk
  refine ⟨w.heap.size, 0, rfl, Nat.le_refl _, by rw [alloc_size]; omega, ?_⟩
  match k, h2 with
  | 0, _ => exact blk_cell (heap_alloc_new _ _) rfl
  | 1, _ => exact blk_cell (heap_alloc_new _ _) rfl

set_option maxRecDepth 100000 in
set_option maxHeartbeats 8000000 in
theorem sectorParts_w (many i : Int) (a : Option Addr) (len cap : Nat) (w : World) (hmb : -9223372036854775808 ≤ many ∧ many ≤ 9223372036854775807) (hib : -9223372036854775808 ≤ i ∧ i ≤ 9223372036854775807) (hby : IsByS w (.slice a len cap)) :
    Calls Try.prog 4 #[.int .i64 many, .int .i64 i, .slice a len cap] w (RetK noB (.bool true) w) := by
  obtain ⟨a', l, c', e', hll, hlr, _⟩ := hby.read
  simp at e'
  obtain ⟨rfl, rfl, rfl⟩ := e'
  obtain ⟨n, hn⟩ : ∃ n, n = newN many := ⟨_, rfl⟩
  have hn6 : n ≤ 6 := by rw [hn]; unfold newN; split; omega; split <;> omega
  go_enter Try.func4, Try.ntmps4
  go_wp2_with (go_at_call 10; refine (sectorAlive_c w).mono ?_; rintro e w1 ⟨rfl, hk1⟩)
  have hs1 := hk1.size
  refine (new_v many hmb w1 w.heap.size hs1).mono ?_
  rintro e w2 ⟨rfl, hk2, hd2⟩
  rw [← hn] at hd2
  have HN := Lib.hid hn
  clear hn
  have hkw2 := hk1.trans_no hk2
  go_wp2_with fail
  go_loopw [8] (fun v wr => ∃ k : Nat, k ≤ n ∧ v = .int .i64 k ∧ Keeps noB w wr ∧ Drv wr w.heap.size (w1.heap.size + 1) w1.heap.size n (nowP k) noBy (loP k))
    (fun v _ => n - (intOf v).toNat)
  case atStart => exact ⟨0, by omega, rfl, hkw2, hd2.congr (fun i hi => ⟨by simp [nowP, noBy], rfl, by simp [loP, noLo]⟩)⟩
  case round =>
    clear hd2 hkw2
    obtain ⟨k, hk, rfl, hkp, hd⟩ := hrel
    have hsz := hkp.size
    go_wp2_with fail
    refine (len_v hd).mono ?_
    rintro e w' ⟨rfl, rfl⟩
    by_cases hlt : k < n
    · have hw0 : IntKind.u8.wrap (k : Int) = k := by rw [IntKind.wrap_u8]; omega
      have hA : Keeps noB wr (wr.alloc (.cells #[.int .u8 k, .int .u8 7] 5)) := (Keeps.refl _ _).alloc _
      have hW := write_v (hd.no hA) (by rw [alloc_size]; omega) k _ _ [(k : Int), 7] 2 (by simp) (two_byr k 7 (0, 0))
      rw [okW_true hlt (by simp)] at hW
      simp only [if_true, Int.toNat_natCast, List.length_cons, List.length_nil] at hW
      go_wp2_with fail
      refine hW.mono ?_
      rintro e w4 ⟨⟨rfl, hk4⟩, hd4⟩
      clear hW
      go_wp2_with fail
      go_roundw
      case rel =>
        refine ⟨k + 1, by omega, by go_num, (hkp.trans_no hA).trans hk4 (fun x hx h => by unfold fromB at h; omega), DrvS.congr hd4 (fun j hj => ?_)⟩
        unfold nowP loP up
        by_cases e : j = k
        · subst e; simp
        · refine ⟨?_, rfl, ?_⟩
          · rw [if_neg e]; simp only [show (j < k + 1) = (j < k) from propext (by omega)]
          · rw [if_neg e]; simp only [show (j < k + 1) = (j < k) from propext (by omega)]
      case measure => simp [intOf]; omega
    · have : k = n := by omega
      subst this
      have hlr1 := (hlr.keep hkp (fun b _ => noB_not b)).keep ((Keeps.refl noB wr).alloc (.cells #[] 5)) (fun b _ => noB_not b)
      go_wp2_with (at_builtin; refine wpList_append_by rfl _ _ rfl wr.heap.size _ _ _ rfl (own_bytes0 wr) a l cap _ rfl hlr1 ?c1 ?c2 ?_)
      case c1 => omega
      case c2 => rw [alloc_size]; omega
      intro v' w3 hown' hgrow
      obtain ⟨hk3, a3, c3, rfl, hO3⟩ := copy_own (by simpa using hown') hgrow
      clear hown' hgrow
      obtain ⟨wo, rfl⟩ : ∃ wo : World, wo = wr := ⟨_, rfl⟩
      have hs3 := hk3.size
      obtain ⟨S, hS⟩ : ∃ S : Nat → Prop, S = fun x => w.heap.size ≤ x ∧ (x < wo.heap.size ∨ w3.heap.size ≤ x) := ⟨_, rfl⟩
      have hd3 : DrvS w3 S (w1.heap.size + 1) w1.heap.size k (nowP k) noBy (loP k) := (DrvS.mono hd (fun x h hx => by unfold fromB at h; rw [hS]; exact ⟨h, .inl hx⟩)).no hk3
      have hSw : ∀ x, S x → w.heap.size ≤ x := fun x h => by rw [hS] at h; exact h.1
      have hSn : ∀ x, wo.heap.size ≤ x → x < w3.heap.size → ¬ S x := fun x h1 h2 h => by rw [hS] at h; omega
      have hSm : ∀ x, w3.heap.size ≤ x → S x := fun x h => by rw [hS]; exact ⟨by omega, .inr h⟩
      have HSw := Lib.hid hSw
      have HSn := Lib.hid hSn
      obtain ⟨ok, hok⟩ : ∃ b, b = okW k i l := ⟨_, rfl⟩
      obtain ⟨nw, hnw⟩ : ∃ f : Nat → List Int, f = if ok then up (nowP k) i.toNat l else nowP k := ⟨_, rfl⟩
      have hW := write_s hd3 hSm i _ a3 l c3 hll hO3.byr
      rw [← hok, ← hnw] at hW
      have HOK := Lib.hid hok
      have HNW := Lib.hid hnw
      clear hSw hSn hSm hS hd3 hd hok hnw
      go_wp2_with fail
      refine hW.mono ?_
      rintro e w4 ⟨⟨rfl, hk4⟩, hd4⟩
      clear hW
      generalize (if ok = true then up (loP k) i.toNat true else loP k) = lo4 at hd4
      have hO4 := hO3.keep hk4 (fun b h1 h2 => HSn.out b h1 h2)
      have hkw4 : Keeps noB w w4 := (hkp.trans_no hk3).trans hk4 (fun x hx h => by have := HSw.out x h; omega)
      obtain ⟨er, her⟩ : ∃ er : Int, er = if ok = true then 0 else 51 := ⟨_, rfl⟩
      rw [← her]
      have HER := Lib.hid her
      clear her
      go_wp2_with fail
      go_loopw [44] (fun v wx => ∃ p : Nat, p ≤ l.length ∧ v = .int .i64 p ∧ Keeps (fun x => wo.heap.size ≤ x ∧ x < w3.heap.size) w4 wx ∧ (0 < l.length → ∃ q cs, a3 = some ⟨q, 0, none⟩ ∧ wo.heap.size ≤ q ∧ q < w3.heap.size ∧ wx.heap[q]? = some (.cells cs 5 (0, 0)) ∧ l.length ≤ cs.size))
        (fun v _ => l.length - (intOf v).toNat)
      case atStart =>
        refine ⟨0, by omega, rfl, Keeps.refl _ _, fun h0 => ?_⟩
        rcases hO3 with ⟨_, h, _⟩ | ⟨q, cs, rfl, hB, hb, h1, h2, _⟩
        · rw [h] at h0; simp at h0
        · exact ⟨q, cs, rfl, hB, lt_of_blk hb, hk4.blk hb (HSn.out q hB (lt_of_blk hb)), by omega⟩
      case round =>
        obtain ⟨p, hp, rfl, hkq, hcs⟩ := hrel
        by_cases hlt2 : p < l.length
        · obtain ⟨q, cs, rfl, hq1, hq2, hq3, hq4⟩ := hcs (by omega)
          have g1 := blk_cell hq3 (i := p) (v := cs[p]) (Array.getElem?_eq_getElem (by omega))
          have g2 := blk_free hq3 p
          have HQ3 := Lib.hid hq3
          clear hcs hq3
          go_wp2_with fail
          go_roundw
          case rel =>
            exact ⟨p + 1, by omega, by go_num, hkq.setCell _ _ (.inl ⟨hq1, hq2⟩), fun _ => ⟨q, _, rfl, hq1, hq2, heap_setCell_same _ _ _ _ HQ3.out, by simpa using hq4⟩⟩
          case measure => simp [intOf]; omega
        · have : p = l.length := by omega
          subst this
          clear hcs
          have hd5 := hd4.keep hkq (fun x h1 _ h2 => HSn.out x h2.1 h2.2 h1)
          have hkw5 : Keeps noB w wr := hkw4.trans hkq (fun x hx h => by omega)
          go_wp2_with fail
          obtain ⟨w5, rfl⟩ : ∃ w5 : World, w5 = wr := ⟨_, rfl⟩
          go_loopw [12] (fun v wx => ∃ p : Nat, p ≤ k ∧ v = .int .i64 p ∧ Keeps noB w wx ∧ ∃ lo, DrvS wx S (w1.heap.size + 1) w1.heap.size k nw noBy lo)
            (fun v _ => k - (intOf v).toNat)
          case atStart => exact ⟨0, by omega, rfl, hkw5, _, hd5⟩
          case round =>
            clear hd5 hkw5 hkq hd4 hkw4 hO4 hk4 hO3
            obtain ⟨p, hp, rfl, hkx, lox, hd⟩ := hrel
            have hsx := hkx.size
            obtain ⟨wx, rfl⟩ : ∃ wx : World, wx = wr := ⟨_, rfl⟩
            go_wp2_with fail
            refine (len_s hd).mono ?_
            rintro e w' ⟨rfl, rfl⟩
            by_cases hlt3 : p < k
            · have hw0 : IntKind.u8.wrap (p : Int) = p := by rw [IntKind.wrap_u8]; omega
              have hr := read_s hd p
              rw [inD_true hlt3] at hr
              simp only [if_true, Int.toNat_natCast] at hr
              go_wp2_with fail
              refine hr.mono ?_
              rintro e w7 ⟨a7, c7, ⟨rfl, hk7⟩, hO7⟩
              clear hr
              have hd7 := (hd.mono (S' := fun x => S x ∧ x < wx.heap.size) (fun x h hx => ⟨h, hx⟩)).no hk7
              have hkL : Keeps noB w7 (w7.alloc (.cells #[.int .u8 p, .int .u8 7] 5)) := (Keeps.refl _ _).alloc _
              have q1 := conv_c (two_byr (w := w7) p 7 (0, 0)) 2
              have q2 := conv_c ((((hlr.keep hkx (fun b _ => noB_not b)).keep hk7 (fun b _ => noB_not b))).keep hkL (fun b _ => noB_not b)) cap
              have q3 := conv_c ((hO7.keep hkL (fun b _ _ => noB_not b)).byr) c7
              simp only [List.length_cons, List.length_nil] at q1
              obtain ⟨m, hmm⟩ : ∃ m, m = nw p := ⟨_, rfl⟩
              rw [← hmm] at hO7 q3 ⊢
              have hml := hO7.le
              unfold maxLen at hml
              have hEE : (er == 0) = ok := by rw [HER.out]; cases ok <;> rfl
              have hnw := HNW.out
              have HM := Lib.hid hmm
              have arms : ((er == 0) = true ∧ ((p : Int) == i) = true ∧ strOf l = strOf m) ∨ ((er == 0) = true ∧ ((p : Int) == i) = false ∧ strOf [(p : Int), 7] = strOf m) ∨ ((er == 0) = false ∧ strOf [(p : Int), 7] = strOf m) := by
                cases hk : ok
                · refine .inr (.inr ⟨by rw [hEE, hk], ?_⟩)
                  rw [hmm, hnw, hk]; simp [nowP, hlt3]
                · by_cases hi : i = p
                  · refine .inl ⟨by rw [hEE, hk], by simp [hi], ?_⟩
                    rw [hmm, hnw, hk]; simp [up, hi]
                  · refine .inr (.inl ⟨by rw [hEE, hk], by simp; omega, ?_⟩)
                    have ho := HOK.out
                    rw [hk] at ho
                    obtain ⟨z, hz, _, _⟩ := okW_open ho.symm
                    rw [hmm, hnw, hk]; simp [up, nowP, hlt3]; rw [if_neg (by omega)]
              clear hEE hnw hmm
              rcases arms with ⟨g1, g2, g3⟩ | ⟨g1, g2, g3⟩ | ⟨g1, g3⟩
              · rw [g3] at q2
                clear g3
                go_wp2_with fail
                go_loopw [82] (fun v wy => ∃ t : Nat, t ≤ m.length ∧ v = .int .i64 t ∧ Keeps (fromB wx.heap.size) w7 wy ∧ (0 < m.length → ∃ q cs, a7 = some ⟨q, 0, none⟩ ∧ wx.heap.size ≤ q ∧ wy.heap[q]? = some (.cells cs 5 (0, 0)) ∧ ∀ y, y < m.length → ∃ z, cs[y]? = some (.int .u8 z)))
                  (fun v _ => m.length - (intOf v).toNat)
                case atStart =>
                  refine ⟨0, by omega, rfl, (Keeps.refl _ _).alloc _, fun h0 => ?_⟩
                  rcases hO7 with ⟨_, h, _⟩ | ⟨q, cs, rfl, hB, hb, h1, h2, _, h4⟩
                  · rw [h] at h0; simp at h0
                  · exact ⟨q, cs, rfl, hB, hkL.blk hb (noB_not _), fun y hy => ⟨_, h4 y hy⟩⟩
                case round =>
                  obtain ⟨t, ht, rfl, hky, hcs⟩ := hrel
                  by_cases hlt4 : t < m.length
                  · obtain ⟨q, cs, rfl, hq1, hq2, hq3⟩ := hcs (by omega)
                    obtain ⟨z, hz⟩ := hq3 t hlt4
                    have g1 := blk_cell hq2 hz
                    have g2 := blk_free hq2 t
                    have HQ2 := Lib.hid hq2
                    have HQ3 := Lib.hid hq3
                    clear hq2 hq3 hz hcs
                    go_wp2_with fail
                    go_roundw
                    case rel =>
                      refine ⟨t + 1, by omega, by go_num, hky.setCell _ _ (.inl hq1), fun _ => ⟨q, _, rfl, hq1, heap_setCell_same _ _ _ _ HQ2.out, fun y hy => ?_⟩⟩
                      obtain ⟨z2, hz2⟩ := HQ3.out y hy
                      have hys := (Array.getElem?_eq_some_iff.1 hz2).1
                      rw [Array.getElem?_setIfInBounds]
                      split
                      · rename_i hty; subst hty; rw [if_pos hys]; exact ⟨_, rfl⟩
                      · exact ⟨z2, hz2⟩
                    case measure => simp [intOf]; omega
                  · have : t = m.length := by omega
                    subst this
                    clear hcs
                    have hd8 := hd7.keep hky (fun x h _ h2 => by unfold fromB at h2; omega)
                    have hr := read_s hd8 p
                    rw [inD_true hlt3] at hr
                    simp only [if_true, Int.toNat_natCast, ← HM.out] at hr
                    go_wp2_with fail
                    refine hr.mono ?_
                    rintro e w9 ⟨a9, c9, ⟨rfl, hk9⟩, hO9⟩
                    clear hr
                    have q9 := conv_c hO9.byr c9
                    have hsy := hky.size
                    go_wp2_with fail
                    go_roundw
                    case rel => exact ⟨p + 1, by omega, by go_num, ((hkx.trans_no hk7).trans hky (fun x hx h => by unfold fromB at h; omega)).trans_no hk9, lox, (hd8.mono (fun x h _ => h.1)).no hk9⟩
                    case measure => simp [intOf]; omega
              · rw [g3] at q1
                clear g3
                go_wp2_with fail
                go_loopw [82] (fun v wy => ∃ t : Nat, t ≤ m.length ∧ v = .int .i64 t ∧ Keeps (fromB wx.heap.size) w7 wy ∧ (0 < m.length → ∃ q cs, a7 = some ⟨q, 0, none⟩ ∧ wx.heap.size ≤ q ∧ wy.heap[q]? = some (.cells cs 5 (0, 0)) ∧ ∀ y, y < m.length → ∃ z, cs[y]? = some (.int .u8 z)))
                  (fun v _ => m.length - (intOf v).toNat)
                case atStart =>
                  refine ⟨0, by omega, rfl, (Keeps.refl _ _).alloc _, fun h0 => ?_⟩
                  rcases hO7 with ⟨_, h, _⟩ | ⟨q, cs, rfl, hB, hb, h1, h2, _, h4⟩
                  · rw [h] at h0; simp at h0
                  · exact ⟨q, cs, rfl, hB, hkL.blk hb (noB_not _), fun y hy => ⟨_, h4 y hy⟩⟩
                case round =>
                  obtain ⟨t, ht, rfl, hky, hcs⟩ := hrel
                  by_cases hlt4 : t < m.length
                  · obtain ⟨q, cs, rfl, hq1, hq2, hq3⟩ := hcs (by omega)
                    obtain ⟨z, hz⟩ := hq3 t hlt4
                    have g1 := blk_cell hq2 hz
                    have g2 := blk_free hq2 t
                    have HQ2 := Lib.hid hq2
                    have HQ3 := Lib.hid hq3
                    clear hq2 hq3 hz hcs
                    go_wp2_with fail
                    go_roundw
                    case rel =>
                      refine ⟨t + 1, by omega, by go_num, hky.setCell _ _ (.inl hq1), fun _ => ⟨q, _, rfl, hq1, heap_setCell_same _ _ _ _ HQ2.out, fun y hy => ?_⟩⟩
                      obtain ⟨z2, hz2⟩ := HQ3.out y hy
                      have hys := (Array.getElem?_eq_some_iff.1 hz2).1
                      rw [Array.getElem?_setIfInBounds]
                      split
                      · rename_i hty; subst hty; rw [if_pos hys]; exact ⟨_, rfl⟩
                      · exact ⟨z2, hz2⟩
                    case measure => simp [intOf]; omega
                  · have : t = m.length := by omega
                    subst this
                    clear hcs
                    have hd8 := hd7.keep hky (fun x h _ h2 => by unfold fromB at h2; omega)
                    have hr := read_s hd8 p
                    rw [inD_true hlt3] at hr
                    simp only [if_true, Int.toNat_natCast, ← HM.out] at hr
                    go_wp2_with fail
                    refine hr.mono ?_
                    rintro e w9 ⟨a9, c9, ⟨rfl, hk9⟩, hO9⟩
                    clear hr
                    have q9 := conv_c hO9.byr c9
                    have hsy := hky.size
                    go_wp2_with fail
                    go_roundw
                    case rel => exact ⟨p + 1, by omega, by go_num, ((hkx.trans_no hk7).trans hky (fun x hx h => by unfold fromB at h; omega)).trans_no hk9, lox, (hd8.mono (fun x h _ => h.1)).no hk9⟩
                    case measure => simp [intOf]; omega
              · rw [g3] at q1
                clear g3
                go_wp2_with fail
                go_loopw [82] (fun v wy => ∃ t : Nat, t ≤ m.length ∧ v = .int .i64 t ∧ Keeps (fromB wx.heap.size) w7 wy ∧ (0 < m.length → ∃ q cs, a7 = some ⟨q, 0, none⟩ ∧ wx.heap.size ≤ q ∧ wy.heap[q]? = some (.cells cs 5 (0, 0)) ∧ ∀ y, y < m.length → ∃ z, cs[y]? = some (.int .u8 z)))
                  (fun v _ => m.length - (intOf v).toNat)
                case atStart =>
                  refine ⟨0, by omega, rfl, (Keeps.refl _ _).alloc _, fun h0 => ?_⟩
                  rcases hO7 with ⟨_, h, _⟩ | ⟨q, cs, rfl, hB, hb, h1, h2, _, h4⟩
                  · rw [h] at h0; simp at h0
                  · exact ⟨q, cs, rfl, hB, hkL.blk hb (noB_not _), fun y hy => ⟨_, h4 y hy⟩⟩
                case round =>
                  obtain ⟨t, ht, rfl, hky, hcs⟩ := hrel
                  by_cases hlt4 : t < m.length
                  · obtain ⟨q, cs, rfl, hq1, hq2, hq3⟩ := hcs (by omega)
                    obtain ⟨z, hz⟩ := hq3 t hlt4
                    have g1 := blk_cell hq2 hz
                    have g2 := blk_free hq2 t
                    have HQ2 := Lib.hid hq2
                    have HQ3 := Lib.hid hq3
                    clear hq2 hq3 hz hcs
                    go_wp2_with fail
                    go_roundw
                    case rel =>
                      refine ⟨t + 1, by omega, by go_num, hky.setCell _ _ (.inl hq1), fun _ => ⟨q, _, rfl, hq1, heap_setCell_same _ _ _ _ HQ2.out, fun y hy => ?_⟩⟩
                      obtain ⟨z2, hz2⟩ := HQ3.out y hy
                      have hys := (Array.getElem?_eq_some_iff.1 hz2).1
                      rw [Array.getElem?_setIfInBounds]
                      split
                      · rename_i hty; subst hty; rw [if_pos hys]; exact ⟨_, rfl⟩
                      · exact ⟨z2, hz2⟩
                    case measure => simp [intOf]; omega
                  · have : t = m.length := by omega
                    subst this
                    clear hcs
                    have hd8 := hd7.keep hky (fun x h _ h2 => by unfold fromB at h2; omega)
                    have hr := read_s hd8 p
                    rw [inD_true hlt3] at hr
                    simp only [if_true, Int.toNat_natCast, ← HM.out] at hr
                    go_wp2_with fail
                    refine hr.mono ?_
                    rintro e w9 ⟨a9, c9, ⟨rfl, hk9⟩, hO9⟩
                    clear hr
                    have q9 := conv_c hO9.byr c9
                    have hsy := hky.size
                    go_wp2_with fail
                    go_roundw
                    case rel => exact ⟨p + 1, by omega, by go_num, ((hkx.trans_no hk7).trans hky (fun x hx h => by unfold fromB at h; omega)).trans_no hk9, lox, (hd8.mono (fun x h _ => h.1)).no hk9⟩
                    case measure => simp [intOf]; omega
            · have : p = k := by omega
              subst this
              have hEE : (er == 0) = okW p i l := by rw [HER.out, ← HOK.out]; cases ok <;> rfl
              unfold okW inD at hEE
              by_cases h0 : i < 0
              · have d0 : decide (i ≥ 0) = false := decide_eq_false (by omega)
                have d1 : (er == 0) = false := by rw [hEE]; simp; omega
                clear hEE
                go_wp2_with fail
                go_ret
                exact ⟨rfl, hkx⟩
              · have d0 : decide (i ≥ 0) = true := decide_eq_true (by omega)
                by_cases h1 : i < p
                · have d1 : decide (i < p) = true := decide_eq_true (by omega)
                  by_cases h2 : l.length ≤ 100
                  · have d2 : decide ((l.length : Int) ≤ 100) = true := decide_eq_true (by omega)
                    have d3 : (er == 0) = true := by rw [hEE]; simp; omega
                    clear hEE
                    go_wp2_with (go_at_call 11; refine (len_s hd).mono ?_; rintro e w' ⟨rfl, rfl⟩)
                    go_ret
                    exact ⟨rfl, hkx⟩
                  · have d2 : decide ((l.length : Int) ≤ 100) = false := decide_eq_false (by omega)
                    have d3 : (er == 0) = false := by rw [hEE]; simp; omega
                    clear hEE
                    go_wp2_with (go_at_call 11; refine (len_s hd).mono ?_; rintro e w' ⟨rfl, rfl⟩)
                    go_ret
                    exact ⟨rfl, hkx⟩
                · have d1 : decide (i < p) = false := decide_eq_false (by omega)
                  have d3 : (er == 0) = false := by rw [hEE]; simp; omega
                  clear hEE
                  go_wp2_with (go_at_call 11; refine (len_s hd).mono ?_; rintro e w' ⟨rfl, rfl⟩)
                  go_ret
                  exact ⟨rfl, hkx⟩
end Go.Proofs.Yteoafecdlnaecaa
