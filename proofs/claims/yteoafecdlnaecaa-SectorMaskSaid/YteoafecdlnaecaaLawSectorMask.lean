/- SectorMask: just the sectors whose bits are there: the law answers true at every input. No condition. -/
import Derived.Test.YteoafecdlnaecaaSecArg
namespace Go.Proofs.Yteoafecdlnaecaa
open Go.RowKit

/-- Six slices of bytes, by value, in memory under B. -/
structure Six (w : World) (B : Nat) (tx : Nat → Value) (T : Nat → List Int) : Prop where
  at_ : ∀ i, i < 6 → ∃ a c, tx i = .slice a (T i).length c ∧ (T i).length ≤ 9223372036854775807 ∧ ByR w (fun x => x < B) a (T i)
theorem Six.keep {w w1 : World} {B : Nat} {tx : Nat → Value} {T : Nat → List Int} {F : Nat → Prop} (h : Six w B tx T) (hk : Keeps F w w1) (hF : ∀ b, b < B → ¬ F b) : Six w1 B tx T := ⟨fun i hi => by
  obtain ⟨a, c, h1, h2, h3⟩ := h.at_ i hi
  exact ⟨a, c, h1, h2, h3.keep hk hF⟩⟩
def arr6 (tx : Nat → Value) : Array Value := #[tx 0, tx 1, tx 2, tx 3, tx 4, tx 5]
theorem arr6_at (tx : Nat → Value) {i : Nat} (h : i < 6) : (arr6 tx)[i]? = some (tx i) := by
  match i, h with
  | 0, _ => rfl
  | 1, _ => rfl
  | 2, _ => rfl
  | 3, _ => rfl
  | 4, _ => rfl
  | 5, _ => rfl
def nowA (T : Nat → List Int) (i j : Nat) : List Int := if j < i then T j else []
def loA (i j : Nat) : Bool := decide (j < i)
def nowB (T M : Nat → List Int) (i j : Nat) : List Int := if j < i ∧ M j ≠ [] then M j else T j
def loB (M : Nat → List Int) (i j : Nat) : Bool := decide (j < i ∧ M j ≠ [])
def nowC (T M : Nat → List Int) (keep : Int) (j : Nat) : List Int := if M j ≠ [] ∧ pickK keep j = true then M j else T j

set_option maxRecDepth 100000 in
set_option maxHeartbeats 8000000 in
theorem sectorMask_w' (tx mx : Nat → Value) (T M : Nat → List Int) (keep : Int) (w : World) (hT : Six w w.heap.size tx T) (hM : Six w w.heap.size mx M) (hk1 : -9223372036854775808 ≤ keep) (hk2 : keep ≤ 9223372036854775807) :
    Calls Try.prog 5 #[.agg (arr6 tx), .agg (arr6 mx), .int .i64 keep] w (RetK noB (.bool true) w) := by
  have e6 : newN 6 = 6 := by decide
  obtain ⟨wA, hwA⟩ : ∃ wA, wA = (w.alloc (.cells (arr6 tx) 32)).alloc (.cells (arr6 mx) 32) := ⟨_, rfl⟩
  have hkA : Keeps noB w wA := by rw [hwA]; exact ((Keeps.refl noB w).alloc _).alloc _
  have hsA : wA.heap.size = w.heap.size + 2 := by rw [hwA, alloc_size, alloc_size]
  have hbt : wA.heap[w.heap.size]? = some (.cells (arr6 tx) 32 (0, 0)) := by rw [hwA, alloc_old _ _ _ (by rw [alloc_size]; omega)]; exact heap_alloc_new _ _
  have hbm : wA.heap[w.heap.size + 1]? = some (.cells (arr6 mx) 32 (0, 0)) := by rw [hwA, ← alloc_size w (.cells (arr6 tx) 32)]; exact heap_alloc_new _ _
  have hTA := hT.keep hkA (fun b _ => noB_not b)
  have hMA := hM.keep hkA (fun b _ => noB_not b)
  clear hT hM
  go_enter Try.func5, Try.ntmps5
  go_wp2_with fail
  rw [← hwA]
  refine (sectorAlive_c wA).mono ?_
  rintro e w1 ⟨rfl, hk1'⟩
  have hs1 := hk1'.size
  go_wp2_with fail
  refine (new_v 6 (by omega) w1 wA.heap.size hs1).mono ?_
  rintro e w2 ⟨rfl, hk2', hd2⟩
  rw [e6] at hd2
  have hKB : Keeps (fromB wA.heap.size) wA w2 := (hk1'.trans_no hk2').of_no
  have hBt := Lib.hid (show ∀ wr : World, Keeps (fromB wA.heap.size) wA wr → wr.heap[w.heap.size]? = some (.cells (arr6 tx) 32 (0, 0)) from fun wr h => h.blk hbt (by unfold fromB; omega))
  have hBm := Lib.hid (show ∀ wr : World, Keeps (fromB wA.heap.size) wA wr → wr.heap[w.heap.size + 1]? = some (.cells (arr6 mx) 32 (0, 0)) from fun wr h => h.blk hbm (by unfold fromB; omega))
  have hTr := Lib.hid (show ∀ wr : World, Keeps (fromB wA.heap.size) wA wr → Six wr w.heap.size tx T from fun wr h => hTA.keep h (fun b hb => by unfold fromB; omega))
  have hMr := Lib.hid (show ∀ wr : World, Keeps (fromB wA.heap.size) wA wr → Six wr w.heap.size mx M from fun wr h => hMA.keep h (fun b hb => by unfold fromB; omega))
  have fin := Lib.hid (show ∀ wr : World, Keeps (fromB wA.heap.size) wA wr → Keeps noB w wr from fun wr h => hkA.trans h (fun x hx hx2 => by unfold fromB at hx2; omega))
  have HS := Lib.hid hwA
  have HS2 := Lib.hid hsA
  have HE := Lib.hid hd2
  clear hwA hsA hd2 hbt hbm hTA hMA e6
  go_wp2_with fail
  go_loopw [18] (fun i wr => ∃ k : Nat, k ≤ 6 ∧ i = .int .i64 k ∧ Keeps (fromB wA.heap.size) wA wr ∧ (∀ j, j < k → (T j).length ≤ 100 ∧ (M j).length ≤ 100) ∧ Drv wr wA.heap.size (w1.heap.size + 1) w1.heap.size 6 (nowA T k) noBy (loA k))
    (fun i _ => 6 - (intOf i).toNat)
  case atStart => exact ⟨0, by omega, rfl, hKB, fun j h => by omega, HE.out.congr (fun i hi => ⟨by simp [nowA, noBy], rfl, by simp [loA, noLo]⟩)⟩
  case round =>
    obtain ⟨k, hk, rfl, hkp, hlen, hd⟩ := hrel
    have HL := Lib.hid hlen
    clear hlen
    have hsz := hkp.size
    by_cases hlt : k < 6
    · obtain ⟨ta, tc, ht, htl, hT1⟩ := (hTr.out wr hkp).at_ k hlt
      obtain ⟨ma, mc, hm, hml, hM1⟩ := (hMr.out wr hkp).at_ k hlt
      have c1 := blk_cell (hBt.out wr hkp) (arr6_at tx hlt)
      have c2 := blk_cell (hBm.out wr hkp) (arr6_at mx hlt)
      have c3 := blk_cell (hBt.out _ (hkp.alloc (.cells #[] 5))) (arr6_at tx hlt)
      rw [ht] at c1 c3
      rw [hm] at c2
      have HT := Lib.hid ht
      have HM := Lib.hid hm
      clear ht hm
      by_cases h1 : (T k).length ≤ 100
      · have d1 : decide (((T k).length : Int) > 100) = false := decide_eq_false (by omega)
        by_cases h2 : (M k).length ≤ 100
        · have d2 : decide (((M k).length : Int) > 100) = false := decide_eq_false (by omega)
          have hT2 := hT1.keep ((Keeps.refl noB wr).alloc (.cells #[] 5)) (fun b _ => noB_not b)
          go_wp2_with (at_builtin; refine wpList_append_by rfl _ _ rfl wr.heap.size _ _ _ rfl (own_bytes0 wr) ta (T k) tc _ rfl hT2 ?c1 ?c2 ?_)
          case c1 => omega
          case c2 => rw [alloc_size]; omega
          · intro v' w3 hown' hgrow
            obtain ⟨hk3, a3, c3, rfl, hO3⟩ := copy_own (by simpa using hown') hgrow
            clear hown' hgrow
            have hW := write_v (hd.no hk3) (by have := hk3.size; omega) k _ a3 (T k) c3 (by omega) hO3.byr
            rw [okW_true hlt h1] at hW
            simp only [if_true, Int.toNat_natCast] at hW
            go_wp2_with fail
            refine hW.mono ?_
            rintro e w4 ⟨⟨rfl, hk4⟩, hd4⟩
            clear hW
            go_wp2_with fail
            go_roundw
            case rel =>
              refine ⟨k + 1, by omega, by go_num, (hkp.trans_no hk3).trans hk4 (fun _ _ h => h), fun j hj => ?_, hd4.congr (fun i hi => ?_)⟩
              · by_cases e : j = k
                · subst e; exact ⟨h1, h2⟩
                · exact HL.out j (by omega)
              · unfold nowA loA up
                by_cases e : i = k
                · subst e; simp
                · refine ⟨?_, rfl, ?_⟩
                  · rw [if_neg e]; congr 1; apply propext; omega
                  · rw [if_neg e]; congr 1; apply propext; omega
            case measure => simp [intOf]; omega
        · have d2 : decide (((M k).length : Int) > 100) = true := decide_eq_true (by omega)
          go_wp2_with fail
          go_ret
          exact ⟨rfl, fin.out _ hkp⟩
      · have d1 : decide (((T k).length : Int) > 100) = true := decide_eq_true (by omega)
        go_wp2_with fail
        go_ret
        exact ⟨rfl, fin.out _ hkp⟩
    · have : k = 6 := by omega
      subst this
      go_wp2_with fail
      refine (sync_v hd).mono ?_
      rintro e w5 ⟨⟨rfl, hk5⟩, hd5⟩
      have hK5 := hkp.trans hk5 (fun _ _ h => h)
      have HD5 := Lib.hid (hd5.congr (now' := nowB T M 0) (st' := T) (lo' := loB M 0) (fun i hi => ⟨by simp [nowB, aftN, nowA, hi], by simp [aftS, nowA, loA, hi], by simp [loB]⟩))
      clear hd hd5 hkp hk5
      go_wp2_with fail
      go_loopw [44] (fun i wr => ∃ k : Nat, k ≤ 6 ∧ i = .int .i64 k ∧ Keeps (fromB wA.heap.size) wA wr ∧ Drv wr wA.heap.size (w1.heap.size + 1) w1.heap.size 6 (nowB T M k) T (loB M k))
        (fun i _ => 6 - (intOf i).toNat)
      case atStart => exact ⟨0, by omega, rfl, hK5, HD5.out⟩
      case round =>
        clear hsz hK5 HD5
        obtain ⟨k, hk, rfl, hkp, hd⟩ := hrel
        have hsz := hkp.size
        by_cases hlt : k < 6
        · obtain ⟨ma, mc, hm, hml, hM1⟩ := (hMr.out wr hkp).at_ k hlt
          have c2 := blk_cell (hBm.out wr hkp) (arr6_at mx hlt)
          have c3 := blk_cell (hBm.out _ (hkp.alloc (.cells #[] 5))) (arr6_at mx hlt)
          rw [hm] at c2 c3
          have h2 := (HL.out k hlt).2
          have HM := Lib.hid hm
          clear hm
          by_cases h0 : (M k).length > 0
          · have d2 : decide (((M k).length : Int) > 0) = true := decide_eq_true (by omega)
            have hM2 := hM1.keep ((Keeps.refl noB wr).alloc (.cells #[] 5)) (fun b _ => noB_not b)
            go_wp2_with (at_builtin; refine wpList_append_by rfl _ _ rfl wr.heap.size _ _ _ rfl (own_bytes0 wr) ma (M k) mc _ rfl hM2 ?c1 ?c2 ?_)
            case c1 => omega
            case c2 => rw [alloc_size]; omega
            · intro v' w3 hown' hgrow
              obtain ⟨hk3, a3, c3, rfl, hO3⟩ := copy_own (by simpa using hown') hgrow
              clear hown' hgrow
              have hW := write_v (hd.no hk3) (by have := hk3.size; omega) k _ a3 (M k) c3 (by omega) hO3.byr
              rw [okW_true hlt h2] at hW
              simp only [if_true, Int.toNat_natCast] at hW
              go_wp2_with fail
              refine hW.mono ?_
              rintro e w4 ⟨⟨rfl, hk4⟩, hd4⟩
              clear hW
              go_wp2_with fail
              go_roundw
              case rel =>
                refine ⟨k + 1, by omega, by go_num, (hkp.trans_no hk3).trans hk4 (fun _ _ h => h), hd4.congr (fun i hi => ?_)⟩
                have hne : M k ≠ [] := fun e => by rw [e] at h0; simp at h0
                unfold nowB loB up
                by_cases e : i = k
                · subst e; simp [hne]
                · refine ⟨?_, rfl, ?_⟩
                  · rw [if_neg e]; simp only [show (i < k + 1) = (i < k) from propext (by omega)]
                  · rw [if_neg e]; simp only [show (i < k + 1) = (i < k) from propext (by omega)]
              case measure => simp [intOf]; omega
          · have d2 : decide (((M k).length : Int) > 0) = false := decide_eq_false (by omega)
            go_wp2_with fail
            go_roundw
            case rel =>
              refine ⟨k + 1, by omega, by go_num, hkp, hd.congr (fun i hi => ?_)⟩
              have he : M k = [] := List.length_eq_zero_iff.1 (by omega)
              unfold nowB loB
              by_cases e : i = k
              · subst e; simp [he]
              · simp only [show (i < k + 1) = (i < k) from propext (by omega), and_self]
            case measure => simp [intOf]; omega
        · have : k = 6 := by omega
          subst this
          go_wp2_with fail
          refine (crash_v hd keep).mono ?_
          rintro e w6 ⟨⟨rfl, hk6⟩, hd6⟩
          have hK6 := hkp.trans hk6 (fun _ _ h => h)
          have HD6 := Lib.hid (hd6.congr (now' := nowC T M keep) (st' := nowC T M keep) (lo' := fun _ => false) (fun i hi => by
            unfold nowC nowB loB aftN aftS
            by_cases e : M i = []
            · simp [e]
            · cases hp : pickK keep i <;> simp [e, hi]))
          clear hd hd6 hkp hk6
          go_wp2_with fail
          go_loopw [10, 64] (fun bt i wr => ∃ k : Nat, k ≤ 6 ∧ i = .int .i64 k ∧ bt = .int .i64 (2 ^ k) ∧ Keeps (fromB wA.heap.size) wA wr ∧ Drv wr wA.heap.size (w1.heap.size + 1) w1.heap.size 6 (nowC T M keep) (nowC T M keep) (fun _ => false))
            (fun _ i _ => 6 - (intOf i).toNat)
          case atStart => exact ⟨0, by omega, rfl, rfl, hK6, HD6.out⟩
          case round =>
            clear hsz hK6 HD6
            obtain ⟨k, hk, rfl, rfl, hkp, hd⟩ := hrel
            have hsz := hkp.size
            by_cases hlt : k < 6
            · have hr := read_v hd k
              rw [inD_true hlt] at hr
              simp only [if_true, Int.toNat_natCast] at hr
              obtain ⟨ta, tc, ht, htl, hT1⟩ := (hTr.out wr hkp).at_ k hlt
              obtain ⟨ma, mc, hm, hml, hM1⟩ := (hMr.out wr hkp).at_ k hlt
              obtain ⟨bb, hbb⟩ : ∃ bb : Int, bb = 2 ^ k := ⟨_, rfl⟩
              have hb1 : 1 ≤ bb := by rw [hbb]; exact Int.pow_pos (by decide)
              have hb2 : bb ≤ 32 := by
                have := Nat.pow_le_pow_right (n := 2) (by decide) (show k ≤ 5 by omega)
                have h2 : ((2 ^ k : Nat) : Int) = (2 : Int) ^ k := by simp
                rw [hbb, ← h2]; omega
              have hbn : bb * 2 = 2 ^ (k + 1) := by rw [hbb, Int.pow_succ]
              have hbit : (bits .and .i64 keep bb != 0) = pickK keep k := by rw [hbb, and_bit keep k hlt, pick_bit keep hk1 hk2 k hlt]
              rw [← hbb]
              have HBB := Lib.hid hbb
              have HBN := Lib.hid hbn
              clear hbb hbn
              go_wp2_with fail
              refine hr.mono ?_
              rintro e w7 ⟨a7, c7, ⟨rfl, hk7⟩, hO⟩
              clear hr
              have c1 := blk_cell (hBt.out _ (hkp.trans_no hk7)) (arr6_at tx hlt)
              have c2 := blk_cell (hBm.out _ (hkp.trans_no hk7)) (arr6_at mx hlt)
              rw [ht] at c1
              rw [hm] at c2
              have HT := Lib.hid ht
              have HM := Lib.hid hm
              clear ht hm
              have s1 := conv_c (hT1.keep hk7 (fun b _ => noB_not b)) tc
              have s2 := conv_c (hM1.keep hk7 (fun b _ => noB_not b)) mc
              have s3 := conv_c hO.byr c7
              by_cases h0 : (M k).length > 0
              · have d2 : decide (((M k).length : Int) > 0) = true := decide_eq_true (by omega)
                have hne : M k ≠ [] := fun e => by rw [e] at h0; simp at h0
                cases hp : pickK keep k
                · rw [hp] at hbit
                  have en : nowC T M keep k = T k := by unfold nowC; simp [hp]
                  rw [en] at s3
                  rw [en]
                  have HE1 := Lib.hid en
                  clear en
                  go_wp2_with fail
                  go_roundw
                  case rel => exact ⟨k + 1, by omega, by go_num, by rw [← HBN.out], hkp.trans_no hk7, hd.no hk7⟩
                  case measure => simp [intOf]; omega
                · rw [hp] at hbit
                  have en : nowC T M keep k = M k := by unfold nowC; simp [hp, hne]
                  rw [en] at s3
                  rw [en]
                  have HE1 := Lib.hid en
                  clear en
                  go_wp2_with fail
                  go_roundw
                  case rel => exact ⟨k + 1, by omega, by go_num, by rw [← HBN.out], hkp.trans_no hk7, hd.no hk7⟩
                  case measure => simp [intOf]; omega
              · have d2 : decide (((M k).length : Int) > 0) = false := decide_eq_false (by omega)
                have en : nowC T M keep k = T k := by unfold nowC; rw [if_neg]; rintro ⟨h, _⟩; exact h (List.length_eq_zero_iff.1 (by omega))
                rw [en] at s3
                rw [en]
                have HE1 := Lib.hid en
                clear en
                go_wp2_with fail
                go_roundw
                case rel => exact ⟨k + 1, by omega, by go_num, by rw [← HBN.out], hkp.trans_no hk7, hd.no hk7⟩
                case measure => simp [intOf]; omega
            · have : k = 6 := by omega
              subst this
              have hlo := loose_v hd
              rw [show looN (fun _ => false) 6 = [] by decide] at hlo
              go_wp2_with fail
              refine hlo.mono ?_
              rintro e w7 ⟨v, ⟨rfl, hk7⟩, hO⟩
              obtain ⟨a, c, rfl⟩ := hO.slice
              go_wp2_with fail
              go_ret
              exact ⟨rfl, fin.out _ (hkp.trans_no hk7)⟩

theorem six_mk {w : World} {v0 v1 v2 v3 v4 v5 : Value} (h0 : IsBy w v0) (h1 : IsBy w v1) (h2 : IsBy w v2) (h3 : IsBy w v3) (h4 : IsBy w v4) (h5 : IsBy w v5) : ∃ T, Six w w.heap.size (pick6 v0 v1 v2 v3 v4 v5) T := by
  obtain ⟨a0, l0, c0, e0, b0, r0, _⟩ := h0.read
  obtain ⟨a1, l1, c1, e1, b1, r1, _⟩ := h1.read
  obtain ⟨a2, l2, c2, e2, b2, r2, _⟩ := h2.read
  obtain ⟨a3, l3, c3, e3, b3, r3, _⟩ := h3.read
  obtain ⟨a4, l4, c4, e4, b4, r4, _⟩ := h4.read
  obtain ⟨a5, l5, c5, e5, b5, r5, _⟩ := h5.read
  refine ⟨pick6 l0 l1 l2 l3 l4 l5, ⟨fun i hi => ?_⟩⟩
  match i, hi with
  | 0, _ => exact ⟨a0, c0, e0, b0, r0⟩
  | 1, _ => exact ⟨a1, c1, e1, b1, r1⟩
  | 2, _ => exact ⟨a2, c2, e2, b2, r2⟩
  | 3, _ => exact ⟨a3, c3, e3, b3, r3⟩
  | 4, _ => exact ⟨a4, c4, e4, b4, r4⟩
  | 5, _ => exact ⟨a5, c5, e5, b5, r5⟩
theorem sectorMask_w (v0 v1 v2 v3 v4 v5 u0 u1 u2 u3 u4 u5 : Value) (keep : Int) (w : World) (h0 : IsBy w v0) (h1 : IsBy w v1) (h2 : IsBy w v2) (h3 : IsBy w v3) (h4 : IsBy w v4) (h5 : IsBy w v5)
    (k0 : IsBy w u0) (k1 : IsBy w u1) (k2 : IsBy w u2) (k3 : IsBy w u3) (k4 : IsBy w u4) (k5 : IsBy w u5) (hb : -9223372036854775808 ≤ keep ∧ keep ≤ 9223372036854775807) :
    Calls Try.prog 5 #[.agg #[v0, v1, v2, v3, v4, v5], .agg #[u0, u1, u2, u3, u4, u5], .int .i64 keep] w (RetK noB (.bool true) w) := by
  obtain ⟨T, hT⟩ := six_mk h0 h1 h2 h3 h4 h5
  obtain ⟨M, hM⟩ := six_mk k0 k1 k2 k3 k4 k5
  exact sectorMask_w' (pick6 v0 v1 v2 v3 v4 v5) (pick6 u0 u1 u2 u3 u4 u5) T M keep w hT hM hb.1 hb.2
end Go.Proofs.Yteoafecdlnaecaa
