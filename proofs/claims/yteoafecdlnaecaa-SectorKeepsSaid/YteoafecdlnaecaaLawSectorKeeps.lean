/- SectorKeeps: what is stable stays: the law answers true at every input. No condition. -/
import Derived.Test.YteoafecdlnaecaaSecAll
import Derived.Test.YteoafecdlnaecaaSecArg
namespace Go.Proofs.Yteoafecdlnaecaa
open Go.RowKit

/-- What an act is. -/
def QAct (w : World) (f : Nat → Value) : Prop := IsI (f 0) ∧ IsI (f 1) ∧ IsByS w (f 2)
def sarr (f : Nat → List Int) : Array Value := #[.string (strOf (f 0)), .string (strOf (f 1)), .string (strOf (f 2)), .string (strOf (f 3)), .string (strOf (f 4)), .string (strOf (f 5))]
theorem sarr_at (f : Nat → List Int) {i : Nat} (h : i < 6) : (sarr f)[i]? = some (.string (strOf (f i))) := by
  match i, h with
  | 0, _ => rfl
  | 1, _ => rfl
  | 2, _ => rfl
  | 3, _ => rfl
  | 4, _ => rfl
  | 5, _ => rfl
theorem sarr_set (f : Nat → List Int) {i : Nat} (h : i < 6) (l : List Int) : (sarr f).setIfInBounds i (.string (strOf l)) = sarr (up f i l) := by
  match i, h with
  | 0, _ => rfl
  | 1, _ => rfl
  | 2, _ => rfl
  | 3, _ => rfl
  | 4, _ => rfl
  | 5, _ => rfl
theorem built56 : Try.prog.built 56 [] = some (sarr noBy) := by kernel_rfl
theorem info56 : (Try.prog.info? 56).map (fun i => (i.zero, i.size)) = some (some (.agg (sarr noBy)), (sarr noBy).size) := by kernel_rfl
theorem size56' : (Try.prog.info? 56).map (·.size) = some 6 := by kernel_rfl
theorem size56 (f : Nat → List Int) : (Try.prog.info? 56).map (·.size) = some (sarr f).size := size56'
theorem sarr_same (f h : Nat → List Int) : (sarr f).size = (sarr h).size := rfl
theorem sarr_one (f : Nat → List Int) : (sarr f).all (·.oneCell') = true := by simp [sarr, Value.oneCell']
theorem Keeps.setRow {F : Nat → Prop} {w w1 : World} (h : Keeps F w w1) (g : Nat) (cs : Array Value) (hg : F g ∨ w.heap.size ≤ g) : Keeps F w (w1.setRow g cs) :=
  ⟨h.os, h.tape, h.output, by rw [setRow_size]; exact h.size, fun b hb hF => by
    rw [setRow_other _ _ _ _ (fun e => by subst e; rcases hg with hg | hg; exact hF hg; omega)]; exact h.block b hb hF⟩

theorem DrvS.drew1 {w : World} {S : Nat → Prop} {b g n : Nat} {now st : Nat → List Int} {lo : Nat → Bool} (h : DrvS w S b g n now st lo) : DrvS w.drew S b g n now st lo := h.no ((Keeps.refl noB w).drew)
theorem ByR.drew1 {w : World} {D : Nat → Prop} {a : Option Addr} {l : List Int} (h : ByR w D a l) : ByR w.drew D a l := h.keep ((Keeps.refl noB w).drew) (fun b _ => noB_not b)

set_option maxRecDepth 100000 in
set_option maxHeartbeats 8000000 in
theorem sectorKeeps_w (a : Option Addr) (len cap : Nat) (g : Nat → Nat → Value) (keep : Int) (w : World) (hl : len ≤ maxLen) (hr : RdS w 3 a len g) (hq : ∀ k, k < len → QAct w (g k)) (_ : -9223372036854775808 ≤ keep ∧ keep ≤ 9223372036854775807) :
    Calls Try.prog 7 #[.slice a len cap, .int .i64 keep] w (RetK noB (.bool true) w) := by
  unfold maxLen at hl
  have e6 : newN 6 = 6 := by decide
  go_enter Try.func7, Try.ntmps7
  go_wp2_with (go_at_call 10; refine (sectorAlive_c w).mono ?_; rintro e w1 ⟨rfl, hk1⟩)
  · go_ret
    exact ⟨rfl, hk1⟩
  have hs1 := hk1.size
  refine (new_v 6 (by omega) w1 w1.heap.size (Nat.le_refl _)).mono ?_
  rintro e w2 ⟨rfl, hk2, hd2⟩
  have hs2 := hk2.size
  rw [e6] at hd2
  go_wp2_with (with_reducible refine wpList_var0 56 20 6 (sarr noBy) rfl rfl rfl rfl rfl rfl rfl rfl rfl built56 info56 (sarr_one _) (by decide) (by simp) (by simp) ?_)
  have hsarr : (#[Value.string { data := #[] }, Value.string { data := #[] }, Value.string { data := #[] }, Value.string { data := #[] }, Value.string { data := #[] }, Value.string { data := #[] }] : Array Value) = sarr noBy := rfl
  rw [hsarr]
  clear hsarr
  obtain ⟨S, hS⟩ : ∃ S : Nat → Prop, S = fun x => w.heap.size ≤ x ∧ x ≠ w2.heap.size ∧ x ≠ w2.heap.size + 1 := ⟨_, rfl⟩
  have hSw : ∀ x, S x → w.heap.size ≤ x := fun x h => by rw [hS] at h; exact h.1
  have hS1 : ¬ S w2.heap.size := fun h => by rw [hS] at h; exact h.2.1 rfl
  have hS2 : ¬ S (w2.heap.size + 1) := fun h => by rw [hS] at h; exact h.2.2 rfl
  have hSb : ∀ x, w2.heap.size + 2 ≤ x → S x := fun x h => by rw [hS]; exact ⟨by omega, by omega, by omega⟩
  have hdS : DrvS w2 S (w1.heap.size + 1) w1.heap.size 6 noBy noBy noLo := DrvS.mono hd2 (fun x h hx => by unfold fromB at h; rw [hS]; exact ⟨by omega, by omega, by omega⟩)
  have hk0 : Keeps noB w2 ((w2.alloc (.cells (sarr noBy) 56)).alloc (.cells (sarr noBy) 56)) := ((Keeps.refl _ _).alloc _).alloc _
  have hd0 := hdS.no hk0
  have hb1 : ((w2.alloc (.cells (sarr noBy) 56)).alloc (.cells (sarr noBy) 56)).heap[w2.heap.size]? = some (.cells (sarr noBy) 56 (0, 0)) := by rw [alloc_old _ _ _ (by rw [alloc_size]; omega)]; exact heap_alloc_new _ _
  have hb2 : ((w2.alloc (.cells (sarr noBy) 56)).alloc (.cells (sarr noBy) 56)).heap[w2.heap.size + 1]? = some (.cells (sarr noBy) 56 (0, 0)) := by rw [← alloc_size w2 (.cells (sarr noBy) 56)]; exact heap_alloc_new _ _
  have hkw0 : Keeps noB w ((w2.alloc (.cells (sarr noBy) 56)).alloc (.cells (sarr noBy) 56)) := (hk1.trans_no hk2).trans_no hk0
  have HSw := Lib.hid hSw
  have HS1 := Lib.hid hS1
  have HS2 := Lib.hid hS2
  have HSb := Lib.hid hSb
  have HQ := Lib.hid hq
  clear hSw hS1 hS2 hSb hS hd2 hdS hk0 e6 hk1 hk2 hq
  generalize (w2.alloc (.cells (sarr noBy) 56)).alloc (.cells (sarr noBy) 56) = w3 at *
  go_loopw [24] (fun i wr => ∃ k : Nat, k ≤ len ∧ i = .int .i64 k ∧ Keeps noB w wr ∧ ∃ now st lo, DrvS wr S (w1.heap.size + 1) w1.heap.size 6 now st lo ∧ wr.heap[w2.heap.size]? = some (.cells (sarr st) 56 (0, 0)) ∧ wr.heap[w2.heap.size + 1]? = some (.cells (sarr now) 56 (0, 0)) ∧ ∀ i, i < 6 → lo i = false → now i = st i)
    (fun i _ => len - (intOf i).toNat)
  case atStart => exact ⟨0, by omega, rfl, hkw0, _, _, _, hd0, hb1, hb2, fun i _ _ => rfl⟩
  case round =>
    clear hd0 hb1 hb2 hkw0
    obtain ⟨k, hk, rfl, hkp, now, st, lo, hd, hb1, hb2, hinv⟩ := hrel
    have HI := Lib.hid hinv
    clear hinv
    have hsz := hkp.size
    have hl2 := lt_of_blk hb2
    by_cases hlt : k < len
    · obtain ⟨b, off, rfl, hb, hc⟩ := (hr.keep hkp) k hlt
      obtain ⟨⟨n0, e0, l0, m0⟩, ⟨n1, e1, l1, m1⟩, e2⟩ := HQ.out k hlt
      obtain ⟨da, dl, dc, e2, hdl, hdr, _⟩ := e2.read
      have c0 : wr.cell? ⟨b, off + k * 3, none⟩ = some (.int .i64 n0) := by rw [← e0]; exact hc 0 (by omega)
      have c1 : wr.cell? ⟨b, off + k * 3 + 1, none⟩ = some (.int .i64 n1) := by rw [← e1]; exact hc 1 (by omega)
      have c2 : wr.cell? ⟨b, off + k * 3 + 2, none⟩ = some (.slice da dl.length dc) := by rw [← e2]; exact hc 2 (by omega)
      clear e0 e1 e2 hc
      have hdr1 := hdr.keep hkp (fun b _ => noB_not b)
      have hkA : Keeps noB wr (wr.alloc (.cells #[.int .i64 n0, .int .i64 n1, .slice da dl.length dc] 44)) := (Keeps.refl _ _).alloc _
      have hA := heap_alloc_new wr (.cells #[.int .i64 n0, .int .i64 n1, .slice da dl.length dc] 44)
      have hsA := alloc_size wr (.cells #[.int .i64 n0, .int .i64 n1, .slice da dl.length dc] 44)
      have hdA := hd.no hkA
      have hb1A := hkA.blk hb1 (noB_not _)
      have hb2A := hkA.blk hb2 (noB_not _)
      by_cases h1 : n0 = 1
      · subst h1
        clear hA hd hb1 hb2
        go_wp2_with fail
        generalize wr.alloc (.cells #[.int .i64 1, .int .i64 n1, .slice da dl.length dc] 44) = wA at *
        refine (sync_s hdA).mono ?_
        rintro e w5 ⟨⟨rfl, hk5⟩, hd5⟩
        have hb15 := hk5.blk hb1A HS1.out
        have hb25 := hk5.blk hb2A HS2.out
        have hd6 : DrvS w5 S (w1.heap.size + 1) w1.heap.size 6 now now (fun _ => false) := hd5.congr (fun i hi => by
          have := HI.out i hi
          unfold aftN aftS
          cases hlo : lo i
          · simp [this hlo]
          · simp)
        have hs5 := hk5.size
        clear hd5 hb1A hb2A hdA
        go_wp2_with (first
          | with_reducible refine wpList_load_row rfl 56 _ rfl (w2.heap.size + 1) rfl 56 _ (0, 0) _ hb25 Try.underlying56 rfl (size56 now) ?_
          | with_reducible refine wpList_store_row rfl 56 _ _ rfl w2.heap.size (sarr now) rfl rfl 56 (sarr st) hb15 (size56 now) (sarr_same _ _) (sarr_one _) ?_)
        have hk6 : Keeps (oneB w2.heap.size) w5 (w5.setRow w2.heap.size (sarr now)) := (Keeps.refl _ _).setRow _ _ (.inl rfl)
        go_roundw
        case rel =>
          refine ⟨k + 1, by omega, by go_num, ?_, now, now, _, hd6.keep hk6 (fun x hx _ h => by unfold oneB at h; subst h; exact HS1.out hx), setRow_heap _ _ _ _ _ _ hb15, hk6.blk hb25 (fun h => by unfold oneB at h; omega), fun _ _ _ => rfl⟩
          exact ((hkp.trans_no hkA).trans hk5 (fun x hx h => by have := HSw.out x h; omega)).trans hk6 (fun x hx h => by unfold oneB at h; omega)
        case measure => simp [intOf]; omega
      · have hne : (n0 == 1) = false := by simp [h1]
        have hd' := hd
        clear hd hb1 hb2
        go_wp2_with fail
        generalize wr.alloc (.cells #[.int .i64 n0, .int .i64 n1, .slice da dl.length dc] 44) = wA at *
        have a1 := blk_cell hA (i := 1) rfl
        have a2 := blk_cell hA (i := 2) rfl
        have hdrA := hdr1.keep hkA (fun b _ => noB_not b)
        have hkB : Keeps noB wA (wA.alloc (.cells #[] 5)).drew := ((Keeps.refl noB wA).alloc _).drew
        have hown0 : ((wA.alloc (.cells #[] 5)).drew).ownsRow (wr.heap.size + 1) 5 1 (.slice (some ⟨wr.heap.size + 1, 0, none⟩) 0 0) 0 [] := by rw [← hsA]; exact own_keep_no (own_bytes0 wA) ((Keeps.refl noB _).drew)
        have hby0 := hdrA.keep hkB (fun b _ => noB_not b)
        have hsB : wr.heap.size + 1 ≤ ((wA.alloc (.cells #[] 5)).drew).heap.size := by rw [← hsA]; exact hkB.size
        have hl3 : w2.heap.size + 1 < wr.heap.size := hl2
        obtain ⟨S', hS'⟩ : ∃ S' : Nat → Prop, S' = fun x => S x ∧ x ≠ wr.heap.size := ⟨_, rfl⟩
        have hdA' : DrvS wA S' (w1.heap.size + 1) w1.heap.size 6 now st lo := (hd'.mono (fun x h hx => by rw [hS']; exact ⟨h, by omega⟩)).no hkA
        have hSS : ∀ x, S' x → S x := fun x h => by rw [hS'] at h; exact h.1
        have hSn : ¬ S' wr.heap.size := fun h => by rw [hS'] at h; exact h.2 rfl
        have hSm : ∀ x, wr.heap.size + 1 ≤ x → S' x := fun x h => by rw [hS']; exact ⟨HSb.out x (by omega), by omega⟩
        have HSS := Lib.hid hSS
        have HSn := Lib.hid hSn
        have HSm := Lib.hid hSm
        clear hSS hSn hSm hS' hd' hdA
        cases hok : okW 6 n1 dl
        · go_region_law (first
            | (refine step_append_by rfl _ _ rfl (wr.heap.size + 1) _ _ _ rfl hown0 da dl dc _ rfl hby0 (by omega) hsB ?_; intro v' w4 g1 g2; have hk4 : Keeps noB wA w4 := hkB.own hown0 (by rw [hsA]; exact Nat.le_refl _) g2; have b1 := blk_cell (hk4.blk hA (noB_not _)) (i := 1) rfl; obtain ⟨a4, c4, rfl, hO4⟩ := ByO.of_own (l := dl) (by simpa using g1); clear g1 g2; have hW := write_s (hdA'.no hk4) (fun x hx => HSm.out x (by have := hk4.size; omega)) n1 _ a4 dl c4 hdl hO4.byr; rw [hok] at hW; simp only [Bool.false_eq_true, if_false] at hW)
            | (go_simp; go_at_call 12; refine hW.mono ?_; rintro e w5 ⟨⟨rfl, hk5⟩, hd5⟩))
          all_goals go_wp2_with fail
          all_goals
            go_roundw
            case rel =>
              exact ⟨k + 1, by omega, by go_num, ((hkp.trans_no hkA).trans_no hk4).trans hk5 (fun x hx h => by have := HSw.out x (HSS.out x h); omega), now, st, lo, hd5.mono (fun x h _ => HSS.out x h), hk5.blk (hk4.blk hb1A (noB_not _)) (fun h => HS1.out (HSS.out _ h)), hk5.blk (hk4.blk hb2A (noB_not _)) (fun h => HS2.out (HSS.out _ h)), HI.out⟩
            case measure => simp [intOf]; omega
        · obtain ⟨j, rfl, hj, hl100⟩ := okW_open hok
          go_region_law (first
            | (refine step_append_by rfl _ _ rfl (wr.heap.size + 1) _ _ _ rfl hown0 da dl dc _ rfl hby0 (by omega) hsB ?_; intro v' w4 g1 g2; have hk4 : Keeps noB wA w4 := hkB.own hown0 (by rw [hsA]; exact Nat.le_refl _) g2; have b1 := blk_cell (hk4.blk hA (noB_not _)) (i := 1) rfl; obtain ⟨a4, c4, rfl, hO4⟩ := ByO.of_own (l := dl) (by simpa using g1); clear g1 g2; have hW := write_s (hdA'.no hk4) (fun x hx => HSm.out x (by have := hk4.size; omega)) j _ a4 dl c4 hdl hO4.byr; rw [hok] at hW; simp only [if_true, Int.toNat_natCast] at hW)
            | (go_simp; go_at_call 12; refine hW.mono ?_; rintro e w5 ⟨⟨rfl, hk5⟩, hd5⟩))
          all_goals
            have hA5 := hk5.blk (hk4.blk hA (noB_not _)) HSn.out
            have b25 := hk5.blk (hk4.blk hb2A (noB_not _)) (fun h => HS2.out (HSS.out _ h))
            have q1 := blk_cell hA5 (i := 1) rfl
            have q2 := blk_cell hA5 (i := 2) rfl
            have q3 := blk_cell b25 (sarr_at now hj)
            have q4 := blk_free b25 j
            have q5 := conv_c ((hdrA.keep hk4 (fun b _ => noB_not b)).keep hk5 (fun b hb h => by have := HSw.out b (HSS.out b h); omega)) dc
            have HB25 := Lib.hid b25
            clear hA5 b25
            go_wp2_with fail
            have hk6 := ((Keeps.refl (oneB (w2.heap.size + 1)) w5).set1 j (.string (strOf dl)))
            go_roundw
            case rel =>
              refine ⟨k + 1, by omega, by go_num, (((hkp.trans_no hkA).trans_no hk4).trans hk5 (fun x hx h => by have := HSw.out x (HSS.out x h); omega)).trans hk6 (fun x hx h => by unfold oneB at h; omega), up now j dl, st, up lo j true, (hd5.mono (fun x h _ => HSS.out x h)).keep hk6 (fun x hx _ h => by unfold oneB at h; subst h; exact HS2.out hx), hk6.blk (hk5.blk (hk4.blk hb1A (noB_not _)) (fun h => HS1.out (HSS.out _ h))) (fun h => by unfold oneB at h; omega), ?_, fun i hi hlo => ?_⟩
              · rw [← sarr_set now hj dl]
                exact heap_setCell_same _ _ _ _ HB25.out
              · unfold up at hlo ⊢
                by_cases e : i = j
                · subst e; simp at hlo
                · rw [if_neg e] at hlo ⊢
                  exact HI.out i hi hlo
            case measure => simp [intOf]; omega
    · have : k = len := by omega
      subst this
      clear hr HQ
      go_wp2_with fail
      refine (crash_s hd keep).mono ?_
      rintro e w5 ⟨⟨rfl, hk5⟩, hd5⟩
      have hb15 := hk5.blk hb1 HS1.out
      have hb25 := hk5.blk hb2 HS2.out
      obtain ⟨fin, hfin⟩ : ∃ f : Nat → List Int, f = aftN (pickK keep) now st lo := ⟨_, rfl⟩
      have hd6 : DrvS w5 S (w1.heap.size + 1) w1.heap.size 6 fin fin (fun _ => false) := hd5.congr (fun i hi => by
        have := HI.out i hi
        rw [hfin]
        unfold aftN aftS
        cases hlo : lo i
        · simp [this hlo]
        · cases pickK keep i <;> simp)
      have HF := Lib.hid (show ∀ i, i < 6 → fin i = st i ∨ fin i = now i from fun i _ => by
        rw [hfin]; unfold aftN
        split
        · exact .inl rfl
        · exact .inr rfl)
      have hK5 := hkp.trans hk5 (G := S) (fun x hx h => by have := HSw.out x h; omega)
      clear hd5 hfin hd hkp hk5 hb1 hb2 hl2 hsz
      go_wp2_with fail
      go_loopw [53] (fun i wr => ∃ k : Nat, k ≤ 6 ∧ i = .int .i64 k ∧ Keeps noB w5 wr)
        (fun i _ => 6 - (intOf i).toNat)
      case atStart => exact ⟨0, by omega, rfl, Keeps.refl _ _⟩
      case round =>
        obtain ⟨i, hi, rfl, hkq⟩ := hrel
        have hd7 := hd6.no hkq
        by_cases hlt : i < 6
        · have hr := read_s hd7 i
          rw [inD_true hlt] at hr
          simp only [if_true, Int.toNat_natCast] at hr
          go_wp2_with fail
          refine hr.mono ?_
          rintro e w7 ⟨a7, c7, ⟨rfl, hk7⟩, hO7⟩
          clear hr
          have hk57 := hkq.trans_no hk7
          have q1 := blk_cell (hk57.blk hb15 (noB_not _)) (sarr_at st hlt)
          have q2 := blk_cell (hk57.blk hb25 (noB_not _)) (sarr_at now hlt)
          have q3 : ∀ m, (convert 22 9 (.slice a7 (fin i).length c7)).run Try.prog (w7.drewN m) = .ok (.string (strOf (fin i))) (w7.drewN m) := fun m => conv_c (hO7.byr.keep ((Keeps.refl noB w7).drewN m) (fun b _ => noB_not b)) c7
          rcases HF.out i hlt with hf | hf
          · rw [hf] at q3
            rw [hf]
            have HFF := Lib.hid hf
            clear hf
            go_wp2_with fail
            go_quiet (fail)
            go_wp2_with fail
            go_roundw
            case rel => exact ⟨i + 1, by omega, by go_num, hk57.drewN _⟩
            case measure => simp [intOf]; omega
          · rw [hf] at q3
            rw [hf]
            have HFF := Lib.hid hf
            clear hf
            cases he : ((strOf (now i)).toList == (strOf (st i)).toList)
            · go_wp2_with fail
              go_quiet (fail)
              go_wp2_with fail
              go_roundw
              case rel => exact ⟨i + 1, by omega, by go_num, hk57.drewN _⟩
              case measure => simp [intOf]; omega
            · go_wp2_with fail
              go_quiet (fail)
              go_wp2_with fail
              go_roundw
              case rel => exact ⟨i + 1, by omega, by go_num, hk57.drewN _⟩
              case measure => simp [intOf]; omega
        · have : i = 6 := by omega
          subst this
          go_wp2_with fail
          refine (all_s hd7 (by omega)).mono ?_
          rintro e w8 ⟨v8, ⟨rfl, hk8⟩, hrow8⟩
          have hd8 := (hd7.mono (S' := fun x => S x ∧ x < wr.heap.size) (fun x h hx => ⟨h, hx⟩)).no hk8
          have hr8 := hrow8.row
          go_wp2_with fail
          refine (crash_s hd8 0).mono ?_
          rintro e w9 ⟨⟨rfl, hk9⟩, hd9⟩
          have hr9 := hr8.keep hk9 (fun b _ h1 h2 => by unfold fromB at h1; omega)
          go_wp2_with fail
          refine (all_s hd9 (by omega)).mono ?_
          rintro e w10 ⟨v10, ⟨rfl, hk10⟩, hrow10⟩
          have hr10 := hr9.keep hk10 (fun b _ _ => noB_not b)
          go_wp2_with fail
          refine (same_true hr10 hrow10.row (fun i _ => ?_) (by omega)).mono ?_
          · unfold aftN; simp
          rintro e w11 ⟨rfl, hk11⟩
          go_wp2_with fail
          go_ret
          exact ⟨rfl, hK5.trans (((((hkq.trans_no hk8).of_no).trans hk9 (fun _ _ h => h.1)).trans_no hk10).trans_no hk11) (fun x hx h => by have := HSw.out x h; omega)⟩
end Go.Proofs.Yteoafecdlnaecaa
