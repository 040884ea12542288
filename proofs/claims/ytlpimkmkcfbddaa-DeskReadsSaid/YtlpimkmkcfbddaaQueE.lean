/- The queue: Reserved; whether two slices of numbers are the same. No condition. -/
import Derived.Test.YtlpimkmkcfbddaaQueD
namespace Go.Proofs.Ytlpimkmkcfbddaa
open Go.RowKit

def resP (c pg : Int) (x : Wt) : Bool := x.c != c && (x.p == pg && x.w)
def resM (c pg : Int) (ws : List Wt) : BitVec 4 := ws.foldl (fun m x => if resP c pg x then m ||| (1#4 <<< x.o.toNat) else m) 0#4
theorem resM_true {c pg : Int} {x : Wt} {l : List Wt} (h : resP c pg x = true) : resM c pg (l ++ [x]) = resM c pg l ||| (1#4 <<< x.o.toNat) := by simp [resM, h]
theorem resM_false {c pg : Int} {x : Wt} {l : List Wt} (h : resP c pg x = false) : resM c pg (l ++ [x]) = resM c pg l := by simp [resM, h]

set_option maxRecDepth 100000 in
set_option maxHeartbeats 8000000 in
theorem reserved_c {w : World} {S : Nat → Prop} {p r : Nat} {v : Value} {ws : List Wt} {l : List (Kc × Bool)} (hq : QAt w S p r v ws l) (hl : ws.length ≤ 1000) (c pg : Int) (ho : ∀ x, x ∈ ws → 0 ≤ x.o ∧ x.o < 4) :
    Calls Try.prog 52 #[.pointer (some ⟨p, 0, none⟩), .int .i64 c, .int .i64 pg] w (RetK noB (.int .i64 (mv (resM c pg ws))) w) := by
  obtain ⟨a, n, hv⟩ := hq.wants.slice
  subst hv
  have c0 := blk_cell hq.ptr (i := 0) rfl
  have HQ := Lib.hid hq
  have HO := Lib.hid ho
  clear hq ho
  go_enter Try.func52, Try.ntmps52
  go_wp2_with fail
  go_loopw [7, 15] (fun u i wr => ∃ k : Nat, k ≤ ws.length ∧ i = .int .i64 k ∧ u = .int .i64 (mv (resM c pg (ws.take k))) ∧ Keeps noB w wr)
    (fun _ i _ => ws.length - (intOf i).toNat)
  case atStart => exact ⟨0, by omega, rfl, rfl, Keeps.refl _ _⟩
  case round =>
    obtain ⟨k, hk, rfl, rfl, hkp⟩ := hrel
    by_cases hltk : k < ws.length
    · obtain ⟨g, off, rfl, y0, y1, y2, y3⟩ := (HQ.out.no hkp).wants.at_ hltk
      have hoo := HO.out ws[k] (List.getElem_mem hltk)
      have htk : ws.take (k + 1) = ws.take k ++ [ws[k]] := List.take_succ_eq_append_getElem hltk
      obtain ⟨y, hy⟩ : ∃ y, y = ws[k] := ⟨_, rfl⟩
      rw [← hy] at y0 y1 y2 y3 hoo htk
      obtain ⟨yc, yp, yo, yw⟩ := y
      simp only at y0 y1 y2 y3 hoo
      have hkB : Keeps noB wr (wr.alloc (.cells #[.int .i64 yc, .int .i64 yp, .int .i64 yo, .bool yw] 73)) := (Keeps.refl _ _).alloc _
      have HTK := Lib.hid htk
      clear hy htk c0
      obtain ⟨mm, hmm⟩ : ∃ mm, mm = resM c pg (ws.take k) := ⟨_, rfl⟩
      rw [← hmm]
      have HMM := Lib.hid hmm
      clear hmm
      by_cases hp : resP c pg ⟨yc, yp, yo, yw⟩ = true
      · have HP := Lib.hid hp
        unfold resP at hp
        simp only [Bool.and_eq_true] at hp
        obtain ⟨h1, h2, h3⟩ := hp
        subst h3
        have ho4 : yo = 0 ∨ yo = 1 ∨ yo = 2 ∨ yo = 3 := by omega
        rcases ho4 with rfl | rfl | rfl | rfl
        · have hb : bits .or .i64 (mv mm) 1 = mv (mm ||| 1#4) := bits_or_mv mm 1#4
          go_wp2_with fail
          go_roundw
          case rel => exact ⟨k + 1, by omega, by go_num, by rw [HTK.out, resM_true HP.out, ← HMM.out]; rfl, hkp.trans_no hkB⟩
          case measure => simp [intOf]; omega
        · have hb : bits .or .i64 (mv mm) 2 = mv (mm ||| 2#4) := bits_or_mv mm 2#4
          go_wp2_with fail
          go_roundw
          case rel => exact ⟨k + 1, by omega, by go_num, by rw [HTK.out, resM_true HP.out, ← HMM.out]; rfl, hkp.trans_no hkB⟩
          case measure => simp [intOf]; omega
        · have hb : bits .or .i64 (mv mm) 4 = mv (mm ||| 4#4) := bits_or_mv mm 4#4
          go_wp2_with fail
          go_roundw
          case rel => exact ⟨k + 1, by omega, by go_num, by rw [HTK.out, resM_true HP.out, ← HMM.out]; rfl, hkp.trans_no hkB⟩
          case measure => simp [intOf]; omega
        · have hb : bits .or .i64 (mv mm) 8 = mv (mm ||| 8#4) := bits_or_mv mm 8#4
          go_wp2_with fail
          go_roundw
          case rel => exact ⟨k + 1, by omega, by go_num, by rw [HTK.out, resM_true HP.out, ← HMM.out]; rfl, hkp.trans_no hkB⟩
          case measure => simp [intOf]; omega
      · have HP := Lib.hid (show resP c pg ⟨yc, yp, yo, yw⟩ = false by simpa using hp)
        clear hp
        have hpf := HP.out
        unfold resP at hpf
        simp only at hpf
        cases h1 : (yc != c)
        · clear hpf
          go_wp2_with fail
          go_roundw
          case rel => exact ⟨k + 1, by omega, by go_num, by rw [HTK.out, resM_false HP.out, ← HMM.out], hkp.trans_no hkB⟩
          case measure => simp [intOf]; omega
        · cases h2 : (yp == pg)
          · clear hpf
            go_wp2_with fail
            go_roundw
            case rel => exact ⟨k + 1, by omega, by go_num, by rw [HTK.out, resM_false HP.out, ← HMM.out], hkp.trans_no hkB⟩
            case measure => simp [intOf]; omega
          · rw [h1, h2] at hpf
            simp only [Bool.true_and] at hpf
            subst hpf
            go_wp2_with fail
            go_roundw
            case rel => exact ⟨k + 1, by omega, by go_num, by rw [HTK.out, resM_false HP.out, ← HMM.out], hkp.trans_no hkB⟩
            case measure => simp [intOf]; omega
    · have : k = ws.length := by omega
      subst this
      rw [List.take_length]
      go_wp2_with fail
      go_ret
      exact ⟨rfl, hkp⟩

/-- Numbers that may be read. -/
def NumR (w : World) (v : Value) (l : List Int) : Prop := ∃ a n, v = .slice a l.length n ∧ ∀ i (h : i < l.length), ∃ g off, a = some ⟨g, off, none⟩ ∧ g < w.heap.size ∧ w.cell? ⟨g, off + i, none⟩ = some (.int .i64 l[i])
theorem NumR.no {w w1 : World} {v : Value} {l : List Int} (h : NumR w v l) (hk : Keeps noB w w1) : NumR w1 v l := by
  obtain ⟨a, n, rfl, h⟩ := h
  refine ⟨a, n, rfl, fun i hi => ?_⟩
  obtain ⟨g, off, ha, hg, hc⟩ := h i hi
  refine ⟨g, off, ha, Nat.lt_of_lt_of_le hg hk.size, ?_⟩
  rw [← hc]
  unfold World.cell?
  rw [hk.block g hg (noB_not g)]
theorem OwnN.num {w : World} {B : Nat} {v : Value} {l : List Int} (h : OwnN w B v l) : NumR w v l := by
  obtain ⟨_, h⟩ := h
  rcases h with ⟨rfl, h0⟩ | ⟨g, cap, cur, rfl, _, hg, _, _, _, ht⟩
  · exact ⟨none, 0, by rw [h0], fun i hi => by omega⟩
  · refine ⟨_, cap, rfl, fun i hi => ⟨g, 0, rfl, lt_of_blk hg, ?_⟩⟩
    rw [Nat.zero_add]
    refine blk_cell hg ?_
    have h1 : (cur.toList.take (l.length * 1))[i]? = (l.map (Value.int .i64))[i]? := by rw [ht]
    rw [List.getElem?_take, if_pos (by omega), Array.getElem?_toList] at h1
    rw [h1, List.getElem?_map, List.getElem?_eq_getElem hi]
    rfl
set_option maxRecDepth 100000 in
set_option maxHeartbeats 4000000 in
theorem sameN_true {w : World} {va vb : Value} {l : List Int} (ha : NumR w va l) (hb : NumR w vb l) (hn : l.length ≤ 1000000) : Calls Try.prog 37 #[va, vb] w (RetK noB (.bool true) w) := by
  obtain ⟨a, c, rfl, ha⟩ := ha
  obtain ⟨b, d, rfl, hb⟩ := hb
  have HA := Lib.hid (show NumR w (.slice a l.length c) l from ⟨a, c, rfl, ha⟩)
  have HB := Lib.hid (show NumR w (.slice b l.length d) l from ⟨b, d, rfl, hb⟩)
  clear ha hb
  go_enter Try.func37, Try.ntmps37
  go_wp2_with fail
  go_loopw [13] (fun i wr => ∃ k : Nat, k ≤ l.length ∧ i = .int .i64 k ∧ Keeps noB w wr)
    (fun i _ => l.length - (intOf i).toNat)
  case atStart => exact ⟨0, by omega, rfl, Keeps.refl _ _⟩
  case round =>
    obtain ⟨k, hk, rfl, hkp⟩ := hrel
    by_cases hlt : k < l.length
    · obtain ⟨a1, c1, e1, h1⟩ := HA.out.no hkp
      obtain ⟨b1, d1, e2, h2⟩ := HB.out.no hkp
      simp at e1 e2
      obtain ⟨rfl, rfl⟩ := e1
      obtain ⟨rfl, rfl⟩ := e2
      obtain ⟨g1, o1, rfl, _, x1⟩ := h1 k hlt
      obtain ⟨g2, o2, rfl, _, x2⟩ := h2 k hlt
      clear h1 h2
      go_wp2_with fail
      go_quiet (fail)
      go_wp2_with fail
      go_roundw
      case rel => exact ⟨k + 1, by omega, by go_num, hkp.drewN _⟩
      case measure => simp [intOf]; omega
    · have : k = l.length := by omega
      go_wp2_with fail
      go_ret
      exact ⟨rfl, hkp⟩
end Go.Proofs.Ytlpimkmkcfbddaa
