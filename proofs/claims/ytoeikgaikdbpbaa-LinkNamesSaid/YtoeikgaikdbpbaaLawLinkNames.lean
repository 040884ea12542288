/- LinkNames: the errors and the limit have their numbers: the law answers true. No condition. -/
import Derived.Test.YtoeikgaikdbpbaaLkAlive
import Derived.Laws.MakeOwn
namespace Go.Proofs.Ytoeikgaikdbpbaa
open Go.RowKit

theorem make_c (w : World) : (Instr.makeSlice 22 (.int .i64 701) (.int .i64 701)).run Try.prog w = .ok (.slice (some ⟨w.heap.size, 0, none⟩) 701 701) (w.alloc (.cells (madeCells #[.int .u8 0] 701) 5)) := by
  obtain ⟨i, hi, hz0, hz1, hz2⟩ := info_parts info5
  have := run_make w 22 5 i _ Try.underlying22 hi hz0 .i64 .i64 701 701 (by omega) (by omega) (by rw [hz2]; omega) (by omega)
  rw [this, hz1]
  rfl
theorem made_byr {w : World} (n : Nat) : ByR (w.alloc (.cells (madeCells #[.int .u8 0] n) 5)) (fun z => w.heap.size ≤ z) (some ⟨w.heap.size, 0, none⟩) (List.replicate n 0) := by
  intro k hk
  have h2 : k < n := by simpa using hk
  refine ⟨w.heap.size, 0, rfl, Nat.le_refl _, by rw [alloc_size]; omega, blk_cell (heap_alloc_new _ _) ?_⟩
  simp [madeCells, h2, Nat.mod_one]

set_option maxRecDepth 100000 in
set_option maxHeartbeats 8000000 in
theorem linkNames_w (w : World) : Calls Try.prog 6 #[] w (RetK noB (.bool true) w) := by
  go_enter Try.func6, Try.ntmps6
  go_wp2_with fail
  refine (new_c 0 1 1 false w).mono ?_
  rintro e w1 ⟨⟨rfl, hk1⟩, hs1, ha1⟩
  have HS1 := Lib.hid hs1
  clear hs1
  go_wp2_with fail
  go_loopw [2] (fun i wr => ∃ n : Nat, n ≤ 8 ∧ i = .int .i64 n ∧ Keeps noB w wr ∧ ∃ S k vi, LkAt wr S w.heap.size k vi ∧ (∀ x, S x → w.heap.size ≤ x) ∧ k.L.length = n ∧ k.sent = n)
    (fun i _ => 8 - (intOf i).toNat)
  case atStart => exact ⟨0, by omega, rfl, hk1, _, _, _, ha1, fun x hx => by unfold oneB at hx; omega, rfl, rfl⟩
  case round =>
    obtain ⟨n, hn, rfl, hkp, S, k, vi, ha, hS, hl, hse⟩ := hrel
    have hsz := hkp.size
    by_cases hlt : n < 8
    · have hP := push_c ha (fun _ => False) none [] 0 (by simp) (fun i hi => absurd hi (by simp))
      have hpe : pushE k [] = 0 := by unfold pushE; rw [if_neg (by simp), if_neg (by omega), if_neg (by omega)]
      rw [hpe] at hP
      simp only [if_true, List.length_nil] at hP
      have HSS := Lib.hid hS
      have HL := Lib.hid (And.intro hl hse)
      clear hS hl hse hpe
      go_wp2_with fail
      refine hP.mono ?_
      rintro e w3 ⟨⟨rfl, hk3⟩, Sa, hSa1, hSa2, va, ta, hts, htl, ha3⟩
      clear hP
      have HA := Lib.hid (And.intro hSa2 (And.intro hts htl))
      clear hSa1 hSa2 hts htl
      go_wp2_with fail
      go_roundw
      case rel =>
        refine ⟨n + 1, by omega, by go_num, hkp.trans hk3 (fun x hx h => by have := HSS.out x h; omega), Sa, _, va, ha3, fun x hx => ?_, ?_, ?_⟩
        · rcases HA.out.1 x hx with h | h
          · exact HSS.out x h
          · omega
        · have := HL.out.1; simp [Lk.add]; omega
        · have := HL.out.2; simp [Lk.add]; omega
      case measure => simp [intOf]; omega
    · have : n = 8 := by omega
      subst this
      have hpe : pushE k [] = 111 := by unfold pushE; rw [if_neg (by simp), if_neg (by omega), if_pos (by omega)]
      have hpe2 : pushE k (List.replicate 701 0) = 101 := by unfold pushE; rw [if_pos (by rw [List.length_replicate]; omega)]
      have HSS := Lib.hid hS
      have HL := Lib.hid (And.intro hl hse)
      clear hS hl hse
      go_wp2_with fail
      refine (linkAlive_c wr).mono ?_
      rintro e w2 ⟨rfl, hk2⟩
      have hP := push_c (ha.no hk2) (fun _ => False) none [] 0 (by simp) (fun i hi => absurd hi (by simp))
      rw [hpe] at hP
      simp only [List.length_nil, show ¬ ((111 : Int) = 0) by decide, if_false] at hP
      have HP2 := Lib.hid hpe2
      clear hpe hpe2
      go_wp2_with fail
      refine hP.mono ?_
      rintro e w3 ⟨⟨rfl, hk3⟩, Sa, hSa1, hSa2, va, ta, hts, htl, ha3⟩
      clear hP hts htl
      have HA2 := Lib.hid hSa2
      clear hSa1 hSa2
      have hmk := make_c w3
      have hkM : Keeps noB w3 (w3.alloc (.cells (madeCells #[.int .u8 0] 701) 5)) := (Keeps.refl _ _).alloc _
      have hQ := push_c (ha3.no hkM) _ _ (List.replicate 701 0) 701 (by rw [List.length_replicate]; omega) (made_byr 701)
      rw [HP2.out] at hQ
      simp only [List.length_replicate, show ¬ ((101 : Int) = 0) by decide, if_false] at hQ
      generalize madeCells #[.int .u8 0] 701 = mc at *
      go_wp2_with fail
      refine hQ.mono ?_
      rintro e w4 ⟨⟨rfl, hk4⟩, Sb, hSb1, hSb2, vb, tb, hts, htl, ha4⟩
      clear hQ hts htl hSb1 hSb2
      have hse := sent_c ha4
      have hL := HL.out.2
      rw [hL] at hse
      have hs2 := hk2.size
      have hfin : Keeps noB w w4 := (((hkp.trans_no hk2).trans hk3 (fun x hx h => by have := HSS.out x h; omega)).trans_no hkM).trans hk4 (fun x hx h => by
        rcases HA2.out x h with h | h
        · have := HSS.out x h; omega
        · omega)
      clear hL
      go_wp2_with fail
      refine hse.mono ?_
      rintro e w5 ⟨rfl, rfl⟩
      go_wp2_with fail
      go_ret
      exact ⟨rfl, hfin⟩
end Go.Proofs.Ytoeikgaikdbpbaa
