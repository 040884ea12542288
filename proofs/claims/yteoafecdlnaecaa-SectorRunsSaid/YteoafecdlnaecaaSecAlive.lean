/- sectorAlive and SectorNames. No condition. -/
import Derived.Test.YteoafecdlnaecaaSecStr
import Derived.Lib.SlBytesConst
namespace Go.Proofs.Yteoafecdlnaecaa
open Go.RowKit

theorem lit_byr {w : World} (x : Int) (n : Int) (hn : n = x) : ByR (w.alloc (.cells #[.int .u8 n] 5 (1, 2))) (fun y => w.heap.size ≤ y) (some ⟨w.heap.size, 0, none⟩) [x] := by
  subst hn
  intro k hk
  have : k = 0 := by simpa using hk
  subst this
  exact ⟨w.heap.size, 0, rfl, Nat.le_refl _, by rw [alloc_size]; omega, blk_cell (heap_alloc_new _ _) rfl⟩

@[go_sem] theorem conv2222 (w : World) (x : Value) (n c : Nat) : (convert 22 22 (.slice (some ⟨w.heap.size, 0, none⟩) n c)).run Try.prog (w.alloc (.cells #[x] 5)) = .ok (.slice (some ⟨w.heap.size, 0, none⟩) n c) (w.alloc (.cells #[x] 5 (1, 2))) :=
  Lib.run_convert_bytes_const w 22 5 #[x] n c Try.underlying22 Try.underlying5

set_option maxRecDepth 100000 in
set_option maxHeartbeats 4000000 in
theorem sectorAlive_c (w : World) : Calls Try.prog 10 #[] w (RetK noB (.bool true) w) := by
  have e1 : newN 2 = 2 := by decide
  have e2 : okW 2 0 [97] = true := by decide
  have e3 : okW 2 1 [98] = true := by decide
  go_enter Try.func10, Try.ntmps10
  go_wp2_with fail
  refine (new_c 2 (by omega) w).mono ?_
  rintro e w1 ⟨rfl, hk1, hd1⟩
  rw [e1] at hd1
  have hlt1 : ∀ x, w.heap.size ≤ x ∧ x < w1.heap.size → x < w1.heap.size := fun x h => h.2
  have hkA := (Keeps.refl noB w1).alloc (.cells #[.int .u8 97] 5 (1, 2))
  have hw1 := write_c (hd1.keep hkA (fun x _ => noB_not x)) 0 _ _ [97] 1 (by decide) (lit_byr 97 97 rfl)
  rw [e2] at hw1
  simp only [if_true, List.length_singleton] at hw1
  go_wp2_with fail
  refine hw1.mono ?_
  rintro e w2 ⟨⟨rfl, hk2⟩, D2, va2, hD2, hD2', hd2⟩
  have hkB := (Keeps.refl noB w2).alloc (.cells #[.int .u8 98] 5 (1, 2))
  have hw2 := write_c (hd2.keep hkB (fun x _ => noB_not x)) 1 _ _ [98] 1 (by decide) (lit_byr 98 98 rfl)
  rw [e3] at hw2
  simp only [if_true, List.length_singleton] at hw2
  clear hw1
  go_wp2_with fail
  refine hw2.mono ?_
  rintro e w3 ⟨⟨rfl, hk3⟩, D3, va3, hD3, hD3', hd3⟩
  clear hw2
  have e4 : (looN (up (up noLo (Int.toNat 0) true) (Int.toNat 1) true) 2).length = 2 := by decide
  go_wp2_with fail
  refine (loose_c hd3).mono ?_
  rintro e w4 ⟨v, ⟨rfl, hk4⟩, ho⟩
  have hd4 := hd3.keep hk4 (fun x _ => noB_not x)
  obtain ⟨ga, ca, rfl⟩ := ho.slice
  rw [e4]
  go_wp2_with fail
  refine (crash_c hd4 1).mono ?_
  rintro e w5 ⟨⟨rfl, hk5⟩, va5, vb5, hd5⟩
  go_wp2_with fail
  have hr0 := read_c hd5 0
  rw [show inD 2 0 = true by decide] at hr0
  simp only [if_true] at hr0
  refine hr0.mono ?_
  rintro e w6 ⟨a6, c6, ⟨rfl, hk6⟩, hO6⟩
  have hd6 := hd5.keep hk6 (fun x _ => noB_not x)
  have v6 : aftN (pickK 1) (up (up noBy (Int.toNat 0) [97]) (Int.toNat 1) [98]) noBy (up (up noLo (Int.toNat 0) true) (Int.toNat 1) true) (Int.toNat 0) = [97] := by decide +kernel
  rw [v6] at hO6
  rw [v6]
  clear hr0
  go_wp2_with fail
  have hr1 := read_c hd6 1
  rw [show inD 2 1 = true by decide] at hr1
  simp only [if_true] at hr1
  refine hr1.mono ?_
  rintro e w7 ⟨a7, c7, ⟨rfl, hk7⟩, hO7⟩
  have hd7 := hd6.keep hk7 (fun x _ => noB_not x)
  have v7 : aftN (pickK 1) (up (up noBy (Int.toNat 0) [97]) (Int.toNat 1) [98]) noBy (up (up noLo (Int.toNat 0) true) (Int.toNat 1) true) (Int.toNat 1) = [] := by decide +kernel
  rw [v7] at hO7
  rw [v7]
  clear hr1
  have hs6 := conv_c (hO6.keep hk7 (fun x _ _ => noB_not x)).byr c6
  have hst : strOf [97] = { data := #[97] } := rfl
  rw [hst] at hs6
  simp only [List.length_singleton] at hs6
  go_wp2_with fail
  refine (loose_c hd7).mono ?_
  rintro e w8 ⟨v8, ⟨rfl, hk8⟩, ho8⟩
  obtain ⟨g8, c8, rfl⟩ := ho8.slice
  rw [show (looN (fun _ => false) 2).length = 0 by decide]
  have s1 := hk1.size
  have sA : (w1.alloc (.cells #[.int .u8 97] 5 (1, 2))).heap.size = w1.heap.size + 1 := alloc_size _ _
  have sB : (w2.alloc (.cells #[.int .u8 98] 5 (1, 2))).heap.size = w2.heap.size + 1 := alloc_size _ _
  have l2 : ∀ x, D2 x → w.heap.size ≤ x := fun x h => by rcases hD2' x h with h | h <;> omega
  have k2 : Keeps noB w w2 := (hk1.trans_no hkA).trans hk2 (fun x hx h => by omega)
  have s2 := k2.size
  have l3 : ∀ x, D3 x → w.heap.size ≤ x := fun x h => by
    rcases hD3' x h with h | h
    · exact l2 x h
    · omega
  have k3 : Keeps noB w w3 := (k2.trans_no hkB).trans hk3 (fun x hx h => by have := l2 x h; omega)
  have k5 : Keeps noB w w5 := (k3.trans_no hk4).trans hk5 (fun x hx h => by have := l3 x h; omega)
  have k8 : Keeps noB w w8 := ((k5.trans_no hk6).trans_no hk7).trans_no hk8
  go_wp2_with fail
  go_ret
  exact ⟨rfl, k8⟩
end Go.Proofs.Yteoafecdlnaecaa
