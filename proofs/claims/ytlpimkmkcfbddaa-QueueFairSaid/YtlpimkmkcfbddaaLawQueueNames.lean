/- QueueNames: nobody waits in the beginning: the law answers true. No condition. -/
import Derived.Test.YtlpimkmkcfbddaaQueAlive
namespace Go.Proofs.Ytlpimkmkcfbddaa
open Go.RowKit

theorem kx' {w w1 w2 : World} {S : Nat → Prop} (h : Keeps noB w w1) (k : Keeps S w1 w2) (hS : ∀ y, S y → w.heap.size ≤ y) : Keeps noB w w2 := kx h k hS
set_option maxRecDepth 100000 in
set_option maxHeartbeats 8000000 in
theorem queueNames_w (w : World) : Calls Try.prog 13 #[] w (RetK noB (.bool true) w) := by
  go_enter Try.func13, Try.ntmps13
  go_wp2_with fail
  refine (new_q w).mono ?_
  rintro e w1 ⟨⟨rfl, hk1⟩, hs1, hq1⟩
  have hS1 : ∀ y, (w.heap.size ≤ y ∧ y < w.heap.size + 2) → w.heap.size ≤ y := fun y h => h.1
  clear hs1
  have HQ1 := Lib.hid hq1
  clear hq1
  go_wp2_with fail
  refine (queueAlive_c _).mono ?_
  rintro e w2 ⟨rfl, hk2⟩
  have hkw2 := hk1.trans_no hk2
  have hq2 := HQ1.out.no hk2
  have hA := all_c hq2 (by simp)
  have HQ2 := Lib.hid hq2
  clear hq2 HQ1 hk1 hk2
  go_wp2_with fail
  refine hA.mono ?_
  rintro e w3 ⟨v3, ⟨rfl, hk3⟩, hR3⟩
  obtain ⟨a3, n3, rfl⟩ := hR3.slice
  have hkw3 := hkw2.trans_no hk3
  have hq3 := HQ2.out.no hk3
  have ho3 : QOwn w3 (fun x => w.heap.size ≤ x ∧ x < w.heap.size + 2) (.slice none 0 0) [] := ⟨World.ownsRow_nil _ _ _ _, fun k hk => by simp [Value.ownBlock] at hk⟩
  have hA := add_c hq3 ho3 (by simp) (⟨4, 0, 0, false⟩ : Wt)
  have t1 : addOk (⟨4, 0, 0, false⟩ : Wt) [] = false := by decide
  rw [t1] at hA
  simp only [Bool.false_eq_true, if_false] at hA
  clear t1 hq3 ho3 HQ2 hk3 hkw2 hR3
  go_wp2_with fail
  refine hA.mono ?_
  rintro e w4 ⟨⟨rfl, hk4⟩, S4, hS4a, hS4b, v4, hq4, ho4⟩
  have P4 : ∀ y, S4 y → w.heap.size ≤ y := fun y hy => by
    have := hkw3.size
    rcases hS4b y hy with h | h <;> omega
  have hkw4 : Keeps noB w w4 := kx hkw3 hk4 (fun y h => h.1)
  have PP4 := Lib.hid P4
  have hA := add_c hq4 ho4 (by simp) (⟨0, 6, 0, false⟩ : Wt)
  have t1 : addOk (⟨0, 6, 0, false⟩ : Wt) [] = false := by decide
  rw [t1] at hA
  simp only [Bool.false_eq_true, if_false] at hA
  clear t1 hq4 ho4 P4 hS4a hS4b hk4 hkw3 hS1
  go_wp2_with fail
  refine hA.mono ?_
  rintro e w5 ⟨⟨rfl, hk5⟩, S5, hS5a, hS5b, v5, hq5, ho5⟩
  have P5 : ∀ y, S5 y → w.heap.size ≤ y := fun y hy => by
    have := hkw4.size
    rcases hS5b y hy with h | h
    · exact PP4.out y h
    · omega
  have hkw5 : Keeps noB w w5 := kx hkw4 hk5 PP4.out
  have PP5 := Lib.hid P5
  have hA := call_c hq5 4 (⟨0, 0, 0, false⟩ : Wt)
  have t1 : callOk 4 (⟨0, 0, 0, false⟩ : Wt) [] = false := by decide
  rw [t1] at hA
  simp only [Bool.false_eq_true, if_false] at hA
  clear t1 hq5 ho5 P5 hS5a hS5b hk5 hkw4 PP4
  go_wp2_with fail
  refine hA.mono ?_
  rintro e w6 ⟨⟨rfl, hk6⟩, hq6⟩
  have hkw6 : Keeps noB w w6 := kx hkw5 hk6 PP5.out
  have hA := call_c hq6 0 (⟨0, 0, 4, false⟩ : Wt)
  have t1 : callOk 0 (⟨0, 0, 4, false⟩ : Wt) [] = false := by decide
  rw [t1] at hA
  simp only [Bool.false_eq_true, if_false] at hA
  clear t1 hq6 hk6 hkw5
  go_wp2_with fail
  refine hA.mono ?_
  rintro e w7 ⟨⟨rfl, hk7⟩, hq7⟩
  have hkw7 : Keeps noB w w7 := kx hkw6 hk7 PP5.out
  have hA := remove_c hq7 (by simp) 0
  have t1 : decide (0 ≤ ofW 0 ([] : List Wt)) = false := by decide
  have t2 : rmW 0 ([] : List Wt) = [] := by decide
  rw [t1] at hA
  simp only [t2] at hA
  clear t1 t2 hq7 hk7 hkw6
  go_wp2_with fail
  refine hA.mono ?_
  rintro e w8 ⟨⟨rfl, hk8⟩, S8, hS8a, hS8b, v8, hq8⟩
  have P8 : ∀ y, S8 y → w.heap.size ≤ y := fun y hy => by
    have := hkw7.size
    rcases hS8b y hy with h | h
    · exact PP5.out y h
    · omega
  have hkw8 : Keeps noB w w8 := kx hkw7 hk8 PP5.out
  have PP8 := Lib.hid P8
  have hA := busy_c hq8 0 (⟨0, 0, 0, false⟩ : Wt)
  have t1 : (kget (keyOf 0 (⟨0, 0, 0, false⟩ : Wt)) []).isSome = false := by decide
  simp only [t1, Bool.false_eq_true, if_false] at hA
  clear t1 hq8 P8 hS8a hS8b hk8 hkw7 PP5
  go_wp2_with fail
  refine hA.mono ?_
  rintro e w9 ⟨⟨rfl, hk9⟩, hq9⟩
  have hkw9 : Keeps noB w w9 := kx hkw8 hk9 PP8.out
  have hA := reserved_c hq9 (by simp) 0 0 (fun x hx => by simp at hx)
  have t1 : mv (resM 0 0 ([] : List Wt)) = 0 := by decide
  rw [t1] at hA
  clear t1 hq9 hk9 hkw8
  go_wp2_with fail
  refine hA.mono ?_
  rintro e w10 ⟨rfl, hk10⟩
  go_wp2_with fail
  go_ret
  exact ⟨rfl, hkw9.trans_no hk10⟩
end Go.Proofs.Ytlpimkmkcfbddaa
