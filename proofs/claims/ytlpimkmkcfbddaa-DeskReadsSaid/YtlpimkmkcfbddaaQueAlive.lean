/- queueAlive. No condition. -/
import Derived.Test.YtlpimkmkcfbddaaQueF
namespace Go.Proofs.Ytlpimkmkcfbddaa
open Go.RowKit

def wA : Wt := ⟨0, 2, 1, true⟩
def wB : Wt := ⟨1, 2, 1, false⟩
theorem kx {F : Nat → Prop} {w w1 w2 : World} {S : Nat → Prop} (h : Keeps noB w w1) (k : Keeps S w1 w2) (hS : ∀ y, S y → w.heap.size ≤ y) : Keeps F w w2 := ((h.trans k (fun x hx hs => by have := hS x hs; omega)).of_no)
theorem num_lit {w : World} (x : Int) : NumR (w.alloc (.cells #[.int .i64 x] 3)) (.slice (some ⟨w.heap.size, 0, none⟩) 1 1) [x] := by
  refine ⟨_, 1, rfl, fun i hi => ⟨w.heap.size, 0, rfl, by rw [alloc_size]; omega, ?_⟩⟩
  obtain rfl : i = 0 := by simpa using hi
  exact blk_cell (heap_alloc_new _ _) rfl

set_option maxRecDepth 100000 in
set_option maxHeartbeats 8000000 in
theorem queueAlive_c (w : World) : Calls Try.prog 46 #[] w (RetK noB (.bool true) w) := by
  go_enter Try.func46, Try.ntmps46
  go_wp2_with fail
  refine (new_q w).mono ?_
  rintro e w1 ⟨⟨rfl, hk1⟩, hs1, hq1⟩
  have hS1 : ∀ y, (w.heap.size ≤ y ∧ y < w.heap.size + 2) → w.heap.size ≤ y := fun y h => h.1
  have HS1 := Lib.hid hs1
  clear hs1
  have hkV : Keeps noB w1 ((w1.alloc (.cells #[.int .i64 0, .int .i64 2, .int .i64 1, .bool true] 73)).alloc (.cells #[.int .i64 1, .int .i64 2, .int .i64 1, .bool false] 73)) := ((Keeps.refl _ _).alloc _).alloc _
  have hvA : ((w1.alloc (.cells #[.int .i64 0, .int .i64 2, .int .i64 1, .bool true] 73)).alloc (.cells #[.int .i64 1, .int .i64 2, .int .i64 1, .bool false] 73)).heap[w1.heap.size]? = some (.cells #[.int .i64 0, .int .i64 2, .int .i64 1, .bool true] 73 (0, 0)) := by rw [alloc_old _ _ _ (by rw [alloc_size]; omega)]; exact heap_alloc_new _ _
  have hvB : ((w1.alloc (.cells #[.int .i64 0, .int .i64 2, .int .i64 1, .bool true] 73)).alloc (.cells #[.int .i64 1, .int .i64 2, .int .i64 1, .bool false] 73)).heap[w1.heap.size + 1]? = some (.cells #[.int .i64 1, .int .i64 2, .int .i64 1, .bool false] 73 (0, 0)) := by rw [← alloc_size w1 (.cells #[.int .i64 0, .int .i64 2, .int .i64 1, .bool true] 73)]; exact heap_alloc_new _ _
  have hq2 := hq1.no hkV
  have ho2 : QOwn ((w1.alloc (.cells #[.int .i64 0, .int .i64 2, .int .i64 1, .bool true] 73)).alloc (.cells #[.int .i64 1, .int .i64 2, .int .i64 1, .bool false] 73)) (fun x => w.heap.size ≤ x ∧ x < w.heap.size + 2) (.slice none 0 0) [] := ⟨World.ownsRow_nil _ _ _ _, fun k hk => by simp [Value.ownBlock] at hk⟩
  have hA := add_c hq2 ho2 (by simp) wA
  have t1 : addOk wA [] = true := by decide
  rw [t1] at hA
  simp only [if_true, List.nil_append, wA] at hA
  have hs2 : ((w1.alloc (.cells #[.int .i64 0, .int .i64 2, .int .i64 1, .bool true] 73)).alloc (.cells #[.int .i64 1, .int .i64 2, .int .i64 1, .bool false] 73)).heap.size = w1.heap.size + 2 := by rw [alloc_size, alloc_size]
  have HS2 := Lib.hid hs2
  clear hs2
  have hkw2 := hk1.trans_no hkV
  clear t1 hq1 hq2 ho2
  have HVA := Lib.hid hvA
  have HVB := Lib.hid hvB
  clear hvA hvB
  go_upto_region 3 with fail
  have x0 := blk_cell HVA.out (i := 0) rfl
  have x1 := blk_cell HVA.out (i := 1) rfl
  have x2 := blk_cell HVA.out (i := 2) rfl
  have x3 := blk_cell HVA.out (i := 3) rfl
  generalize (w1.alloc (.cells #[.int .i64 0, .int .i64 2, .int .i64 1, .bool true] 73)).alloc (.cells #[.int .i64 1, .int .i64 2, .int .i64 1, .bool false] 73) = w2 at *
  go_wp2_with fail
  refine hA.mono ?_
  rintro e w3 ⟨⟨rfl, hk3⟩, S3, hS3a, hS3b, v3, hq3, ho3⟩
  clear hA x0 x1 x2 x3
  have P3 : ∀ y, S3 y → w.heap.size ≤ y ∧ y ≠ w1.heap.size ∧ y ≠ w1.heap.size + 1 := fun y hy => by
    have h1 := HS1.out; have h2 := HS2.out
    rcases hS3b y hy with h | h <;> omega
  have hkw3 : Keeps noB w w3 := hkw2.trans hk3 (fun x hx h => by omega)
  have vA3 := hk3.blk HVA.out (fun h => by have h1 := HS1.out; omega)
  have vB3 := hk3.blk HVB.out (fun h => by have h1 := HS1.out; omega)
  have hA := add_c hq3 ho3 (by simp) (⟨1, 2, 1, false⟩ : Wt)
  have t1 : addOk (⟨1, 2, 1, false⟩ : Wt) [(⟨0, 2, 1, true⟩ : Wt)] = true := by decide
  rw [t1] at hA
  simp only [if_true, List.singleton_append] at hA
  have PP3 := Lib.hid P3
  have VA3 := Lib.hid vA3
  have VB3 := Lib.hid vB3
  have x0 := blk_cell vB3 (i := 0) rfl
  have x1 := blk_cell vB3 (i := 1) rfl
  have x2 := blk_cell vB3 (i := 2) rfl
  have x3 := blk_cell vB3 (i := 3) rfl
  clear t1 hq3 ho3 hS3a hS3b P3 vA3 vB3 hk3 hkw2 HVA HVB
  go_wp2_with fail
  refine hA.mono ?_
  rintro e w4 ⟨⟨rfl, hk4⟩, S4, hS4a, hS4b, v4, hq4, ho4⟩
  clear hA x0 x1 x2 x3
  have s34 := hk4.size
  have P4 : ∀ y, S4 y → w.heap.size ≤ y ∧ y ≠ w1.heap.size ∧ y ≠ w1.heap.size + 1 := fun y hy => by
    rcases hS4b y hy with h | h
    · exact PP3.out y h
    · have h1 := HS1.out; have h2 := HS2.out; have := (lt_of_blk VB3.out); omega
  have hkw4 : Keeps noB w w4 := kx hkw3 hk4 (fun y h => (PP3.out y h).1)
  have vA4 := hk4.blk VA3.out (fun h => (PP3.out _ h).2.1 rfl)
  have vB4 := hk4.blk VB3.out (fun h => (PP3.out _ h).2.2 rfl)
  have hA := add_c hq4 ho4 (by simp) (⟨1, 2, 1, false⟩ : Wt)
  have t1 : addOk (⟨1, 2, 1, false⟩ : Wt) [(⟨0, 2, 1, true⟩ : Wt), (⟨1, 2, 1, false⟩ : Wt)] = false := by decide
  rw [t1] at hA
  simp only [Bool.false_eq_true, if_false] at hA
  have PP4 := Lib.hid P4
  have VA4 := Lib.hid vA4
  have VB4 := Lib.hid vB4
  have x0 := blk_cell vB4 (i := 0) rfl
  have x1 := blk_cell vB4 (i := 1) rfl
  have x2 := blk_cell vB4 (i := 2) rfl
  have x3 := blk_cell vB4 (i := 3) rfl
  clear t1 hq4 ho4 hS4a hS4b P4 vA4 vB4 hk4 hkw3 VA3 VB3 PP3
  go_wp2_with fail
  refine hA.mono ?_
  rintro e w5 ⟨⟨rfl, hk5⟩, S5, hS5a, hS5b, v5, hq5, _⟩
  clear hA x0 x1 x2 x3
  have P5 : ∀ y, S5 y → w.heap.size ≤ y ∧ y ≠ w1.heap.size ∧ y ≠ w1.heap.size + 1 := fun y hy => by
    rcases hS5b y hy with h | h
    · exact PP4.out y h
    · have h1 := HS1.out; have h2 := HS2.out; have := (lt_of_blk VB4.out); omega
  have hkw5 : Keeps noB w w5 := kx hkw4 hk5 (fun y h => (PP4.out y h).1)
  have vA5 := hk5.blk VA4.out (fun h => (PP4.out _ h).2.1 rfl)
  have vB5 := hk5.blk VB4.out (fun h => (PP4.out _ h).2.2 rfl)
  have hA := call_c hq5 3 (⟨0, 2, 1, true⟩ : Wt)
  have t1 : callOk 3 (⟨0, 2, 1, true⟩ : Wt) [] = true := by decide
  have t2 : kput (keyOf 3 (⟨0, 2, 1, true⟩ : Wt)) false [] = [((⟨3, 2, 1, true⟩ : Kc), false)] := by decide
  rw [t1] at hA
  simp only [if_true, t2] at hA
  have PP5 := Lib.hid P5
  have VA5 := Lib.hid vA5
  have VB5 := Lib.hid vB5
  have x0 := blk_cell vA5 (i := 0) rfl
  have x1 := blk_cell vA5 (i := 1) rfl
  have x2 := blk_cell vA5 (i := 2) rfl
  have x3 := blk_cell vA5 (i := 3) rfl
  clear t1 t2 hq5 hS5a hS5b P5 vA5 vB5 hk5 hkw4 VA4 VB4 PP4
  go_wp2_with fail
  refine hA.mono ?_
  rintro e w6 ⟨⟨rfl, hk6⟩, hq6⟩
  clear hA x0 x1 x2 x3
  have hkw6 : Keeps noB w w6 := kx hkw5 hk6 (fun y h => (PP5.out y h).1)
  have vA6 := hk6.blk VA5.out (fun h => (PP5.out _ h).2.1 rfl)
  have vB6 := hk6.blk VB5.out (fun h => (PP5.out _ h).2.2 rfl)
  have hA := call_c hq6 3 (⟨0, 2, 1, true⟩ : Wt)
  have t1 : callOk 3 (⟨0, 2, 1, true⟩ : Wt) [((⟨3, 2, 1, true⟩ : Kc), false)] = false := by decide
  rw [t1] at hA
  simp only [Bool.false_eq_true, if_false] at hA
  have VA6 := Lib.hid vA6
  have VB6 := Lib.hid vB6
  have x0 := blk_cell vA6 (i := 0) rfl
  have x1 := blk_cell vA6 (i := 1) rfl
  have x2 := blk_cell vA6 (i := 2) rfl
  have x3 := blk_cell vA6 (i := 3) rfl
  clear t1 hq6 vA6 vB6 hk6 hkw5 VA5 VB5
  go_wp2_with fail
  refine hA.mono ?_
  rintro e w7 ⟨⟨rfl, hk7⟩, hq7⟩
  clear hA x0 x1 x2 x3
  have hkw7 : Keeps noB w w7 := kx hkw6 hk7 (fun y h => (PP5.out y h).1)
  have vA7 := hk7.blk VA6.out (fun h => (PP5.out _ h).2.1 rfl)
  have vB7 := hk7.blk VB6.out (fun h => (PP5.out _ h).2.2 rfl)
  have hA := busy_c hq7 3 (⟨0, 2, 1, true⟩ : Wt)
  have t1 : (kget (keyOf 3 (⟨0, 2, 1, true⟩ : Wt)) [((⟨3, 2, 1, true⟩ : Kc), false)]).isSome = true := by decide
  have t2 : kput (keyOf 3 (⟨0, 2, 1, true⟩ : Wt)) true [((⟨3, 2, 1, true⟩ : Kc), false)] = [((⟨3, 2, 1, true⟩ : Kc), true)] := by decide
  simp only [t1, if_true, t2] at hA
  have VA7 := Lib.hid vA7
  have VB7 := Lib.hid vB7
  have x0 := blk_cell vA7 (i := 0) rfl
  have x1 := blk_cell vA7 (i := 1) rfl
  have x2 := blk_cell vA7 (i := 2) rfl
  have x3 := blk_cell vA7 (i := 3) rfl
  clear t1 t2 hq7 vA7 vB7 hk7 hkw6 VA6 VB6
  go_wp2_with fail
  refine hA.mono ?_
  rintro e w8 ⟨⟨rfl, hk8⟩, hq8⟩
  clear hA x0 x1 x2 x3
  have hkw8 : Keeps noB w w8 := kx hkw7 hk8 (fun y h => (PP5.out y h).1)
  have vA8 := hk8.blk VA7.out (fun h => (PP5.out _ h).2.1 rfl)
  have vB8 := hk8.blk VB7.out (fun h => (PP5.out _ h).2.2 rfl)
  have hA := called_c hq8 3 (⟨0, 2, 1, true⟩ : Wt)
  have t1 : kget (keyOf 3 (⟨0, 2, 1, true⟩ : Wt)) [((⟨3, 2, 1, true⟩ : Kc), true)] = some true := by decide
  simp only [t1, Option.isSome_some, Option.getD_some] at hA
  have VA8 := Lib.hid vA8
  have VB8 := Lib.hid vB8
  have HQ8 := Lib.hid hq8
  have x0 := blk_cell vA8 (i := 0) rfl
  have x1 := blk_cell vA8 (i := 1) rfl
  have x2 := blk_cell vA8 (i := 2) rfl
  have x3 := blk_cell vA8 (i := 3) rfl
  clear t1 hq8 vA8 vB8 hk8 hkw7 VA7 VB7
  go_wp2_with fail
  refine hA.mono ?_
  rintro e w9 ⟨rfl, hk9⟩
  clear hA x0 x1 x2 x3
  have hkw9 := hkw8.trans_no hk9
  have hq9 := HQ8.out.no hk9
  have vA9 := hk9.blk VA8.out (noB_not _)
  have vB9 := hk9.blk VB8.out (noB_not _)
  have hA := ahead_c hq9 (by simp) (⟨1, 2, 1, false⟩ : Wt)
  have t1 : aheadL (⟨1, 2, 1, false⟩ : Wt) [(⟨0, 2, 1, true⟩ : Wt), (⟨1, 2, 1, false⟩ : Wt)] = [0] := by decide
  rw [t1] at hA
  have VA9 := Lib.hid vA9
  have HQ9 := Lib.hid hq9
  have x0 := blk_cell vB9 (i := 0) rfl
  have x1 := blk_cell vB9 (i := 1) rfl
  have x2 := blk_cell vB9 (i := 2) rfl
  have x3 := blk_cell vB9 (i := 3) rfl
  clear t1 hq9 vA9 vB9 hk9 hkw8 VA8 VB8 HQ8
  go_wp2_with fail
  refine hA.mono ?_
  rintro e w10 ⟨va, ⟨rfl, hk10⟩, hna⟩
  clear hA x0 x1 x2 x3
  obtain ⟨a10, c10, rfl⟩ := hna.slice
  have hkL : Keeps noB w10 (w10.alloc (.cells #[.int .i64 0] 3)) := (Keeps.refl _ _).alloc _
  have hSm := sameN_true (hna.num.no hkL) (num_lit (w := w10) 0) (by simp)
  have HNA := Lib.hid hna
  clear hna
  simp only [List.length_singleton] at hSm
  go_wp2_with fail
  refine hSm.mono ?_
  rintro e w11 ⟨rfl, hk11⟩
  have hk911 := (hk10.trans_no hkL).trans_no hk11
  have hkw11 := hkw9.trans_no hk911
  have vA11 := hk911.blk VA9.out (noB_not _)
  have hq11 := HQ9.out.no hk911
  have hA := ahead_c hq11 (by simp) (⟨0, 2, 1, true⟩ : Wt)
  have t1 : aheadL (⟨0, 2, 1, true⟩ : Wt) [(⟨0, 2, 1, true⟩ : Wt), (⟨1, 2, 1, false⟩ : Wt)] = [] := by decide
  rw [t1] at hA
  have HQ11 := Lib.hid hq11
  have x0 := blk_cell vA11 (i := 0) rfl
  have x1 := blk_cell vA11 (i := 1) rfl
  have x2 := blk_cell vA11 (i := 2) rfl
  have x3 := blk_cell vA11 (i := 3) rfl
  clear t1 hq11 vA11 hSm hk10 hkL hk11
  go_wp2_with fail
  refine hA.mono ?_
  rintro e w12 ⟨vb, ⟨rfl, hk12⟩, hnb⟩
  clear hA x0 x1 x2 x3
  obtain ⟨a12, c12, rfl⟩ := hnb.slice
  have hq12 := HQ11.out.no hk12
  have hRs := reserved_c hq12 (by simp) 1 2 (fun x hx => by simp at hx; rcases hx with rfl | rfl <;> simp)
  have t1 : mv (resM 1 2 [(⟨0, 2, 1, true⟩ : Wt), (⟨1, 2, 1, false⟩ : Wt)]) = 2 := by decide
  rw [t1] at hRs
  have HNB := Lib.hid hnb
  clear t1 hnb
  simp only [List.length_nil]
  go_wp2_with fail
  refine hRs.mono ?_
  rintro e w13 ⟨rfl, hk13⟩
  have hq13 := hq12.no hk13
  have hRm := remove_c hq13 (by simp) 0
  have t1 : decide (0 ≤ ofW 0 [(⟨0, 2, 1, true⟩ : Wt), (⟨1, 2, 1, false⟩ : Wt)]) = true := by decide
  have t2 : rmW 0 [(⟨0, 2, 1, true⟩ : Wt), (⟨1, 2, 1, false⟩ : Wt)] = [(⟨1, 2, 1, false⟩ : Wt)] := by decide
  rw [t1] at hRm
  simp only [t2] at hRm
  clear t1 t2 hRs
  go_wp2_with fail
  refine hRm.mono ?_
  rintro e w14 ⟨⟨rfl, hk14⟩, S14, hS14a, hS14b, v14, hq14⟩
  have hAl := all_c hq14 (by simp)
  clear hRm
  have hkw14 : Keeps noB w w14 := kx ((hkw11.trans_no hk12).trans_no hk13) hk14 (fun y h => (PP5.out y h).1)
  go_wp2_with fail
  refine hAl.mono ?_
  rintro e w15 ⟨v15, ⟨rfl, hk15⟩, hR15⟩
  obtain ⟨a15, n15, rfl⟩ := hR15.slice
  go_wp2_with fail
  go_ret
  exact ⟨rfl, hkw14.trans_no hk15⟩
end Go.Proofs.Ytlpimkmkcfbddaa
