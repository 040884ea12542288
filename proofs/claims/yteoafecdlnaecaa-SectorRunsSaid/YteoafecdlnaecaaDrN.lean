/- The drive: New. No condition. -/
import Derived.Test.YteoafecdlnaecaaDrE
import Derived.Laws.MakeOwn
namespace Go.Proofs.Yteoafecdlnaecaa
open Go.RowKit

def newN (many : Int) : Nat := if many ≤ 0 then 0 else if 6 ≤ many then 6 else many.toNat
def nilV (_ : Nat) : Value := .slice none 0 0
def noBy (_ : Nat) : List Int := []
def noLo (_ : Nat) : Bool := false
theorem DrAt.new {w w1 : World} {b g n : Nat} (hne : b ≠ g) (hle : n ≤ 6) (hb : w.heap.size ≤ b) (hg : w.heap.size ≤ g) (hp : w1.heap[b]? = some (.cells #[.slice (some ⟨g, 0, none⟩) n n] 60 (0, 0))) (hr : w1.heap[g]? = some (.cells (drow n nilV nilV noLo) 64 (0, 0))) :
    DrAt w1 (fun x => w.heap.size ≤ x ∧ x < w1.heap.size) b g n noBy noBy noLo nilV nilV :=
  ⟨hne, ⟨hb, lt_of_blk hp⟩, ⟨hg, lt_of_blk hr⟩, hle, fun _ hx => hx.2, hp, hr, fun _ _ => ⟨by simp [noBy], none, 0, rfl, fun k hk => absurd hk (by simp [noBy])⟩, fun _ _ => ⟨by simp [noBy], none, 0, rfl, fun k hk => absurd hk (by simp [noBy])⟩⟩

theorem info64 : (Try.prog.info? 64).map (fun i => (i.zero, i.size, i.bytes)) = some (some (.agg #[.slice none 0 0, .slice none 0 0, .bool false]), 3, 56) := by kernel_rfl
theorem made_eq (n : Nat) : madeCells #[.slice none 0 0, .slice none 0 0, .bool false] (n * 3) = drow n nilV nilV noLo := by
  apply Array.ext_getElem?
  intro j
  by_cases hj : j < n * 3
  · rw [drow_at _ _ _ _ hj]
    have : j % 3 = 0 ∨ j % 3 = 1 ∨ j % 3 = 2 := by omega
    simp only [madeCells, Array.getElem?_map, Array.getElem?_range, hj, if_true, Option.map_some, Option.some.injEq, show (#[Value.slice none 0 0, .slice none 0 0, .bool false] : Array Value).size = 3 from rfl]
    unfold dcell nilV noLo
    rcases this with h | h | h <;> simp [h]
  · rw [Array.getElem?_eq_none (by rw [size_madeCells]; omega), Array.getElem?_eq_none (by rw [drow_size]; omega)]
theorem make_c (n : Nat) (hn : n ≤ 6) (w : World) : (Instr.makeSlice 58 (.int .i64 n) (.int .i64 n)).run Try.prog w = .ok (.slice (some ⟨w.heap.size, 0, none⟩) n n) (w.alloc (.cells (drow n nilV nilV noLo) 64)) := by
  obtain ⟨i, hi, hz0, hz1, hz2⟩ := info_parts info64
  have := run_make w 58 64 i _ Try.underlying58 hi hz0 .i64 .i64 n n (by omega) (by omega) (by rw [hz2]; omega) (by omega)
  rw [this, hz1]
  simp only [Int.toNat_natCast, Value.cells, made_eq]

set_option maxRecDepth 100000 in
set_option maxHeartbeats 4000000 in
theorem new_c (many : Int) (hm : -9223372036854775808 ≤ many ∧ many ≤ 9223372036854775807) (w : World) :
    Calls Try.prog 8 #[.int .i64 many] w fun e w' => e = .returned (.pointer (some ⟨w.heap.size + 1, 0, none⟩)) ∧ Keeps noB w w' ∧ DrAt w' (fun x => w.heap.size ≤ x ∧ x < w'.heap.size) (w.heap.size + 1) w.heap.size (newN many) noBy noBy noLo nilV nilV := by
  have fin : ∀ n : Nat, n ≤ 6 → DrAt ((w.alloc (.cells (drow n nilV nilV noLo) 64)).alloc (.cells #[.slice (some ⟨w.heap.size, 0, none⟩) n n] 60)) (fun x => w.heap.size ≤ x ∧ x < ((w.alloc (.cells (drow n nilV nilV noLo) 64)).alloc (.cells #[.slice (some ⟨w.heap.size, 0, none⟩) n n] 60)).heap.size) (w.heap.size + 1) w.heap.size n noBy noBy noLo nilV nilV := fun n hn => by
    refine DrAt.new (by omega) hn (by omega) (Nat.le_refl _) ?_ ?_
    · rw [← alloc_size w (.cells (drow n nilV nilV noLo) 64)]; exact heap_alloc_new _ _
    · rw [alloc_old _ _ _ (by rw [alloc_size]; omega)]; exact heap_alloc_new _ _
  by_cases h0 : many ≤ 0
  · have hn : newN many = 0 := by unfold newN; rw [if_pos h0]
    rw [hn]
    have h1 : ¬ 6 < many := by omega
    have h2 : ¬ 0 < many := by omega
    have hk : (Instr.makeSlice 58 (.int .i64 0) (.int .i64 0)).run Try.prog w = .ok (.slice (some ⟨w.heap.size, 0, none⟩) 0 0) (w.alloc (.cells (drow 0 nilV nilV noLo) 64)) := make_c 0 (by omega) w
    have hf := fin 0 (by omega)
    generalize drow 0 nilV nilV noLo = dr at *
    go_enter Try.func8, Try.ntmps8
    go_wp2_with fail
    go_ret
    exact ⟨rfl, ((Keeps.refl noB w).alloc _).alloc _, hf⟩
  · by_cases h6 : 6 < many
    · have hn : newN many = 6 := by unfold newN; rw [if_neg h0, if_pos (by omega)]
      rw [hn]
      have hk : (Instr.makeSlice 58 (.int .i64 6) (.int .i64 6)).run Try.prog w = .ok (.slice (some ⟨w.heap.size, 0, none⟩) 6 6) (w.alloc (.cells (drow 6 nilV nilV noLo) 64)) := make_c 6 (by omega) w
      have hf := fin 6 (by omega)
      generalize drow 6 nilV nilV noLo = dr at *
      go_enter Try.func8, Try.ntmps8
      go_wp2_with fail
      all_goals go_ret
      all_goals exact ⟨rfl, ((Keeps.refl noB w).alloc _).alloc _, hf⟩
    · obtain ⟨n, rfl⟩ := Int.eq_ofNat_of_zero_le (by omega : 0 ≤ many)
      have hn : newN (n : Int) = n := by unfold newN; rw [if_neg h0]; split <;> omega
      rw [hn]
      have h1 : ¬ 6 < (n : Int) := by omega
      have h2 : 0 < (n : Int) := by omega
      have hk := make_c n (by omega) w
      have hf := fin n (by omega)
      generalize drow n nilV nilV noLo = dr at *
      go_enter Try.func8, Try.ntmps8
      go_wp2_with fail
      all_goals go_ret
      all_goals exact ⟨rfl, ((Keeps.refl noB w).alloc _).alloc _, hf⟩
end Go.Proofs.Yteoafecdlnaecaa
