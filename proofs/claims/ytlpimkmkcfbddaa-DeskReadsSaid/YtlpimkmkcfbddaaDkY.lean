/- The desk: a new one; questions. No condition. -/
import Derived.Test.YtlpimkmkcfbddaaDkX
namespace Go.Proofs.Ytlpimkmkcfbddaa
open Go.RowKit

def dk0 : Dp := ⟨TB.zero, [], [], []⟩
theorem new_d (w : World) : Calls Try.prog 70 #[] w (fun e w' => ∃ pd tb qp r D, e = .returned (.pointer (some ⟨pd, 0, none⟩)) ∧ Keeps noB w w' ∧ DkD w' D pd tb qp r dk0 ∧ ∀ y, D y → w.heap.size ≤ y) := by
  go_enter Try.func70, Try.ntmps70
  go_wp2_with (first | (go_at_call 21; refine (new_c _).mono ?_; rintro e w1 ⟨rfl, hk1, ht1⟩; have HT := Lib.hid (And.intro hk1 ht1); clear hk1 ht1) | (go_at_call 45; refine (new_q _).mono ?_; rintro e w2 ⟨⟨rfl, hk2⟩, hs2, hq2⟩; have HQ := Lib.hid (And.intro hk2 (And.intro hs2 hq2)); clear hk2 hs2 hq2))
  go_ret
  obtain ⟨hk1, ht1⟩ := HT.out
  obtain ⟨hk2, hs2, hq2⟩ := HQ.out
  have k3 : Keeps noB w2 (w2.alloc (.cells #[.pointer (some ⟨w.heap.size, 0, none⟩), .pointer (some ⟨w1.heap.size + 1, 0, none⟩), .slice none 0 0] 148)) := (Keeps.refl _ _).alloc _
  have hX := heap_alloc_new w2 (.cells #[.pointer (some ⟨w.heap.size, 0, none⟩), .pointer (some ⟨w1.heap.size + 1, 0, none⟩), .slice none 0 0] 148)
  have hsz := alloc_size w2 (.cells #[.pointer (some ⟨w.heap.size, 0, none⟩), .pointer (some ⟨w1.heap.size + 1, 0, none⟩), .slice none 0 0] 148)
  generalize w2.alloc (.cells #[.pointer (some ⟨w.heap.size, 0, none⟩), .pointer (some ⟨w1.heap.size + 1, 0, none⟩), .slice none 0 0] 148) = w3 at *
  have ht : w.heap.size < w1.heap.size := by unfold TabAt at ht1; exact lt_of_blk ht1
  refine ⟨w2.heap.size, w.heap.size, w1.heap.size + 1, w1.heap.size, fun y => w.heap.size ≤ y ∧ y < w3.heap.size, rfl, (hk1.trans_no hk2).trans_no k3, ⟨_, _, _, ⟨hX, (hk2.trans_no k3).blk ht1 (noB_not _), hq2.no k3, .inl ⟨⟨rfl, .inl ⟨rfl, rfl⟩⟩, fun k e => by simp [Value.ownBlock] at e⟩, ⟨rfl, .inl ⟨rfl, rfl⟩⟩, fun h => by omega, fun h => by omega, fun k e => by simp [Value.ownBlock] at e, by omega⟩, by omega, by omega, fun y hy => by omega, fun k e => by simp [Value.ownBlock] at e, fun y hy => hy.2⟩, fun y hy => hy.1⟩
end Go.Proofs.Ytlpimkmkcfbddaa
