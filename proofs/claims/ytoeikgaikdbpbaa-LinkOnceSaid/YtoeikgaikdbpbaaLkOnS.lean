/- Once, in order: the start; what the round reads. No condition. -/
import Derived.Test.YtoeikgaikdbpbaaLkOnA
import Derived.Test.YtoeikgaikdbpbaaLkTwo
namespace Go.Proofs.Ytoeikgaikdbpbaa
open Go.RowKit

def two {α : Type} (x y : α) (j : Nat) : α := if j = 0 then x else y
open Classical in
noncomputable def tag0 (SA SB : Nat → Prop) (ba z y : Nat) : Nat := if SA y then 1 else if SB y then 2 else if y = ba then 8 else if y = z then 9 else if y = z + 1 then 10 else if y = z + 2 then 7 else 0
theorem own_pks0 (w : World) : (w.alloc (.cells #[] 24)).ownsRow 0 24 7 (.slice (some ⟨w.heap.size, 0, none⟩) 0 0) 0 [] :=
  ⟨rfl, .inr ⟨_, _, _, rfl, Nat.zero_le _, heap_alloc_new _ _, Nat.le_refl _, by unfold maxLen; omega, rfl, rfl⟩⟩
set_option maxHeartbeats 2000000 in
theorem OnI.start {w wc : World} {ba pA pB : Nat} {SA SB : Nat → Prop} {A B : Lk} {va vb : Value} (h : TwoJ w wc ba pA pB SA SB A B va vb) (hbal : w.heap.size ≤ ba) :
    OnI w (((wc.alloc (.cells #[.slice none 0 0, .slice none 0 0] 31)).alloc (.cells #[.slice none 0 0, .slice none 0 0] 31)).alloc (.cells #[] 24)) (tag0 SA SB ba wc.heap.size) ba wc.heap.size (wc.heap.size + 1) (two pA pB) (two A B) (fun _ => .slice none 0 0) (fun _ => .slice none 0 0) (.slice (some ⟨wc.heap.size + 1 + 1, 0, none⟩) 0 0) (fun _ => []) (fun _ => []) [] := by
  have hA := h.la.lt
  have hB := h.lb.lt
  have hba := lt_of_blk h.ar
  have hw := h.kp.size
  have k1 : Keeps noB wc (wc.alloc (.cells #[.slice none 0 0, .slice none 0 0] 31)) := (Keeps.refl _ _).alloc _
  have s1 : (wc.alloc (.cells #[.slice none 0 0, .slice none 0 0] 31)).heap.size = wc.heap.size + 1 := alloc_size _ _
  have b1 := heap_alloc_new wc (.cells #[.slice none 0 0, .slice none 0 0] 31)
  generalize wc.alloc (.cells #[.slice none 0 0, .slice none 0 0] 31) = w1 at *
  have k2 : Keeps noB w1 (w1.alloc (.cells #[.slice none 0 0, .slice none 0 0] 31)) := (Keeps.refl _ _).alloc _
  have s2 : (w1.alloc (.cells #[.slice none 0 0, .slice none 0 0] 31)).heap.size = w1.heap.size + 1 := alloc_size _ _
  have b2 := heap_alloc_new w1 (.cells #[.slice none 0 0, .slice none 0 0] 31)
  generalize w1.alloc (.cells #[.slice none 0 0, .slice none 0 0] 31) = w2 at *
  have k3 : Keeps noB w2 (w2.alloc (.cells #[] 24)) := (Keeps.refl _ _).alloc _
  have s3 : (w2.alloc (.cells #[] 24)).heap.size = w2.heap.size + 1 := alloc_size _ _
  have b3 := own_pks0 w2
  generalize w2.alloc (.cells #[] 24) = w3 at *
  have hk : Keeps noB wc w3 := (k1.trans_no k2).trans_no k3
  have e1 : ∀ y, tag0 SA SB ba wc.heap.size y = 1 ↔ SA y := fun y => by
    unfold tag0
    split
    · exact ⟨fun _ => by assumption, fun _ => rfl⟩
    · rename_i hn
      refine ⟨fun h => ?_, fun h => absurd h hn⟩
      repeat' split at h
      all_goals omega
  have e2 : ∀ y, tag0 SA SB ba wc.heap.size y = 2 ↔ SB y := fun y => by
    unfold tag0
    split
    · rename_i ha
      exact ⟨fun h => by omega, fun hb => absurd hb (h.ap y ha)⟩
    · split
      · exact ⟨fun _ => by assumption, fun _ => rfl⟩
      · rename_i hn
        refine ⟨fun h => ?_, fun h => absurd h hn⟩
        repeat' split at h
        all_goals omega
  have nA : ∀ y, wc.heap.size ≤ y → ¬ SA y := fun y hy hs => by have := hA y hs; omega
  have nB : ∀ y, wc.heap.size ≤ y → ¬ SB y := fun y hy hs => by have := hB y hs; omega
  have e7 : tag0 SA SB ba wc.heap.size (wc.heap.size + 2) = 7 := by
    unfold tag0
    rw [if_neg (nA _ (by omega)), if_neg (nB _ (by omega)), if_neg (by omega), if_neg (by omega), if_neg (by omega), if_pos rfl]
  have h0 : ∀ y, tag0 SA SB ba wc.heap.size y ≠ 0 → w.heap.size ≤ y ∧ y < w3.heap.size := fun y hy => by
    by_cases a : SA y
    · exact ⟨(h.lo y (.inl a)).1, by have := hA y a; omega⟩
    · by_cases b : SB y
      · exact ⟨(h.lo y (.inr b)).1, by have := hB y b; omega⟩
      · unfold tag0 at hy
        rw [if_neg a, if_neg b] at hy
        split at hy
        · subst_vars; exact ⟨hbal, by omega⟩
        · split at hy
          · omega
          · split at hy
            · omega
            · split at hy
              · omega
              · omega
  refine ⟨h.kp.trans_no hk, fun y hy => (h0 y hy).1, fun y hy => (h0 y hy).2, fun j hj => ?_, fun j hj => ⟨World.ownsRow_nil _ _ _ _, fun y hy => by simp [Value.ownBlock] at hy⟩, fun j hj => ⟨World.ownsRow_nil _ _ _ _, fun y hy => by simp [Value.ownBlock] at hy⟩, ?_, hk.blk h.ar (noB_not _), (k2.trans_no k3).blk b1 (noB_not _), ?_, ?_, ?_, ?_⟩
  · rcases (show j = 0 ∨ j = 1 by omega) with rfl | rfl
    · exact ⟨va, (h.la.no hk).mono (fun x hx => (e1 x).2 hx) (fun x hx => by have := hA x ((e1 x).1 hx); omega)⟩
    · exact ⟨vb, (h.lb.no hk).mono (fun x hx => (e2 x).2 hx) (fun x hx => by have := hB x ((e2 x).1 hx); omega)⟩
  · refine ⟨⟨[], ?_, fun i hi => by simp at hi⟩, fun y hy => ?_⟩
    · rw [show wc.heap.size + 1 + 1 = w2.heap.size by omega]; exact b3
    · simp [Value.ownBlock] at hy; subst hy; exact e7
  · rw [← s1]; exact k3.blk b2 (noB_not _)
  · unfold tag0
    rw [if_neg (fun a => (h.lo _ (.inl a)).2 rfl), if_neg (fun b => (h.lo _ (.inr b)).2 rfl), if_pos rfl]
  · unfold tag0
    rw [if_neg (nA _ (by omega)), if_neg (nB _ (by omega)), if_neg (by omega), if_pos rfl]
  · unfold tag0
    rw [if_neg (nA _ (by omega)), if_neg (nB _ (by omega)), if_neg (by omega), if_neg (by omega), if_pos rfl]
end Go.Proofs.Ytoeikgaikdbpbaa
