/- The drive: settle, fall, Loose. No condition. -/
import Derived.Test.YteoafecdlnaecaaDrW
namespace Go.Proofs.Yteoafecdlnaecaa
open Go.RowKit

theorem settle_c {w : World} {D : Nat → Prop} {b g n : Nat} {now st : Nat → List Int} {lo : Nat → Bool} {va vb : Nat → Value} (h : DrAt w D b g n now st lo va vb) {k : Nat} (hk : k < n) :
    Calls Try.prog 29 #[.pointer (some ⟨g, k * 3, none⟩)] w fun e w' => RetK D (.tuple #[]) w e w' ∧ DrAt w' D b g n now (up st k (now k)) (up lo k false) va (up vb k (va k)) := by
  have h0 := blk_cell h.row (drow_0 n va vb lo hk)
  have h1 := blk_cell h.row (drow_1 n va vb lo hk)
  have h2 := blk_cell h.row (drow_2 n va vb lo hk)
  have f1 := blk_free h.row (k * 3 + 1)
  have f2 := blk_free h.row (k * 3 + 2)
  have hkp : ∀ u v, Keeps (oneB g) w ((w.setCell ⟨g, k * 3 + 1, none⟩ u).setCell ⟨g, k * 3 + 2, none⟩ v) := fun u v => ((Keeps.refl _ w).set1 _ _).set1 _ _
  have hng : ∀ x, (D x ∧ x ≠ b ∧ x ≠ g) → ¬ oneB g x := fun x hx h => hx.2.2 h
  obtain ⟨_, a0, c0, hv0, _⟩ := h.now k hk
  obtain ⟨_, a1, c1, hv1, _⟩ := h.st k hk
  rw [hv0] at h0
  rw [hv1] at h1
  have HV := Lib.hid hv0
  have HH := Lib.hid h
  clear h hv0 hv1
  go_enter Try.func29, Try.ntmps29
  go_wp2_with fail
  go_end0
  have h := HH.out
  refine ⟨⟨rfl, (hkp _ _).mono (fun x _ hx => by unfold oneB at hx; subst hx; exact h.ing)⟩, ⟨h.ne, h.inb, h.ing, h.le, ?_, (hkp _ _).blk h.ptr (fun hx => h.ne hx), ?_, fun j hj => (h.now j hj).keep (hkp _ _) hng, fun j hj => ?_⟩⟩
  · intro x hx; rw [setCell_size, setCell_size]; exact h.lt x hx
  · rw [← drow_set2 n _ _ lo hk, ← drow_set1 n va vb lo hk, HV.out]
    exact heap_setCell_same _ _ _ _ (heap_setCell_same _ _ _ _ h.row)
  · by_cases e : j = k
    · subst e; unfold up; rw [if_pos rfl, if_pos rfl]; exact (h.now j hj).keep (hkp _ _) hng
    · unfold up; rw [if_neg e, if_neg e]; exact (h.st j hj).keep (hkp _ _) hng

theorem fall_c {w : World} {D : Nat → Prop} {b g n : Nat} {now st : Nat → List Int} {lo : Nat → Bool} {va vb : Nat → Value} (h : DrAt w D b g n now st lo va vb) {k : Nat} (hk : k < n) :
    Calls Try.prog 31 #[.pointer (some ⟨g, k * 3, none⟩)] w fun e w' => RetK D (.tuple #[]) w e w' ∧ DrAt w' D b g n (up now k (st k)) st (up lo k false) (up va k (vb k)) vb := by
  have h0 := blk_cell h.row (drow_0 n va vb lo hk)
  have h1 := blk_cell h.row (drow_1 n va vb lo hk)
  have h2 := blk_cell h.row (drow_2 n va vb lo hk)
  have f1 := blk_free h.row (k * 3)
  have f2 := blk_free h.row (k * 3 + 2)
  have hkp : ∀ u v, Keeps (oneB g) w ((w.setCell ⟨g, k * 3, none⟩ u).setCell ⟨g, k * 3 + 2, none⟩ v) := fun u v => ((Keeps.refl _ w).set1 _ _).set1 _ _
  have hng : ∀ x, (D x ∧ x ≠ b ∧ x ≠ g) → ¬ oneB g x := fun x hx h => hx.2.2 h
  obtain ⟨_, a0, c0, hv0, _⟩ := h.now k hk
  obtain ⟨_, a1, c1, hv1, _⟩ := h.st k hk
  rw [hv0] at h0
  rw [hv1] at h1
  have HV := Lib.hid hv1
  have HH := Lib.hid h
  clear h hv0 hv1
  go_enter Try.func31, Try.ntmps31
  go_wp2_with fail
  go_end0
  have h := HH.out
  refine ⟨⟨rfl, (hkp _ _).mono (fun x _ hx => by unfold oneB at hx; subst hx; exact h.ing)⟩, ⟨h.ne, h.inb, h.ing, h.le, ?_, (hkp _ _).blk h.ptr (fun hx => h.ne hx), ?_, fun j hj => ?_, fun j hj => (h.st j hj).keep (hkp _ _) hng⟩⟩
  · intro x hx; rw [setCell_size, setCell_size]; exact h.lt x hx
  · rw [← drow_set2 n _ _ lo hk, ← drow_set0 n va vb lo hk, HV.out]
    exact heap_setCell_same _ _ _ _ (heap_setCell_same _ _ _ _ h.row)
  · by_cases e : j = k
    · subst e; unfold up; rw [if_pos rfl, if_pos rfl]; exact (h.st j hj).keep (hkp _ _) hng
    · unfold up; rw [if_neg e, if_neg e]; exact (h.now j hj).keep (hkp _ _) hng

/-- v is a slice of numbers, in memory from block B on (or nil). -/
def OwnI (w : World) (B : Nat) (v : Value) (l : List Int) : Prop := w.ownsRow B 3 1 v l.length (l.map (Value.int .i64))
theorem info3 : (Try.prog.info? 3).map (fun i => (i.zero, i.size, i.bytes)) = some (some (.int .i64 0), 1, 8) := by kernel_rfl
def looN (lo : Nat → Bool) : Nat → List Int
  | 0 => []
  | k + 1 => if lo k then looN lo k ++ [(k : Int)] else looN lo k
theorem looN_le (lo : Nat → Bool) (k : Nat) : (looN lo k).length ≤ k := by
  induction k with
  | zero => simp [looN]
  | succ k ih =>
    unfold looN
    split
    · simp; omega
    · omega

set_option maxRecDepth 100000 in
set_option maxHeartbeats 4000000 in
theorem loose_c {w : World} {D : Nat → Prop} {b g n : Nat} {now st : Nat → List Int} {lo : Nat → Bool} {va vb : Nat → Value} (h : DrAt w D b g n now st lo va vb) :
    Calls Try.prog 15 #[.pointer (some ⟨b, 0, none⟩)] w fun e w' => ∃ v, RetK noB v w e w' ∧ OwnI w' w.heap.size v (looN lo n) := by
  obtain ⟨i0, hi, hz0, hz1, hz2⟩ := info_parts info3
  have hc := blk_cell h.ptr (i := 0) rfl
  have h6 := h.le
  go_enter Try.func15, Try.ntmps15
  go_wp2_with fail
  go_loopw [3, 11] (fun v i wr => ∃ k : Nat, k ≤ n ∧ i = .int .i64 k ∧ Keeps noB w wr ∧ OwnI wr w.heap.size v (looN lo k))
    (fun _ i _ => n - (intOf i).toNat)
  case atStart => exact ⟨0, by omega, rfl, Keeps.refl _ _, World.ownsRow_nil _ _ _ _⟩
  case round =>
    obtain ⟨k, hk, rfl, hkp, hown⟩ := hrel
    have hsz := hkp.size
    by_cases hlt : k < n
    · have hr := hkp.blk h.row (noB_not _)
      have h0 := blk_cell hr (drow_0 n va vb lo hlt)
      have h1 := blk_cell hr (drow_1 n va vb lo hlt)
      have h2 := blk_cell hr (drow_2 n va vb lo hlt)
      obtain ⟨_, a0, c0, hv0, _⟩ := h.now k hlt
      obtain ⟨_, a1, c1, hv1, _⟩ := h.st k hlt
      rw [hv0] at h0
      rw [hv1] at h1
      have hle := looN_le lo k
      cases hlo : lo k
      · have hh : looN lo (k + 1) = looN lo k := by rw [looN, hlo, if_neg (by simp)]
        have HH := Lib.hid hh
        rw [hlo] at h2
        have HR := Lib.hid hr
        clear hh hr hc
        go_wp2_with fail
        go_roundw
        case rel => exact ⟨k + 1, by omega, by go_num, hkp.alloc _, by rw [HH.out]; exact hown.alloc _⟩
        case measure => simp [intOf]; omega
      · have hh : looN lo (k + 1) = looN lo k ++ [(k : Int)] := by rw [looN, hlo, if_pos rfl]
        have HH := Lib.hid hh
        rw [hlo] at h2
        have HR := Lib.hid hr
        clear hh hr hc
        go_wp2_with (at_builtin; refine wpList_append1 rfl _ _ 34 rfl w.heap.size 3 i0 (.int .i64 0) 1 8 Try.underlying34 hi hz0 hz1 hz2 rfl (by decide) _ _ _ rfl ((hown.alloc _).alloc _) (wr.heap.size + 1) 1 [.int .i64 k] 3 (0, 0) rfl ?d1 rfl rfl ?d3 ?d4 ?d5 ?_)
        case d1 => rw [← alloc_size wr]; exact heap_alloc_new _ _
        case d3 => omega
        case d4 => omega
        case d5 => rw [alloc_size, alloc_size]; omega
        · intro v' w1 hown' hgrow
          have hk1 : Keeps noB w w1 := ((hkp.alloc _).alloc _).own ((hown.alloc _).alloc _) (Nat.le_refl _) hgrow
          clear hgrow
          go_wp2_with fail
          go_roundw
          case rel => exact ⟨k + 1, by omega, by go_num, hk1, by unfold OwnI; rw [HH.out]; simpa using hown'⟩
          case measure => simp [intOf]; omega
    · have : k = n := by omega
      subst this
      go_wp2_with fail
      go_ret
      exact ⟨_, ⟨rfl, hkp⟩, hown⟩
end Go.Proofs.Yteoafecdlnaecaa
