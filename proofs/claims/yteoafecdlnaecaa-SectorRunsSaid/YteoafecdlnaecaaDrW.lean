/- The drive: Write. No condition. -/
import Derived.Test.YteoafecdlnaecaaDr
namespace Go.Proofs.Yteoafecdlnaecaa
open Go.RowKit

def okW (n : Nat) (i : Int) (l : List Int) : Bool := inD n i && decide (l.length ≤ 100)

theorem DrAt.write {w1 : World} {D : Nat → Prop} {b g n : Nat} {now st : Nat → List Int} {lo : Nat → Bool} {va vb : Nat → Value} (h : DrAt w1 D b g n now st lo va vb) {k B : Nat} (hk : k < n) (hB : ∀ x, D x → x < B) {a' : Option Addr} {c' : Nat} {l : List Int}
    (hO : ByO w1 B a' c' l) (hl : l.length ≤ 100) :
    DrAt ((w1.setCell ⟨g, k * 3, none⟩ (.slice a' l.length c')).setCell ⟨g, k * 3 + 2, none⟩ (.bool true)) (fun x => D x ∨ (B ≤ x ∧ x < w1.heap.size)) b g n (up now k l) st (up lo k true) (up va k (.slice a' l.length c')) vb := by
  have hkp : Keeps (oneB g) w1 ((w1.setCell ⟨g, k * 3, none⟩ (.slice a' l.length c')).setCell ⟨g, k * 3 + 2, none⟩ (.bool true)) := ((Keeps.refl _ w1).set1 _ _).set1 _ _
  have hng : ∀ x, ((D x ∨ (B ≤ x ∧ x < w1.heap.size)) ∧ x ≠ b ∧ x ≠ g) → ¬ oneB g x := fun x hx h => hx.2.2 h
  refine ⟨h.ne, .inl h.inb, .inl h.ing, h.le, ?_, ?_, ?_, ?_, ?_⟩
  · intro x hx
    rw [setCell_size, setCell_size]
    rcases hx with hx | hx
    · exact h.lt x hx
    · exact hx.2
  · exact hkp.blk h.ptr (fun hx => h.ne hx)
  · rw [← drow_set2 n _ vb lo hk, ← drow_set0 n va vb lo hk]
    exact heap_setCell_same _ _ _ _ (heap_setCell_same _ _ _ _ h.row)
  · intro j hj
    by_cases e : j = k
    · subst e
      unfold up
      rw [if_pos rfl, if_pos rfl]
      refine ByV.keep (w := w1) ⟨hl, a', c', rfl, hO.byr.mono (fun x hx hB' => ⟨.inr ⟨hB', hx⟩, ?_, ?_⟩)⟩ hkp hng
      · have := hB b h.inb; omega
      · have := hB g h.ing; omega
    · unfold up
      rw [if_neg e, if_neg e]
      exact ((h.now j hj).mono (fun x _ hx => ⟨.inl hx.1, hx.2⟩)).keep hkp hng
  · intro j hj
    exact ((h.st j hj).mono (fun x _ hx => ⟨.inl hx.1, hx.2⟩)).keep hkp hng

set_option maxRecDepth 100000 in
set_option maxHeartbeats 4000000 in
theorem write_c {w : World} {D : Nat → Prop} {b g n : Nat} {now st : Nat → List Int} {lo : Nat → Bool} {va vb : Nat → Value} (h : DrAt w D b g n now st lo va vb) (i : Int) (E : Nat → Prop) (a : Option Addr) (l : List Int) (cap : Nat) (hl : l.length ≤ 140737488351232) (hr : ByR w E a l) :
    Calls Try.prog 12 #[.pointer (some ⟨b, 0, none⟩), .int .i64 i, .slice a l.length cap] w fun e w' => RetK D (.int .i64 (if okW n i l then 0 else 51)) w e w' ∧
      ∃ D' va', (∀ x, D x → D' x) ∧ (∀ x, D' x → D x ∨ w.heap.size ≤ x) ∧ DrAt w' D' b g n (if okW n i l then up now i.toNat l else now) st (if okW n i l then up lo i.toNat true else lo) va' vb := by
  cases hin : inD n i
  · have hk : okW n i l = false := by unfold okW; rw [hin]; rfl
    simp only [hk, Bool.false_eq_true, if_false]
    go_enter Try.func12, Try.ntmps12
    go_wp2_with (go_at_call 25; refine (there_c h i).mono ?_; rintro e w' ⟨rfl, rfl⟩; rw [hin])
    go_ret
    exact ⟨⟨rfl, Keeps.refl _ _⟩, D, va, fun _ h => h, fun _ h => .inl h, h⟩
  · by_cases hlen : l.length ≤ 100
    · obtain ⟨k, rfl, hk⟩ := inD_open hin
      have hok : okW n k l = true := by unfold okW; rw [hin, decide_eq_true hlen]; rfl
      simp only [hok, if_true, Int.toNat_natCast]
      have hd : decide ((l.length : Int) > 100) = false := decide_eq_false (by omega)
      have hC := clone_c l (by omega) E a cap _ (hr.keep ((Keeps.refl noB w).drewN 1) (fun b _ => noB_not b))
      go_enter Try.func12, Try.ntmps12
      go_wp2_with (go_at_call 25; refine (there_c h k).mono ?_; rintro e w' ⟨rfl, rfl⟩; rw [hin])
      have hc := blk_cell h.ptr (i := 0) rfl
      go_upto_region 3 with fail
      go_region_with (go_at_call 26; refine hC.mono ?_; rintro e w1 ⟨a', c', ⟨rfl, hk1⟩, hO⟩; have hkk : Keeps noB w w1 := ((Keeps.refl noB w).drewN 1).trans_no hk1; have h1 := h.keep hkk (fun x _ => noB_not x); have hc1 := blk_cell h1.ptr (i := 0) rfl; have h10 := blk_cell h1.row (drow_0 n va vb lo hk); have h12 := blk_cell h1.row (drow_2 n va vb lo hk); have f10 := blk_free h1.row (k * 3); have f12 := blk_free h1.row (k * 3 + 2))
      all_goals go_wp2_with fail
      all_goals go_ret
      all_goals
        refine ⟨⟨rfl, (hkk.of_no.setCell _ _ (.inl h.ing)).setCell _ _ (.inl h.ing)⟩, _, _, fun x hx => .inl hx, fun x hx => hx.elim .inl (fun hx => .inr hx.1), h1.write hk (fun x hx => h.lt x hx) hO hlen⟩
    · have hok : okW n i l = false := by unfold okW; rw [decide_eq_false hlen]; simp
      simp only [hok, Bool.false_eq_true, if_false]
      have hd : decide ((l.length : Int) > 100) = true := decide_eq_true (by omega)
      go_enter Try.func12, Try.ntmps12
      go_wp2_with (go_at_call 25; refine (there_c h i).mono ?_; rintro e w' ⟨rfl, rfl⟩; rw [hin])
      go_ret
      exact ⟨⟨rfl, Keeps.refl _ _⟩, D, va, fun _ h => h, fun _ h => .inl h, h⟩
end Go.Proofs.Yteoafecdlnaecaa
