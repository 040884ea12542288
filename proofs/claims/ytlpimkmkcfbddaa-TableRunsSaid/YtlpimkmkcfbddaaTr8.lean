/- A table beside the document's: all answers. No condition. -/
import Derived.Test.YtlpimkmkcfbddaaTr7
import Derived.Test.YtlpimkmkcfbddaaTabAlive
namespace Go.Proofs.Ytlpimkmkcfbddaa
open Go.RowKit

theorem TabAt.no {w w1 : World} {b : Nat} {T : TB} (h : TabAt w b T) (k : Keeps noB w w1) : TabAt w1 b T := h.keep k (noB_not _)
/-- The table, the document's table, and what is asked at the end. -/
structure TI (w wr : World) (bq b bw : Nat) (Q : Array Value) (T : TB) : Prop where
  kp : Keeps noB w wr
  tb : TabAt wr b T
  rt : RtAt wr bw T
  qq : wr.heap[bq]? = some (.cells Q 27 (0, 0))
  inv : T.Inv
  lo : w.heap.size ≤ b ∧ w.heap.size ≤ bw
  ne : b ≠ bw ∧ bq ≠ b ∧ bq ≠ bw
theorem TI.no {w wr w1 : World} {bq b bw : Nat} {Q : Array Value} {T : TB} (h : TI w wr bq b bw Q T) (hk : Keeps noB wr w1) : TI w w1 bq b bw Q T :=
  ⟨h.kp.trans_no hk, h.tb.no hk, h.rt.no hk, hk.blk h.qq (noB_not _), h.inv, h.lo, h.ne⟩
theorem TI.step {w wr w3 w4 : World} {bq b bw : Nat} {Q : Array Value} {T T' : TB} (h : TI w wr bq b bw Q T) (hk3 : Keeps (oneB b) wr w3) (ht3 : TabAt w3 b T') (hi : T'.Inv) (hk4 : Keeps noB w3 w4) : TI w (w4.setRow bw (rcells T')) bq b bw Q T' := by
  obtain ⟨n1, n2, n3⟩ := h.ne
  have k4 : Keeps (oneB bw) w4 (w4.setRow bw (rcells T')) := (Keeps.refl _ _).setRow _ _ (.inl rfl)
  refine ⟨((h.kp.trans hk3 (fun y hy e => by unfold oneB at e; have := h.lo.1; omega)).trans_no hk4).trans k4 (fun y hy e => by unfold oneB at e; have := h.lo.2; omega), k4.blk (hk4.blk ht3 (noB_not _)) n1, ?_, ?_, hi, h.lo, h.ne⟩
  · exact setRow_heap' (hk4.blk (hk3.blk h.rt (fun e => n1 e.symm)) (noB_not _))
  · exact k4.blk (hk4.blk (hk3.blk h.qq n2) (noB_not _)) n3
theorem range_row {w : World} {b : Nat} {T : TB} {L : List Value} (h : RtAt w b T) (hL : L = (rcells T).toList) : w.rangeAt b 0 L := fun j v hv => by
  rw [hL, Array.getElem?_toList] at hv
  rw [Nat.zero_add]
  exact blk_cell h hv
/-- How the whole table is read. -/
def LdR (w : World) (bw : Nat) (V : Value) : Prop := (Instr.loadAt 46 (.pointer (some ⟨bw, 0, none⟩))).run Try.prog w = .ok V w ∧ (loadVar 46 ⟨bw, 0, none⟩).run Try.prog w = .ok V w
theorem ld_row {w : World} {b : Nat} {T : TB} {V : Value} (h : RtAt w b T) (hV : V = .agg (rcells T)) : LdR w b V := by
  subst hV
  exact ⟨run_loadAt_mid w b 0 46 (rcells T).toList _ (range_row h rfl) Try.underlying46 rfl (by rw [Array.length_toList]; exact info46' T), run_loadVar_mid w b 0 46 (rcells T).toList _ (range_row h rfl) Try.underlying46 rfl (by rw [Array.length_toList]; exact info46' T)⟩
section
variable {w wr w' : World} {bq b bw : Nat} {Q : Array Value} {T : TB}
theorem TI.c26 (h : TI w wr bq b bw Q T) (hk : Keeps noB wr w') (c p : Int) : Calls Try.prog 26 #[.pointer (some ⟨b, 0, none⟩), .int .i64 c, .int .i64 p] w' fun e w2 => e = .returned (.int .i64 (mv (T.copies c p))) ∧ Keeps noB wr w2 :=
  (copies_c c p b T w' (h.tb.no hk)).mono (by rintro e w2 ⟨he, rfl⟩; exact ⟨he, hk⟩)
theorem TI.c25 (h : TI w wr bq b bw Q T) (hk : Keeps noB wr w') (c p : Int) : Calls Try.prog 25 #[.pointer (some ⟨b, 0, none⟩), .int .i64 c, .int .i64 p] w' fun e w2 => e = .returned (.int .i64 (mv (T.owns c p))) ∧ Keeps noB wr w2 :=
  (own_c c p b T w' (h.tb.no hk)).mono (by rintro e w2 ⟨he, rfl⟩; exact ⟨he, hk⟩)
theorem TI.c27 (h : TI w wr bq b bw Q T) (hk : Keeps noB wr w') (c p : Int) : Calls Try.prog 27 #[.pointer (some ⟨b, 0, none⟩), .int .i64 c, .int .i64 p] w' fun e w2 => e = .returned (.int .i64 (mv (T.free c p))) ∧ Keeps noB wr w2 :=
  (free_c c p b T w' (h.tb.no hk)).mono (by rintro e w2 ⟨he, hk2⟩; exact ⟨he, hk.trans_no hk2⟩)
theorem TI.c28 (h : TI w wr bq b bw Q T) (hk : Keeps noB wr w') (c p : Int) : Calls Try.prog 28 #[.pointer (some ⟨b, 0, none⟩), .int .i64 c, .int .i64 p] w' fun e w2 => e = .returned (.bool (T.alone c p)) ∧ Keeps noB wr w2 :=
  (alone_c c p b T w' (h.tb.no hk)).mono (by rintro e w2 ⟨he, hk2⟩; exact ⟨he, hk.trans_no hk2⟩)
theorem TI.c33 {V : Value} (hV : V = .agg (rcells T)) (hk : Keeps noB wr w') (c p : Int) : Calls Try.prog 33 #[V, .int .i64 c, .int .i64 p] w' fun e w2 => e = .returned (.int .i64 (mv (T.copies c p))) ∧ Keeps noB wr w2 := by
  subst hV
  exact (copies_r c p T w').mono (by rintro e w2 ⟨he, hk2⟩; exact ⟨he, hk.trans_no hk2⟩)
theorem TI.c34 {V : Value} (hV : V = .agg (rcells T)) (hk : Keeps noB wr w') (c p : Int) : Calls Try.prog 34 #[V, .int .i64 c, .int .i64 p] w' fun e w2 => e = .returned (.int .i64 (mv (T.owns c p))) ∧ Keeps noB wr w2 := by
  subst hV
  exact (owns_r c p T w').mono (by rintro e w2 ⟨he, hk2⟩; exact ⟨he, hk.trans_no hk2⟩)
theorem TI.c35 {V : Value} (hV : V = .agg (rcells T)) (hk : Keeps noB wr w') (c p : Int) : Calls Try.prog 35 #[V, .int .i64 c, .int .i64 p] w' fun e w2 => e = .returned (.int .i64 (mv (T.free c p))) ∧ Keeps noB wr w2 := by
  subst hV
  exact (free_r c p T w').mono (by rintro e w2 ⟨he, hk2⟩; exact ⟨he, hk.trans_no hk2⟩)
theorem TI.c36 {V : Value} (hV : V = .agg (rcells T)) (hi : T.Inv) (hk : Keeps noB wr w') (c p : Int) : Calls Try.prog 36 #[V, .int .i64 c, .int .i64 p] w' fun e w2 => e = .returned (.bool (T.alone c p)) ∧ Keeps noB wr w2 := by
  subst hV
  exact (alone_r c p T hi w').mono (by rintro e w2 ⟨he, hk2⟩; exact ⟨he, hk.trans_no hk2⟩)
theorem TI.c38 {V : Value} (hV : V = .agg (rcells T)) (hk : Keeps noB wr w') (c p j : Int) (wb : Bool) : Calls Try.prog 38 #[V, .int .i64 c, .int .i64 p, .int .i64 j, .bool wb] w' fun e w2 => ∃ a n, e = .returned (.slice a (T.holders c p j wb).length n) ∧ Keeps noB wr w2 ∧ NumR w2 (.slice a (T.holders c p j wb).length n) (T.holders c p j wb) := by
  subst hV
  refine (holders_r c p j wb T w').mono ?_
  rintro e w2 ⟨v, ⟨he, hk2⟩, ho⟩
  obtain ⟨a, n, rfl⟩ := OwnN.slice ho
  exact ⟨a, n, he, hk.trans_no hk2, OwnN.num ho⟩
theorem TI.c29 (h : TI w wr bq b bw Q T) (hk : Keeps noB wr w') (c p j : Int) (wb : Bool) : Calls Try.prog 29 #[.pointer (some ⟨b, 0, none⟩), .int .i64 c, .int .i64 p, .int .i64 j, .bool wb] w' fun e w2 => ∃ a n, e = .returned (.slice a (T.holders c p j wb).length n) ∧ Keeps noB wr w2 ∧ Keeps noB w' w2 ∧ NumR w2 (.slice a (T.holders c p j wb).length n) (T.holders c p j wb) := by
  refine (holders_c c p j wb b T w' (h.tb.no hk)).mono ?_
  rintro e w2 ⟨v, ⟨he, hk2⟩, ho⟩
  obtain ⟨a, n, rfl⟩ := OwnN.slice ho
  exact ⟨a, n, he, hk.trans_no hk2, hk2, OwnN.num ho⟩
end
theorem holders_few (T : TB) (c p j : Int) (wb : Bool) : (T.holders c p j wb).length ≤ 4 := by
  unfold TB.holders
  split
  · exact holdN_le _ _ _ _ _ _
  · simp
theorem built46 : Try.prog.built 46 [] = some (rcells TB.zero) := by kernel_rfl
end Go.Proofs.Ytlpimkmkcfbddaa
