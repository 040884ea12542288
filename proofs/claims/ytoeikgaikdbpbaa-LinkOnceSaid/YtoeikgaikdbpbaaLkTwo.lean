/- Two links and the array of both. No condition. -/
import Derived.Test.YtoeikgaikdbpbaaLkEx
namespace Go.Proofs.Ytoeikgaikdbpbaa
open Go.RowKit

/-- Two links, apart, and the array of both. -/
structure TwoJ (w wr : World) (ba pA pB : Nat) (SA SB : Nat → Prop) (A B : Lk) (va vb : Value) : Prop where
  kp : Keeps noB w wr
  la : LkAt wr SA pA A va
  lb : LkAt wr SB pB B vb
  lo : ∀ y, SA y ∨ SB y → w.heap.size ≤ y ∧ y ≠ ba
  ap : ∀ y, SA y → ¬ SB y
  ar : wr.heap[ba]? = some (.cells #[.pointer (some ⟨pA, 0, none⟩), .pointer (some ⟨pB, 0, none⟩)] 29 (0, 0))
theorem TwoJ.no {w wr w1 : World} {ba pA pB : Nat} {SA SB : Nat → Prop} {A B : Lk} {va vb : Value} (h : TwoJ w wr ba pA pB SA SB A B va vb) (hk : Keeps noB wr w1) : TwoJ w w1 ba pA pB SA SB A B va vb :=
  ⟨h.kp.trans_no hk, h.la.no hk, h.lb.no hk, h.lo, h.ap, hk.blk h.ar (noB_not _)⟩
/-- The one end has turned. -/
theorem TwoJ.turnA {w wr w1 : World} {ba pA pB : Nat} {SA SB SA' : Nat → Prop} {A B A' : Lk} {va vb va' : Value} (h : TwoJ w wr ba pA pB SA SB A B va vb) (hk : Keeps SA wr w1) (hS : ∀ y, SA' y → SA y ∨ wr.heap.size ≤ y) (hl : LkAt w1 SA' pA A' va') : TwoJ w w1 ba pA pB SA' SB A' B va' vb :=
  ⟨h.kp.trans hk (fun y hy e => by have := (h.lo y (.inl e)).1; omega), hl, h.lb.keep hk (fun x hx e => h.ap x e hx), fun y hy => by
    have hb := lt_of_blk h.ar
    have := h.kp.size
    rcases hy with hy | hy
    · rcases hS y hy with g | g
      · exact h.lo y (.inl g)
      · exact ⟨by omega, by omega⟩
    · exact h.lo y (.inr hy), fun y hy hB => by
    rcases hS y hy with g | g
    · exact h.ap y g hB
    · have := h.lb.lt y hB; omega, hk.blk h.ar (fun e => (h.lo _ (.inl e)).2 rfl)⟩
theorem TwoJ.turnB {w wr w1 : World} {ba pA pB : Nat} {SA SB SB' : Nat → Prop} {A B B' : Lk} {va vb vb' : Value} (h : TwoJ w wr ba pA pB SA SB A B va vb) (hk : Keeps SB wr w1) (hS : ∀ y, SB' y → SB y ∨ wr.heap.size ≤ y) (hl : LkAt w1 SB' pB B' vb') : TwoJ w w1 ba pA pB SA SB' A B' va vb' :=
  ⟨h.kp.trans hk (fun y hy e => by have := (h.lo y (.inr e)).1; omega), h.la.keep hk (fun x hx e => h.ap x hx e), hl, fun y hy => by
    have hb := lt_of_blk h.ar
    have := h.kp.size
    rcases hy with hy | hy
    · exact h.lo y (.inl hy)
    · rcases hS y hy with g | g
      · exact h.lo y (.inr g)
      · exact ⟨by omega, by omega⟩, fun y hy hB => by
    rcases hS y hB with g | g
    · exact h.ap y hy g
    · have := h.la.lt y hy; omega, hk.blk h.ar (fun e => (h.lo _ (.inr e)).2 rfl)⟩
theorem TwoJ.fin {w wm w5 wf : World} {ba pA pB : Nat} {A B : Lk} {va vb : Value} {F : Nat → Prop} (hkw : Keeps noB w w5) (hA : LkAt wm (oneB pA) pA A va) (hm : Keeps noB wm w5) (hB : LkAt w5 (oneB pB) pB B vb) (hpA : w.heap.size ≤ pA) (hne : pA ≠ pB) (hpB : w.heap.size ≤ pB) (hf : Keeps F w5 wf)
    (hF : ∀ y, F y → w.heap.size ≤ y ∧ y ≠ pA ∧ y ≠ pB) (har : wf.heap[ba]? = some (.cells #[.pointer (some ⟨pA, 0, none⟩), .pointer (some ⟨pB, 0, none⟩)] 29 (0, 0))) (hba : ba ≠ pA ∧ ba ≠ pB) : TwoJ w wf ba pA pB (oneB pA) (oneB pB) A B va vb :=
  ⟨hkw.trans hf (fun y hy e => by have := (hF y e).1; omega), (hA.no hm).keep hf (fun x hx e => (hF x e).2.1 hx), hB.keep hf (fun x hx e => (hF x e).2.2 hx), fun y hy => by
    rcases hy with hy | hy
    · unfold oneB at hy; subst hy; exact ⟨hpA, hba.1.symm⟩
    · unfold oneB at hy; subst hy; exact ⟨hpB, hba.2.symm⟩, fun y h1 h2 => by unfold oneB at h1 h2; omega, har⟩
end Go.Proofs.Ytoeikgaikdbpbaa
