/- The desk: its frame. No condition. -/
import Derived.Test.YtlpimkmkcfbddaaDkA
namespace Go.Proofs.Ytlpimkmkcfbddaa
open Go.RowKit

/-- A desk, plainly: the table, who waits, who was called, what is to be told. -/
structure Dp where
  T : TB
  ws : List Wt
  l : List (Kc × Bool)
  al : List Ac
/-- The desk in memory, all of it within D. -/
def DkD (w : World) (D : Nat → Prop) (pd tb qp r : Nat) (s : Dp) : Prop :=
  ∃ S v av, DkAt w pd tb qp r S v av s.T s.ws s.l s.al ∧ D pd ∧ D tb ∧ (∀ y, S y → D y) ∧ (∀ k, av.ownBlock = some k → D k) ∧ ∀ y, D y → y < w.heap.size
/-- What a call does with a desk: it returns val, and writes into nothing else that was there. -/
def DkTo (w : World) (D : Nat → Prop) (pd tb qp r : Nat) (val : Value) (s : Dp) (e : Ending) (w' : World) : Prop :=
  e = .returned val ∧ Keeps D w w' ∧ ∃ D', (∀ y, D y → D' y) ∧ (∀ y, D' y → D y ∨ w.heap.size ≤ y) ∧ DkD w' D' pd tb qp r s
section
variable {w w1 w2 : World} {D D1 D2 : Nat → Prop} {pd tb qp r : Nat} {s s1 s2 : Dp}
theorem DkD.no (h : DkD w D pd tb qp r s) (hk : Keeps noB w w1) : DkD w1 D pd tb qp r s := by
  obtain ⟨S, v, av, h1, h2, h3, h4, h5, h6⟩ := h
  exact ⟨S, v, av, h1.no hk, h2, h3, h4, h5, fun y hy => Nat.lt_of_lt_of_le (h6 y hy) hk.size⟩
/-- One step after another. -/
structure DkS (w w1 : World) (D D1 : Nat → Prop) (pd tb qp r : Nat) (s1 : Dp) : Prop where
  kp : Keeps D w w1
  up : ∀ y, D y → D1 y
  dn : ∀ y, D1 y → D y ∨ w.heap.size ≤ y
  at_ : DkD w1 D1 pd tb qp r s1
theorem DkS.refl (h : DkD w D pd tb qp r s) : DkS w w D D pd tb qp r s := ⟨Keeps.refl _ _, fun _ h => h, fun _ h => .inl h, h⟩
theorem DkS.no (h : DkS w w1 D D1 pd tb qp r s) (hk : Keeps noB w1 w2) : DkS w w2 D D1 pd tb qp r s := ⟨h.kp.trans_no hk, h.up, h.dn, h.at_.no hk⟩
theorem DkS.trans (h : DkS w w1 D D1 pd tb qp r s) (k : DkS w1 w2 D1 D2 pd tb qp r s2) : DkS w w2 D D2 pd tb qp r s2 :=
  ⟨h.kp.trans k.kp (fun y hy h1 => (h.dn y h1).elim id (fun h2 => absurd hy (by omega))), fun y hy => k.up y (h.up y hy), fun y hy => by
    rcases k.dn y hy with h1 | h1
    · exact h.dn y h1
    · exact .inr (Nat.le_trans h.kp.size h1), k.at_⟩
theorem DkS.to {val : Value} (h : DkS w w1 D D1 pd tb qp r s) : DkTo w D pd tb qp r val s (.returned val) w1 := ⟨rfl, h.kp, D1, h.up, h.dn, h.at_⟩
theorem DkTo.step {val : Value} {e : Ending} (h : DkTo w D pd tb qp r val s e w1) : e = .returned val ∧ ∃ D1, DkS w w1 D D1 pd tb qp r s := by
  obtain ⟨h1, h2, D1, h3, h4, h5⟩ := h
  exact ⟨h1, D1, h2, h3, h4, h5⟩
theorem DkS.not (h : DkS w w1 D D1 pd tb qp r s) {b : Nat} (hb : ¬ D b) (hl : b < w.heap.size) : ¬ D1 b := fun h1 => (h.dn b h1).elim hb (fun h2 => absurd hl (by omega))
end
/-- The queue was changed. -/
theorem DkD.queue {w w1 : World} {D : Nat → Prop} {pd tb qp r : Nat} {s : Dp} {ws' : List Wt} {l' : List (Kc × Bool)} {S S' : Nat → Prop} {v v' av : Value} (h : DkAt w pd tb qp r S v av s.T s.ws s.l s.al) (hp : D pd) (ht : D tb) (hS : ∀ y, S y → D y) (ha : ∀ k, av.ownBlock = some k → D k) (hD : ∀ y, D y → y < w.heap.size)
    (hk : Keeps S w w1) (hq : QAt w1 S' qp r v' ws' l') (hf : QF w1 S' v' ws') (h2 : ∀ y, S' y → S y ∨ w.heap.size ≤ y) : ∃ D1, DkS w w1 D D1 pd tb qp r { s with ws := ws', l := l' } := by
  refine ⟨fun y => D y ∨ S' y, hk.mono (fun y _ hy => hS y hy), fun y hy => .inl hy, fun y hy => hy.elim .inl (fun hy => (h2 y hy).imp (hS y) id), ⟨S', v', av, h.queue hk hq hf h2, .inl hp, .inl ht, fun y hy => .inr hy, fun k hk2 => .inl (ha k hk2), fun y hy => ?_⟩⟩
  rcases hy with hy | hy
  · exact Nat.lt_of_lt_of_le (hD y hy) hk.size
  · exact hq.lt y hy
/-- The table was changed. -/
theorem DkD.table {w w1 : World} {D : Nat → Prop} {pd tb qp r : Nat} {s : Dp} {T' : TB} {S : Nat → Prop} {v av : Value} (h : DkAt w pd tb qp r S v av s.T s.ws s.l s.al) (hp : D pd) (ht : D tb) (hS : ∀ y, S y → D y) (ha : ∀ k, av.ownBlock = some k → D k) (hD : ∀ y, D y → y < w.heap.size)
    (hk : Keeps (oneB tb) w w1) (hT : TabAt w1 tb T') : DkS w w1 D D pd tb qp r { s with T := T' } :=
  ⟨hk.mono (fun y _ hy => by unfold oneB at hy; subst hy; exact ht), fun _ h => h, fun _ h => .inl h, ⟨S, v, av, h.table hk hT h.ant, hp, ht, hS, ha, fun y hy => Nat.lt_of_lt_of_le (hD y hy) hk.size⟩⟩
end Go.Proofs.Ytlpimkmkcfbddaa
