/- Once, in order: two ends and what lies between, in memory. Each block is told by a number whose it is. No condition. -/
import Derived.Test.YtoeikgaikdbpbaaLkOnP
namespace Go.Proofs.Ytoeikgaikdbpbaa
open Go.RowKit

theorem LkAt.mono {w : World} {S S' : Nat → Prop} {p : Nat} {k : Lk} {vi : Value} (h : LkAt w S p k vi) (h1 : ∀ x, S x → S' x) (h2 : ∀ x, S' x → x < w.heap.size) : LkAt w S' p k vi :=
  ⟨h1 _ h.inS, h2, h.ptr, h.its.mono (fun x hx _ => h1 x hx), fun t ht => ⟨(h.bods t ht).1.mono (fun x hx _ => h1 x hx), (h.bods t ht).2⟩, h.few, h.sb, h.hb⟩
def scell (l : List Int) : Value := .string (strOf l)
/-- A slice of strings of its own. -/
structure StT (w : World) (D : Nat → Prop) (v : Value) (l : List (List Int)) : Prop where
  own : w.ownsRow 0 9 1 v l.length (l.map scell)
  at_ : ∀ y, v.ownBlock = some y → D y
theorem StT.keep {w w1 : World} {D D' : Nat → Prop} {v : Value} {l : List (List Int)} {F : Nat → Prop} (h : StT w D v l) (hk : Keeps F w w1) (hF : ∀ y, D y → ¬ F y) (hD : ∀ y, D y → D' y) : StT w1 D' v l :=
  ⟨own_keep h.own hk (fun k _ _ e => hF k (h.at_ k e)), fun y hy => hD y (h.at_ y hy)⟩
theorem StT.slice {w : World} {D : Nat → Prop} {v : Value} {l : List (List Int)} (h : StT w D v l) : ∃ a c, v = .slice a l.length c := by
  obtain ⟨_, h⟩ := h.own
  rcases h with ⟨rfl, h0⟩ | ⟨g, cap, cur, rfl, _⟩
  · exact ⟨none, 0, by rw [h0]⟩
  · exact ⟨_, _, rfl⟩
theorem StT.cell {w : World} {D : Nat → Prop} {a : Option Addr} {n c : Nat} {l : List (List Int)} (h : StT w D (.slice a n c) l) {i : Nat} (hi : i < l.length) : ∃ g, a = some ⟨g, 0, none⟩ ∧ w.cell? ⟨g, i, none⟩ = some (scell l[i]) := by
  obtain ⟨_, h⟩ := h.own
  rcases h with ⟨_, h0⟩ | ⟨g, cap, cur, e, _, hg, _, _, _, ht⟩
  · rw [h0] at hi; omega
  · simp at e
    obtain ⟨rfl, _, rfl⟩ := e
    refine ⟨g, rfl, ?_⟩
    rw [cell_of_row w g i cur 9 (0, 0) hg]
    have h1 : (cur.toList.take (l.length * 1))[i]? = (l.map scell)[i]? := by rw [ht]
    rw [List.getElem?_take, if_pos (by omega), Array.getElem?_toList] at h1
    rw [h1, List.getElem?_map, List.getElem?_eq_getElem hi]
    rfl
def qcells (q : Pq) (a : Option Addr) (c : Nat) : Array Value := #[.int .i64 q.c, .int .i64 q.e, .int .i64 q.b, .int .i64 q.s, .int .i64 q.k, .bool q.v, .slice a q.l.length c]
/-- Packets in a slice of their own. -/
structure WyT (w : World) (D : Nat → Prop) (v : Value) (W : List Pq) : Prop where
  own : ∃ xs : List Value, w.ownsRow 0 24 7 v W.length xs ∧ ∀ i (h : i < W.length), ∃ a c, (∀ j, j < 7 → xs[i * 7 + j]? = (qcells W[i] a c)[j]?) ∧ ByS w D a c W[i].l
  at_ : ∀ y, v.ownBlock = some y → D y
theorem WyT.keep {w w1 : World} {D D' : Nat → Prop} {v : Value} {W : List Pq} {F : Nat → Prop} (h : WyT w D v W) (hk : Keeps F w w1) (hF : ∀ y, D y → ¬ F y) (hD : ∀ y, D y → D' y) : WyT w1 D' v W := by
  obtain ⟨xs, ho, hx⟩ := h.own
  refine ⟨⟨xs, own_keep ho hk (fun k _ _ e => hF k (h.at_ k e)), fun i hi => ?_⟩, fun y hy => hD y (h.at_ y hy)⟩
  obtain ⟨a, c, h1, h2⟩ := hx i hi
  exact ⟨a, c, h1, (h2.keep hk (fun x hf hs => absurd hf (hF x hs))).mono (fun b hb _ => hD b hb)⟩
theorem WyT.slice {w : World} {D : Nat → Prop} {v : Value} {W : List Pq} (h : WyT w D v W) : ∃ a c, v = .slice a W.length c := by
  obtain ⟨xs, ⟨_, h⟩, _⟩ := h.own
  rcases h with ⟨rfl, h0⟩ | ⟨g, cap, cur, rfl, _⟩
  · exact ⟨none, 0, by rw [h0]⟩
  · exact ⟨_, _, rfl⟩
theorem WyT.cells {w : World} {D : Nat → Prop} {a : Option Addr} {n c : Nat} {W : List Pq} (h : WyT w D (.slice a n c) W) {i : Nat} (hi : i < W.length) : ∃ g a' c', a = some ⟨g, 0, none⟩ ∧ (∀ j, j < 7 → w.cell? ⟨g, i * 7 + j, none⟩ = (qcells W[i] a' c')[j]?) ∧ ByR w D a' W[i].l := by
  obtain ⟨xs, ⟨hl, ho⟩, hx⟩ := h.own
  obtain ⟨a', c', h1, h2⟩ := hx i hi
  rcases ho with ⟨_, h0⟩ | ⟨g, cap, cur, e, _, hg, _, _, _, ht⟩
  · omega
  · simp at e
    obtain ⟨rfl, _, rfl⟩ := e
    refine ⟨g, a', c', rfl, fun j hj => ?_, h2.byr⟩
    rw [cell_of_row w g _ cur 24 (0, 0) hg, ← h1 j hj, ← ht, List.getElem?_take, if_pos (by omega), Array.getElem?_toList]
/-- Whose the new blocks are. -/
def tagN (T : Nat → Nat) (d a b : Nat) (y : Nat) : Nat := if a ≤ y ∧ y < b then d else T y
theorem tagN_eq {T : Nat → Nat} {d a b e : Nat} (th : ∀ y, T y ≠ 0 → y < a) (h1 : e ≠ d) (h2 : e ≠ 0) : ∀ y, tagN T d a b y = e ↔ T y = e := by
  intro y
  unfold tagN
  split
  · rename_i h
    constructor
    · intro h'; omega
    · intro h'; have := th y (by omega); omega
  · exact Iff.rfl
/-- The two ends, what was handed in and told at each, and what is on its way. -/
structure OnI (w wr : World) (T : Nat → Nat) (ba bi bo : Nat) (p : Nat → Nat) (K : Nat → Lk) (vI vO : Nat → Value) (vW : Value) (I O : Nat → List (List Int)) (W : List Pq) : Prop where
  kp : Keeps noB w wr
  tl : ∀ y, T y ≠ 0 → w.heap.size ≤ y
  th : ∀ y, T y ≠ 0 → y < wr.heap.size
  lk : ∀ j, j < 2 → ∃ vi, LkAt wr (fun y => T y = 1 + j) (p j) (K j) vi
  si : ∀ j, j < 2 → StT wr (fun y => T y = 3 + j) (vI j) (I j)
  so : ∀ j, j < 2 → StT wr (fun y => T y = 5 + j) (vO j) (O j)
  wy : WyT wr (fun y => T y = 7) vW W
  ar : wr.heap[ba]? = some (.cells #[.pointer (some ⟨p 0, 0, none⟩), .pointer (some ⟨p 1, 0, none⟩)] 29 (0, 0))
  ir : wr.heap[bi]? = some (.cells #[vI 0, vI 1] 31 (0, 0))
  or : wr.heap[bo]? = some (.cells #[vO 0, vO 1] 31 (0, 0))
  ta : T ba = 8
  ti : T bi = 9
  tz : T bo = 10
theorem OnI.no {w wr w1 : World} {T : Nat → Nat} {ba bi bo : Nat} {p : Nat → Nat} {K : Nat → Lk} {vI vO : Nat → Value} {vW : Value} {I O : Nat → List (List Int)} {W : List Pq} (h : OnI w wr T ba bi bo p K vI vO vW I O W) (hk : Keeps noB wr w1) : OnI w w1 T ba bi bo p K vI vO vW I O W :=
  ⟨h.kp.trans_no hk, h.tl, fun y hy => Nat.lt_of_lt_of_le (h.th y hy) hk.size, fun j hj => by obtain ⟨vi, g⟩ := h.lk j hj; exact ⟨vi, g.no hk⟩, fun j hj => (h.si j hj).keep hk (fun _ _ => noB_not _) (fun _ g => g), fun j hj => (h.so j hj).keep hk (fun _ _ => noB_not _) (fun _ g => g), h.wy.keep hk (fun _ _ => noB_not _) (fun _ g => g), hk.blk h.ar (noB_not _), hk.blk h.ir (noB_not _), hk.blk h.or (noB_not _), h.ta, h.ti, h.tz⟩
/-- What stays where only blocks of d (and of d2) change, and the new ones are d's. -/
theorem OnI.parts {w wr w1 : World} {T : Nat → Nat} {ba bi bo : Nat} {p : Nat → Nat} {K : Nat → Lk} {vI vO : Nat → Value} {vW : Value} {I O : Nat → List (List Int)} {W : List Pq} (h : OnI w wr T ba bi bo p K vI vO vW I O W) {F : Nat → Prop} (hk : Keeps F wr w1) (d d2 : Nat) (hd : d ≠ 0) (hd2 : d2 ≠ 0) (hF : ∀ y, F y → T y = d ∨ T y = d2) :
    Keeps noB w w1 ∧ (∀ y, tagN T d wr.heap.size w1.heap.size y ≠ 0 → w.heap.size ≤ y) ∧ (∀ y, tagN T d wr.heap.size w1.heap.size y ≠ 0 → y < w1.heap.size) ∧
    (∀ j, j < 2 → 1 + j ≠ d → 1 + j ≠ d2 → ∃ vi, LkAt w1 (fun y => tagN T d wr.heap.size w1.heap.size y = 1 + j) (p j) (K j) vi) ∧
    (∀ j, j < 2 → 3 + j ≠ d → 3 + j ≠ d2 → StT w1 (fun y => tagN T d wr.heap.size w1.heap.size y = 3 + j) (vI j) (I j)) ∧
    (∀ j, j < 2 → 5 + j ≠ d → 5 + j ≠ d2 → StT w1 (fun y => tagN T d wr.heap.size w1.heap.size y = 5 + j) (vO j) (O j)) ∧
    (7 ≠ d → 7 ≠ d2 → WyT w1 (fun y => tagN T d wr.heap.size w1.heap.size y = 7) vW W) ∧
    (8 ≠ d2 → 8 ≠ d → w1.heap[ba]? = some (.cells #[.pointer (some ⟨p 0, 0, none⟩), .pointer (some ⟨p 1, 0, none⟩)] 29 (0, 0)) ∧ tagN T d wr.heap.size w1.heap.size ba = 8) ∧
    (9 ≠ d2 → 9 ≠ d → w1.heap[bi]? = some (.cells #[vI 0, vI 1] 31 (0, 0))) ∧ (9 ≠ d → tagN T d wr.heap.size w1.heap.size bi = 9) ∧
    (10 ≠ d2 → 10 ≠ d → w1.heap[bo]? = some (.cells #[vO 0, vO 1] 31 (0, 0))) ∧ (10 ≠ d → tagN T d wr.heap.size w1.heap.size bo = 10) := by
  have hw := h.kp.size
  have hs := hk.size
  have eq : ∀ e, e ≠ d → e ≠ 0 → ∀ y, tagN T d wr.heap.size w1.heap.size y = e ↔ T y = e := fun e h1 h2 => tagN_eq h.th h1 h2
  have nF : ∀ e, e ≠ d → e ≠ d2 → ∀ y, T y = e → ¬ F y := fun e h1 h2 y hy hf => by rcases hF y hf with g | g <;> omega
  refine ⟨h.kp.trans hk (fun y hy hf => by have := h.tl y (by rcases hF y hf with g | g <;> omega); omega), fun y hy => ?_, fun y hy => ?_, fun j hj h1 h2 => ?_, fun j hj h1 h2 => ?_, fun j hj h1 h2 => ?_, fun h1 h2 => ?_, fun h1 h2 => ⟨?_, ?_⟩, fun h1 h2 => ?_, fun h2 => ?_, fun h1 h2 => ?_, fun h2 => ?_⟩
  · unfold tagN at hy; split at hy; omega; exact h.tl y hy
  · unfold tagN at hy; split at hy; omega; have := h.th y hy; omega
  · obtain ⟨vi, g⟩ := h.lk j hj
    refine ⟨vi, (g.keep hk (fun x hx => nF (1 + j) h1 h2 x hx)).mono (fun x hx => (eq _ h1 (by omega) x).2 hx) (fun x hx => ?_)⟩
    have := h.th x (by have := (eq _ h1 (by omega) x).1 hx; omega)
    omega
  · exact (h.si j hj).keep hk (fun y hy => nF _ h1 h2 y hy) (fun y hy => (eq _ h1 (by omega) y).2 hy)
  · exact (h.so j hj).keep hk (fun y hy => nF _ h1 h2 y hy) (fun y hy => (eq _ h1 (by omega) y).2 hy)
  · exact h.wy.keep hk (fun y hy => nF _ h1 h2 y hy) (fun y hy => (eq _ h1 (by omega) y).2 hy)
  · exact hk.blk h.ar (nF _ h2 h1 _ h.ta)
  · exact (eq _ h2 (by omega) _).2 h.ta
  · exact hk.blk h.ir (nF _ h2 h1 _ h.ti)
  · exact (eq _ h2 (by omega) _).2 h.ti
  · exact hk.blk h.or (nF _ h2 h1 _ h.tz)
  · exact (eq _ h2 (by omega) _).2 h.tz
/-- An end has turned. -/
theorem OnI.turn {w wr w1 : World} {T : Nat → Nat} {ba bi bo : Nat} {p : Nat → Nat} {K : Nat → Lk} {vI vO : Nat → Value} {vW : Value} {I O : Nat → List (List Int)} {W : List Pq} (h : OnI w wr T ba bi bo p K vI vO vW I O W) {j : Nat} (hj : j < 2) (hk : Keeps (fun y => T y = 1 + j) wr w1)
    {S' : Nat → Prop} (hS : ∀ y, S' y → T y = 1 + j ∨ wr.heap.size ≤ y) {k' : Lk} {vi' : Value} (hl : LkAt w1 S' (p j) k' vi') : OnI w w1 (tagN T (1 + j) wr.heap.size w1.heap.size) ba bi bo p (upd K j k') vI vO vW I O W := by
  obtain ⟨a1, a2, a3, a4, a5, a6, a7, a8, a9, a10, a11, a12⟩ := h.parts hk (1 + j) (1 + j) (by omega) (by omega) (fun y hy => .inl hy)
  have hs := hk.size
  refine ⟨a1, a2, a3, fun i hi => ?_, fun i hi => a5 i hi (by omega) (by omega), fun i hi => a6 i hi (by omega) (by omega), a7 (by omega) (by omega), (a8 (by omega) (by omega)).1, a9 (by omega) (by omega), a11 (by omega) (by omega), (a8 (by omega) (by omega)).2, a10 (by omega), a12 (by omega)⟩
  by_cases e : i = j
  · subst e
    rw [upd_at]
    refine ⟨vi', hl.mono (fun x hx => ?_) (fun x hx => a3 x (by omega))⟩
    unfold tagN
    split
    · rfl
    · rcases hS x hx with g | g
      · exact g
      · have := hl.lt x hx; omega
  · rw [upd_ne _ _ e]; exact a4 i hi (by omega) (by omega)
/-- Something was handed in at an end. -/
theorem OnI.inp {w wr w1 : World} {T : Nat → Nat} {ba bi bo : Nat} {p : Nat → Nat} {K : Nat → Lk} {vI vO : Nat → Value} {vW : Value} {I O : Nat → List (List Int)} {W : List Pq} (h : OnI w wr T ba bi bo p K vI vO vW I O W) {j : Nat} (hj : j < 2) {v' : Value} {l : List Int}
    (hg : wr.grownBy w1 (vI j).ownBlock) (hown : w1.ownsRow 0 9 1 v' ((I j).length + 1) ((I j).map scell ++ [scell l])) (hob : v'.ownBlock = (vI j).ownBlock ∨ v'.ownBlock = some wr.heap.size) :
    OnI w (w1.setCell ⟨bi, j, none⟩ v') (tagN T (3 + j) wr.heap.size w1.heap.size) ba bi bo p K (upd vI j v') vO vW (upd I j (I j ++ [l])) O W := by
  have hk0 : Keeps (fun y => T y = 3 + j ∨ T y = 9) wr w1 := (Keeps.refl _ _).grown hg (fun k hk => .inr (.inl ((h.si j hj).at_ k hk)))
  have hk : Keeps (fun y => T y = 3 + j ∨ T y = 9) wr (w1.setCell ⟨bi, j, none⟩ v') := hk0.setCell _ _ (.inl (.inr h.ti))
  have hs : (w1.setCell ⟨bi, j, none⟩ v').heap.size = w1.heap.size := setCell_size _ _ _
  have hbi : w1.heap[bi]? = some (.cells #[vI 0, vI 1] 31 (0, 0)) := (hg.block bi (h.th bi (by have := h.ti; omega)) (fun e => by
    have h1 : T bi = 3 + j := (h.si j hj).at_ bi e.symm
    have h2 := h.ti
    omega)).trans h.ir
  have hir := heap_setCell_same w1 bi j v' hbi
  have hos : (w1.setCell ⟨bi, j, none⟩ v').ownsRow 0 9 1 v' ((I j).length + 1) ((I j).map scell ++ [scell l]) := own_keep hown ((Keeps.refl (oneB bi) w1).set1 j v') (fun k _ hk e hF => by
    unfold oneB at hF
    subst hF
    rcases hob with g | g
    · have h1 : T k = 3 + j := (h.si j hj).at_ k (g ▸ e); have h2 := h.ti; omega
    · rw [g] at e; simp at e; have := h.th k (by have := h.ti; omega); omega)
  obtain ⟨a1, a2, a3, a4, a5, a6, a7, a8, a9, a10, a11, a12⟩ := h.parts hk (3 + j) 9 (by omega) (by omega) (fun y hy => hy)
  rw [hs] at a2 a3 a4 a5 a6 a7 a8 a10 a12
  refine ⟨a1, a2, fun y hy => by rw [hs]; exact a3 y hy, fun i hi => a4 i hi (by omega) (by omega), fun i hi => ?_, fun i hi => a6 i hi (by omega) (by omega), a7 (by omega) (by omega), (a8 (by omega) (by omega)).1, ?_, a11 (by omega) (by omega), (a8 (by omega) (by omega)).2, a10 (by omega), a12 (by omega)⟩
  · by_cases e : i = j
    · subst e
      rw [upd_at, upd_at]
      refine ⟨by simpa using hos, fun y hy => ?_⟩
      unfold tagN
      split
      · rfl
      · rcases hob with g | g
        · exact (h.si i hi).at_ y (g ▸ hy)
        · have := (hown.lt y hy).2
          rw [g] at hy; simp at hy; omega
    · rw [upd_ne _ _ e, upd_ne _ _ e]; exact a5 i hi (by omega) (by omega)
  · rw [hir]
    rcases (show j = 0 ∨ j = 1 by omega) with rfl | rfl <;> rfl
/-- Something was told at an end. -/
theorem OnI.out {w wr w1 : World} {T : Nat → Nat} {ba bi bo : Nat} {p : Nat → Nat} {K : Nat → Lk} {vI vO : Nat → Value} {vW : Value} {I O : Nat → List (List Int)} {W : List Pq} (h : OnI w wr T ba bi bo p K vI vO vW I O W) {j : Nat} (hj : j < 2) {v' : Value} {l : List Int}
    (hg : wr.grownBy w1 (vO j).ownBlock) (hown : w1.ownsRow 0 9 1 v' ((O j).length + 1) ((O j).map scell ++ [scell l])) (hob : v'.ownBlock = (vO j).ownBlock ∨ v'.ownBlock = some wr.heap.size) :
    OnI w (w1.setCell ⟨bo, j, none⟩ v') (tagN T (5 + j) wr.heap.size w1.heap.size) ba bi bo p K vI (upd vO j v') vW I (upd O j (O j ++ [l])) W := by
  have hk0 : Keeps (fun y => T y = 5 + j ∨ T y = 10) wr w1 := (Keeps.refl _ _).grown hg (fun k hk => .inr (.inl ((h.so j hj).at_ k hk)))
  have hk : Keeps (fun y => T y = 5 + j ∨ T y = 10) wr (w1.setCell ⟨bo, j, none⟩ v') := hk0.setCell _ _ (.inl (.inr h.tz))
  have hs : (w1.setCell ⟨bo, j, none⟩ v').heap.size = w1.heap.size := setCell_size _ _ _
  have hbi : w1.heap[bo]? = some (.cells #[vO 0, vO 1] 31 (0, 0)) := (hg.block bo (h.th bo (by have := h.tz; omega)) (fun e => by
    have h1 : T bo = 5 + j := (h.so j hj).at_ bo e.symm
    have h2 := h.tz
    omega)).trans h.or
  have hir := heap_setCell_same w1 bo j v' hbi
  have hos : (w1.setCell ⟨bo, j, none⟩ v').ownsRow 0 9 1 v' ((O j).length + 1) ((O j).map scell ++ [scell l]) := own_keep hown ((Keeps.refl (oneB bo) w1).set1 j v') (fun k _ hk e hF => by
    unfold oneB at hF
    subst hF
    rcases hob with g | g
    · have h1 : T k = 5 + j := (h.so j hj).at_ k (g ▸ e); have h2 := h.tz; omega
    · rw [g] at e; simp at e; have := h.th k (by have := h.tz; omega); omega)
  obtain ⟨a1, a2, a3, a4, a5, a6, a7, a8, a9, a10, a11, a12⟩ := h.parts hk (5 + j) 10 (by omega) (by omega) (fun y hy => hy)
  rw [hs] at a2 a3 a4 a5 a6 a7 a8 a10 a12
  refine ⟨a1, a2, fun y hy => by rw [hs]; exact a3 y hy, fun i hi => a4 i hi (by omega) (by omega), fun i hi => a5 i hi (by omega) (by omega), fun i hi => ?_, a7 (by omega) (by omega), (a8 (by omega) (by omega)).1, a9 (by omega) (by omega), ?_, (a8 (by omega) (by omega)).2, a10 (by omega), a12 (by omega)⟩
  · by_cases e : i = j
    · subst e
      rw [upd_at, upd_at]
      refine ⟨by simpa using hos, fun y hy => ?_⟩
      unfold tagN
      split
      · rfl
      · rcases hob with g | g
        · exact (h.so i hi).at_ y (g ▸ hy)
        · have := (hown.lt y hy).2
          rw [g] at hy; simp at hy; omega
    · rw [upd_ne _ _ e, upd_ne _ _ e]; exact a6 i hi (by omega) (by omega)
  · rw [hir]
    rcases (show j = 0 ∨ j = 1 by omega) with rfl | rfl <;> rfl
/-- What is on its way has changed. -/
theorem OnI.wayN {w wr w1 : World} {T : Nat → Nat} {ba bi bo : Nat} {p : Nat → Nat} {K : Nat → Lk} {vI vO : Nat → Value} {vW vW' : Value} {I O : Nat → List (List Int)} {W W' : List Pq} (h : OnI w wr T ba bi bo p K vI vO vW I O W) (hk : Keeps (fun y => T y = 7) wr w1)
    (hw : WyT w1 (fun y => T y = 7 ∨ (wr.heap.size ≤ y ∧ y < w1.heap.size)) vW' W') : OnI w w1 (tagN T 7 wr.heap.size w1.heap.size) ba bi bo p K vI vO vW' I O W' := by
  obtain ⟨a1, a2, a3, a4, a5, a6, a7, a8, a9, a10, a11, a12⟩ := h.parts hk 7 7 (by omega) (by omega) (fun y hy => .inl hy)
  refine ⟨a1, a2, a3, fun i hi => a4 i hi (by omega) (by omega), fun i hi => a5 i hi (by omega) (by omega), fun i hi => a6 i hi (by omega) (by omega), hw.keep (Keeps.refl noB _) (fun _ _ => noB_not _) (fun y hy => ?_), (a8 (by omega) (by omega)).1, a9 (by omega) (by omega), a11 (by omega) (by omega), (a8 (by omega) (by omega)).2, a10 (by omega), a12 (by omega)⟩
  unfold tagN
  rcases hy with hy | hy
  · split
    · rfl
    · exact hy
  · rw [if_pos hy]
end Go.Proofs.Ytoeikgaikdbpbaa
