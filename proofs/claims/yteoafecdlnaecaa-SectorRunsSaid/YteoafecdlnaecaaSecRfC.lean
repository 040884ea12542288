/- The reference's drive: Crash, Sync. No condition. -/
import Derived.Test.YteoafecdlnaecaaSecRfW
namespace Go.Proofs.Yteoafecdlnaecaa
open Go.RowKit

theorem OwE.slice {w : World} {B : Nat} {e : TypeId} {v : Value} {xs : List Value} (h : OwE w B e v xs) : ∃ a c, v = .slice a xs.length c := by
  rcases h with ⟨_, h⟩ | ⟨rfl, g, rfl⟩
  · rcases h with ⟨rfl, h0⟩ | ⟨g, cap, cur, rfl, _⟩
    · exact ⟨none, 0, by rw [h0]⟩
    · exact ⟨_, _, rfl⟩
  · exact ⟨_, _, rfl⟩
theorem OwE.ptr {w : World} {B : Nat} {e : TypeId} {a : Option Addr} {n c : Nat} {xs : List Value} (h : OwE w B e (.slice a n c) xs) (hp : 0 < xs.length) : ∃ g, a = some ⟨g, 0, none⟩ ∧ B ≤ g ∧ ∃ cs, w.heap[g]? = some (.cells cs e (0, 0)) ∧ ∀ (k : Nat) (v : Value), xs[k]? = some v → cs[k]? = some v := by
  rcases h with ⟨_, h⟩ | ⟨rfl, _⟩
  · rcases h with ⟨_, h0⟩ | ⟨g, cap, cur, he, hb, hg, _, _, h3, ht⟩
    · omega
    · simp at he
      obtain ⟨rfl, _, rfl⟩ := he
      refine ⟨g, rfl, hb, cur, hg, fun k v hk => ?_⟩
      have hkl := (List.getElem?_eq_some_iff.1 hk).1
      have h4 : (cur.toList.take (xs.length * 1))[k]? = xs[k]? := by rw [ht]
      rw [List.getElem?_take, if_pos (by omega), Array.getElem?_toList] at h4
      rw [h4, hk]
  · simp at hp
/-- What is there behind a crash. -/
def crX (keep : Int) (now st : Nat → List Int) (lo : Nat → Bool) (i : Nat) : List Int := if lo i && pickK keep i then now i else st i
def mixT {α : Type} (k : Nat) (x y : Nat → α) (i : Nat) : α := if i < k then x i else y i
theorem mix_self {α : Type} (k : Nat) (x y : Nat → α) : mixT k x y k = y k := by unfold mixT; rw [if_neg (Nat.lt_irrefl _)]
theorem mix_up {α : Type} (k : Nat) (x y : Nat → α) (z : α) (hz : z = x k) : ∀ i, up (mixT k x y) k z i = mixT (k + 1) x y i := by
  intro i
  unfold up mixT
  by_cases e : i = k
  · subst e; simp [hz]
  · rw [if_neg e]
    by_cases h : i < k
    · rw [if_pos h, if_pos (by omega)]
    · rw [if_neg h, if_neg (by omega)]
theorem mix_same {α : Type} (k : Nat) (x y : Nat → α) (hz : y k = x k) : ∀ i, mixT k x y i = mixT (k + 1) x y i := by
  intro i
  unfold mixT
  by_cases e : i = k
  · subst e; simp [hz]
  · by_cases h : i < k
    · rw [if_pos h, if_pos (by omega)]
    · rw [if_neg h, if_neg (by omega)]
theorem RowX.congr {w : World} {D : Nat → Prop} {xs : List Value} {n : Nat} {T T' : Nat → List Int} (h : RowX w D xs n T) (he : ∀ i, T i = T' i) : RowX w D xs n T' := by
  have : T = T' := funext he
  rw [← this]; exact h
structure CrI (w wr : World) (D : Nat → Prop) (B bb n : Nat) (aN aS aL : Option Addr) (cN cS cL : Nat) (N S : Nat → List Int) (L : Nat → Bool) : Prop where
  kp : Keeps noB w wr
  lo : w.heap.size + 2 ≤ B
  dl : ∀ y, D y → y < w.heap.size
  rn : ∃ xs, OwE wr B 22 (.slice aN n cN) xs ∧ RowX wr D xs n N
  rs : ∃ xs, OwE wr B 22 (.slice aS n cS) xs ∧ RowX wr D xs n S
  rl : ∃ xs, OwE wr B 4 (.slice aL n cL) xs ∧ xs.length = n ∧ ∀ i, i < n → xs[i]? = some (.bool (L i))
  ptr : wr.heap[w.heap.size]? = some (.cells #[.slice aN n cN, .slice aS n cS, .slice aL n cL] 41 (0, 0))
  res : wr.heap[w.heap.size + 1]? = some (.cells #[.slice none 0 0, .slice none 0 0, .slice none 0 0] 41 (0, 0))
  bit : wr.heap[bb]? = some (.cells #[.int .i64 1, .int .i64 2, .int .i64 4, .int .i64 8, .int .i64 16, .int .i64 32] 69 (0, 0))
  dis : 0 < n → ∀ y z, (Value.slice aN n cN).ownBlock = some y → (Value.slice aS n cS).ownBlock = some z → y ≠ z
theorem CrI.no {w wr w1 : World} {D : Nat → Prop} {B bb n : Nat} {aN aS aL : Option Addr} {cN cS cL : Nat} {N S : Nat → List Int} {L : Nat → Bool} (h : CrI w wr D B bb n aN aS aL cN cS cL N S L) (hk : Keeps noB wr w1) : CrI w w1 D B bb n aN aS aL cN cS cL N S L := by
  obtain ⟨xn, n1, n2⟩ := h.rn
  obtain ⟨xs, s1, s2⟩ := h.rs
  obtain ⟨xl, l1, l2⟩ := h.rl
  exact ⟨h.kp.trans_no hk, h.lo, h.dl, ⟨xn, n1.no hk, n2.keep hk (fun b _ => noB_not b)⟩, ⟨xs, s1.no hk, s2.keep hk (fun b _ => noB_not b)⟩, ⟨xl, l1.no hk, l2⟩, hk.blk h.ptr (noB_not _), hk.blk h.res (noB_not _), hk.blk h.bit (noB_not _), h.dis⟩
theorem CrI.at_ {w wr : World} {D : Nat → Prop} {B bb n : Nat} {aN aS aL : Option Addr} {cN cS cL : Nat} {N S : Nat → List Int} {L : Nat → Bool} (h : CrI w wr D B bb n aN aS aL cN cS cL N S L) {k : Nat} (hk : k < n) :
    ∃ gN gS gL a1 c1 a2 c2, aN = some ⟨gN, 0, none⟩ ∧ aS = some ⟨gS, 0, none⟩ ∧ aL = some ⟨gL, 0, none⟩ ∧ (B ≤ gN ∧ B ≤ gS ∧ B ≤ gL ∧ gN ≠ gS ∧ gN ≠ gL ∧ gS ≠ gL ∧ gN ≠ bb ∧ gS ≠ bb ∧ gL ≠ bb) ∧ (∃ cs, wr.heap[gN]? = some (.cells cs 22 (0, 0))) ∧ (∃ cs, wr.heap[gS]? = some (.cells cs 22 (0, 0))) ∧ (∃ cs, wr.heap[gL]? = some (.cells cs 4 (0, 0))) ∧
      wr.cell? ⟨gN, k, none⟩ = some (.slice a1 (N k).length c1) ∧ ByR wr D a1 (N k) ∧ (N k).length ≤ maxLen ∧ wr.cell? ⟨gS, k, none⟩ = some (.slice a2 (S k).length c2) ∧ ByR wr D a2 (S k) ∧ (S k).length ≤ maxLen ∧ wr.cell? ⟨gL, k, none⟩ = some (.bool (L k)) := by
  obtain ⟨xn, n1, n2⟩ := h.rn
  obtain ⟨xs, s1, s2⟩ := h.rs
  obtain ⟨xl, l1, l2, l3⟩ := h.rl
  obtain ⟨gN, rfl, b1, csn, hn, en⟩ := n1.ptr (by rw [n2.1]; omega)
  obtain ⟨gS, rfl, b2, css, hs, es⟩ := s1.ptr (by rw [s2.1]; omega)
  obtain ⟨gL, rfl, b3, csl, hl, el⟩ := l1.ptr (by omega)
  obtain ⟨a1, c1, g1, g2, g3⟩ := n2.2 k hk
  obtain ⟨a2, c2, g4, g5, g6⟩ := s2.2 k hk
  have ne1 : gN ≠ gS := h.dis (by omega) gN gS rfl rfl
  have ne2 : gN ≠ gL := fun e => by subst e; rw [hn] at hl; simp at hl
  have ne3 : gS ≠ gL := fun e => by subst e; rw [hs] at hl; simp at hl
  have ne4 : gN ≠ bb := fun e => by subst e; have := h.bit; rw [hn] at this; simp at this
  have ne5 : gS ≠ bb := fun e => by subst e; have := h.bit; rw [hs] at this; simp at this
  have ne6 : gL ≠ bb := fun e => by subst e; have := h.bit; rw [hl] at this; simp at this
  exact ⟨gN, gS, gL, a1, c1, a2, c2, rfl, rfl, rfl, ⟨b1, b2, b3, ne1, ne2, ne3, ne4, ne5, ne6⟩, ⟨csn, hn⟩, ⟨css, hs⟩, ⟨csl, hl⟩, blk_cell hn (en k _ g1), g2, g3, blk_cell hs (es k _ g4), g5, g6, blk_cell hl (el k _ (l3 k hk))⟩
theorem CrI.setN {w wr : World} {D : Nat → Prop} {B bb n : Nat} {aS aL : Option Addr} {gN cN cS cL : Nat} {N S : Nat → List Int} {L : Nat → Bool} (h : CrI w wr D B bb n (some ⟨gN, 0, none⟩) aS aL cN cS cL N S L) {k : Nat} (hk : k < n) {a : Option Addr} {c : Nat} {l : List Int} (hr : ByR wr D a l) (hl : l.length ≤ maxLen) :
    CrI w (wr.setCell ⟨gN, k, none⟩ (.slice a l.length c)) D B bb n (some ⟨gN, 0, none⟩) aS aL cN cS cL (up N k l) S L := by
  obtain ⟨g, gS, gL, _, _, _, _, e1, rfl, rfl, ⟨b1, b2, b3, ne1, ne2, ne3, ne4, ne5, ne6⟩, _⟩ := h.at_ hk
  simp at e1
  subst e1
  have hkk : Keeps (oneB gN) wr (wr.setCell ⟨gN, k, none⟩ (.slice a l.length c)) := (Keeps.refl _ _).set1 _ _
  have hl0 := h.lo
  have hDn : ∀ y, D y → ¬ oneB gN y := fun y hy e => by have := h.dl y hy; unfold oneB at e; omega
  obtain ⟨xn, n1, n2⟩ := h.rn
  obtain ⟨xs, s1, s2⟩ := h.rs
  obtain ⟨xl, l1, l2⟩ := h.rl
  refine ⟨h.kp.trans hkk (fun y hy e => by unfold oneB at e; omega), h.lo, h.dl, ⟨_, n1.put (k := k) (by rw [n2.1]; exact hk) _, (n2.set hl hr).keep hkk hDn⟩, ⟨xs, s1.keepB hkk (by unfold oneB; omega), s2.keep hkk hDn⟩, ⟨xl, l1.keepB hkk (by unfold oneB; omega), l2⟩, hkk.blk h.ptr (by unfold oneB; omega), hkk.blk h.res (by unfold oneB; omega), hkk.blk h.bit (by unfold oneB; omega), h.dis⟩
theorem CrI.setS {w wr : World} {D : Nat → Prop} {B bb n : Nat} {aN aL : Option Addr} {gS cN cS cL : Nat} {N S : Nat → List Int} {L : Nat → Bool} (h : CrI w wr D B bb n aN (some ⟨gS, 0, none⟩) aL cN cS cL N S L) {k : Nat} (hk : k < n) {a : Option Addr} {c : Nat} {l : List Int} (hr : ByR wr D a l) (hl : l.length ≤ maxLen) :
    CrI w (wr.setCell ⟨gS, k, none⟩ (.slice a l.length c)) D B bb n aN (some ⟨gS, 0, none⟩) aL cN cS cL N (up S k l) L := by
  obtain ⟨gN, g, gL, _, _, _, _, rfl, e1, rfl, ⟨b1, b2, b3, ne1, ne2, ne3, ne4, ne5, ne6⟩, _⟩ := h.at_ hk
  simp at e1
  subst e1
  have hkk : Keeps (oneB gS) wr (wr.setCell ⟨gS, k, none⟩ (.slice a l.length c)) := (Keeps.refl _ _).set1 _ _
  have hl0 := h.lo
  have hDn : ∀ y, D y → ¬ oneB gS y := fun y hy e => by have := h.dl y hy; unfold oneB at e; omega
  obtain ⟨xn, n1, n2⟩ := h.rn
  obtain ⟨xs, s1, s2⟩ := h.rs
  obtain ⟨xl, l1, l2⟩ := h.rl
  refine ⟨h.kp.trans hkk (fun y hy e => by unfold oneB at e; omega), h.lo, h.dl, ⟨xn, n1.keepB hkk (by unfold oneB; omega), n2.keep hkk hDn⟩, ⟨_, s1.put (k := k) (by rw [s2.1]; exact hk) _, (s2.set hl hr).keep hkk hDn⟩, ⟨xl, l1.keepB hkk (by unfold oneB; omega), l2⟩, hkk.blk h.ptr (by unfold oneB; omega), hkk.blk h.res (by unfold oneB; omega), hkk.blk h.bit (by unfold oneB; omega), h.dis⟩
theorem CrI.setL {w wr : World} {D : Nat → Prop} {B bb n : Nat} {aN aS : Option Addr} {gL cN cS cL : Nat} {N S : Nat → List Int} {L : Nat → Bool} (h : CrI w wr D B bb n aN aS (some ⟨gL, 0, none⟩) cN cS cL N S L) {k : Nat} (hk : k < n) (b : Bool) :
    CrI w (wr.setCell ⟨gL, k, none⟩ (.bool b)) D B bb n aN aS (some ⟨gL, 0, none⟩) cN cS cL N S (up L k b) := by
  obtain ⟨gN, gS, g, _, _, _, _, rfl, rfl, e1, ⟨b1, b2, b3, ne1, ne2, ne3, ne4, ne5, ne6⟩, _⟩ := h.at_ hk
  simp at e1
  subst e1
  have hkk : Keeps (oneB gL) wr (wr.setCell ⟨gL, k, none⟩ (.bool b)) := (Keeps.refl _ _).set1 _ _
  have hl0 := h.lo
  have hDn : ∀ y, D y → ¬ oneB gL y := fun y hy e => by have := h.dl y hy; unfold oneB at e; omega
  obtain ⟨xn, n1, n2⟩ := h.rn
  obtain ⟨xs, s1, s2⟩ := h.rs
  obtain ⟨xl, l1, l2, l3⟩ := h.rl
  refine ⟨h.kp.trans hkk (fun y hy e => by unfold oneB at e; omega), h.lo, h.dl, ⟨xn, n1.keepB hkk (by unfold oneB; omega), n2.keep hkk hDn⟩, ⟨xs, s1.keepB hkk (by unfold oneB; omega), s2.keep hkk hDn⟩, ⟨_, l1.put (k := k) (by omega) _, by simpa using l2, fun i hi => ?_⟩, hkk.blk h.ptr (by unfold oneB; omega), hkk.blk h.res (by unfold oneB; omega), hkk.blk h.bit (by unfold oneB; omega), h.dis⟩
  by_cases e : i = k
  · subst e
    rw [List.getElem?_set_self (by omega)]; simp [up]
  · rw [List.getElem?_set_ne (fun h => e h.symm), l3 i hi]; simp [up, e]
theorem CrI.congr {w wr : World} {D : Nat → Prop} {B bb n : Nat} {aN aS aL : Option Addr} {cN cS cL : Nat} {N S N' S' : Nat → List Int} {L L' : Nat → Bool} (h : CrI w wr D B bb n aN aS aL cN cS cL N S L) (h1 : ∀ i, N i = N' i) (h2 : ∀ i, S i = S' i) (h3 : ∀ i, L i = L' i) : CrI w wr D B bb n aN aS aL cN cS cL N' S' L' := by
  rw [← (funext h1 : N = N'), ← (funext h2 : S = S'), ← (funext h3 : L = L')]; exact h
set_option maxRecDepth 100000 in
set_option maxHeartbeats 16000000 in
theorem rcrash_c {w : World} {D : Nat → Prop} {vN vS vL : Value} {n : Nat} {now st : Nat → List Int} {lo : Nat → Bool} (h : RdR w D vN vS vL n now st lo) (hD : ∀ y, D y → y < w.heap.size) (hn : n ≤ 6) (keep : Int) (hk1 : -9223372036854775808 ≤ keep) (hk2 : keep ≤ 9223372036854775807) :
    Calls Try.prog 19 #[.agg #[vN, vS, vL], .int .i64 keep] w fun e w' => ∃ uN uS uL, RetK noB (.agg #[uN, uS, uL]) w e w' ∧
      RdR w' (fun y => D y ∨ (w.heap.size ≤ y ∧ y < w'.heap.size)) uN uS uL n (crX keep now st lo) (crX keep now st lo) (fun _ => false) := by
  obtain ⟨a1, c1, a2, c2, a3, c3, rfl, rfl, rfl⟩ := h.slices
  have H := Lib.hid h
  clear h
  have hkP : Keeps noB w (w.alloc (.cells #[.slice a1 n c1, .slice a2 n c2, .slice a3 n c3] 41)) := (Keeps.refl _ _).alloc _
  have hP := heap_alloc2_old w (.cells #[.slice a1 n c1, .slice a2 n c2, .slice a3 n c3] 41) (.cells #[.slice none 0 0, .slice none 0 0, .slice none 0 0] 41)
  have hZ := heap_alloc2_new w (.cells #[.slice a1 n c1, .slice a2 n c2, .slice a3 n c3] 41) (.cells #[.slice none 0 0, .slice none 0 0, .slice none 0 0] 41)
  have hkB : Keeps noB w ((w.alloc (.cells #[.slice a1 n c1, .slice a2 n c2, .slice a3 n c3] 41)).alloc (.cells #[.slice none 0 0, .slice none 0 0, .slice none 0 0] 41)) := hkP.alloc _
  have hsB : ((w.alloc (.cells #[.slice a1 n c1, .slice a2 n c2, .slice a3 n c3] 41)).alloc (.cells #[.slice none 0 0, .slice none 0 0, .slice none 0 0] 41)).heap.size = w.heap.size + 2 := by rw [alloc_size, alloc_size]
  have HB := Lib.hid (And.intro hP (And.intro hZ (And.intro hkB hsB)))
  clear hP hZ hkB hsB hkP
  go_enter Try.func19, Try.ntmps19
  go_upto_region 1 with fail
  generalize (w.alloc (.cells #[.slice a1 n c1, .slice a2 n c2, .slice a3 n c3] 41)).alloc (.cells #[.slice none 0 0, .slice none 0 0, .slice none 0 0] 41) = wB at *
  have p0 := blk_cell HB.out.1 (i := 0) rfl
  have p1 := blk_cell HB.out.1 (i := 1) rfl
  have p2 := blk_cell HB.out.1 (i := 2) rfl
  have hC := rcopied_c (H.out.no HB.out.2.2.1) hn
  go_wp2_with fail
  refine hC.mono ?_
  rintro e w1 ⟨uN, uS, uL, xN, xS, ⟨rfl, hk1⟩, o1, x1, o2, x2, o3, hdis⟩
  clear hC p0 p1 p2
  obtain ⟨aN, cN, rfl⟩ := o1.slice
  obtain ⟨aS, cS, rfl⟩ := o2.slice
  obtain ⟨aL, cL, rfl⟩ := o3.slice
  rw [x1.1] at *
  rw [x2.1] at *
  rw [show (blist n lo).length = n by simp [blist]] at *
  have hP1 := hk1.blk HB.out.1 (noB_not _)
  have hZ1 := hk1.blk HB.out.2.1 (noB_not _)
  have HH := Lib.hid (And.intro hk1 (And.intro o1 (And.intro x1 (And.intro o2 (And.intro x2 (And.intro o3 (And.intro hdis hZ1)))))))
  clear hk1 o1 x1 o2 x2 o3 hdis hZ1
  go_upto_region 3 with (with_reducible refine wpList_store_row rfl 41 _ _ rfl w.heap.size #[.slice aN n cN, .slice aS n cS, .slice aL n cL] rfl rfl 41 _ hP1 (by kernel_rfl) rfl (by kernel_rfl) ?_)
  obtain ⟨wC, hwC⟩ : ∃ wC, wC = w1.setRow w.heap.size #[.slice aN n cN, .slice aS n cS, .slice aL n cL] := ⟨_, rfl⟩
  have hkC : Keeps (oneB w.heap.size) w1 wC := by rw [hwC]; exact (Keeps.refl _ _).setRow _ _ (.inl rfl)
  have hPC : wC.heap[w.heap.size]? = some (.cells #[.slice aN n cN, .slice aS n cS, .slice aL n cL] 41 (0, 0)) := by rw [hwC]; exact setRow_heap w1 w.heap.size _ _ 41 (0, 0) hP1
  have hszC : wC.heap.size = w1.heap.size := by rw [hwC]; exact setRow_size _ _ _
  have hkCD : Keeps noB wC (wC.alloc (.cells #[.int .i64 1, .int .i64 2, .int .i64 4, .int .i64 8, .int .i64 16, .int .i64 32] 69)) := (Keeps.refl _ _).alloc _
  have hBD := heap_alloc_new wC (.cells #[.int .i64 1, .int .i64 2, .int .i64 4, .int .i64 8, .int .i64 16, .int .i64 32] 69)
  rw [hszC] at hBD
  have hkD : Keeps (oneB w.heap.size) w1 (wC.alloc (.cells #[.int .i64 1, .int .i64 2, .int .i64 4, .int .i64 8, .int .i64 16, .int .i64 32] 69)) := hkC.trans_no hkCD
  have hPD := hkCD.blk hPC (noB_not _)
  rw [← hwC]
  clear hkC hPC hkCD hwC hszC
  generalize wC.alloc (.cells #[.int .i64 1, .int .i64 2, .int .i64 4, .int .i64 8, .int .i64 16, .int .i64 32] 69) = wD at *
  obtain ⟨hk1', o1, x1, o2, x2, o3, hdis, hZ1⟩ := HH.out
  have hsB := HB.out.2.2.2
  have hs1 := hk1'.size
  have hsD := hkD.size
  have hno : ∀ y, wB.heap.size ≤ y → y < w1.heap.size → ¬ oneB w.heap.size y := fun y h1 _ h2 => by unfold oneB at h2; omega
  have hDno : ∀ y, D y → ¬ oneB w.heap.size y := fun y hy h2 => by have := hD y hy; unfold oneB at h2; omega
  have o1D := o1.keep hkD hno
  have o2D := o2.keep hkD hno
  have o3D := o3.keep hkD hno
  have x1D := x1.keep hkD hDno
  have x2D := x2.keep hkD hDno
  have hZD := hkD.blk hZ1 (by unfold oneB; omega)
  have hkwD := (HB.out.2.2.1.trans_no hk1').trans hkD (F := noB) (fun y hy e => by unfold oneB at e; omega)
  have p0 := blk_cell hPD (i := 0) rfl
  have HI := Lib.hid (And.intro o1D (And.intro o2D (And.intro o3D (And.intro x1D (And.intro x2D (And.intro hPD (And.intro hZD (And.intro hBD (And.intro hkwD hdis)))))))))
  clear hk1' o1 x1 o2 x2 o3 hdis hZ1 o1D o2D o3D x1D x2D hPD hZD hBD hkwD hkD hP1 hno hDno HH
  obtain ⟨bb, hbb⟩ : ∃ bb, bb = w1.heap.size := ⟨_, rfl⟩
  rw [← hbb] at HI ⊢
  clear hbb
  go_wp2_with fail
  have hlo0 : w.heap.size + 2 ≤ wB.heap.size := by omega
  go_loopw [13] (fun i wr => ∃ k : Nat, k ≤ n ∧ i = .int .i64 k ∧ CrI w wr D wB.heap.size bb n aN aS aL cN cS cL (mixT k (crX keep now st lo) now) (mixT k (crX keep now st lo) st) (mixT k (fun _ => false) lo))
    (fun i _ => n - (intOf i).toNat)
  case atStart =>
    obtain ⟨o1D, o2D, o3D, x1D, x2D, hPD, hZD, hBD, hkwD, hdis⟩ := HI.out
    have hm : ∀ {α : Type} (x y : Nat → α), mixT 0 x y = y := fun x y => funext fun i => by unfold mixT; rw [if_neg (Nat.not_lt_zero _)]
    exact ⟨0, by omega, rfl, hkwD, hlo0, hD, ⟨_, o1D, by rw [hm]; exact x1D⟩, ⟨_, o2D, by rw [hm]; exact x2D⟩, ⟨_, o3D, by simp [blist], fun i hi => by rw [hm]; exact blist_at hi⟩, hPD, hZD, hBD, hdis⟩
  case round =>
    clear p0 HI
    obtain ⟨k, hkn, rfl, hI⟩ := hrel
    have HI := Lib.hid hI
    by_cases hlt : k < n
    · obtain ⟨gN, gS, gL, a1', c1', a2', c2', rfl, rfl, rfl, ⟨b1, b2, b3, ne1, ne2, ne3, ne4, ne5, ne6⟩, ⟨csN, hbN⟩, ⟨csS, hbS⟩, ⟨csL, hbL⟩, hcN, hrN, hlN, hcS, hrS, hlS, hcL⟩ := hI.at_ hlt
      rw [mix_self] at hcN hrN hlN hcS hrS hlS hcL
      have q0 := blk_cell hI.ptr (i := 0) rfl
      have q1 := blk_cell hI.ptr (i := 1) rfl
      have q2 := blk_cell hI.ptr (i := 2) rfl
      have hbc : (#[.int .i64 1, .int .i64 2, .int .i64 4, .int .i64 8, .int .i64 16, .int .i64 32] : Array Value)[k]? = some (.int .i64 (2 ^ k)) := by
        rcases (show k = 0 ∨ k = 1 ∨ k = 2 ∨ k = 3 ∨ k = 4 ∨ k = 5 by omega) with rfl | rfl | rfl | rfl | rfl | rfl <;> rfl
      have hbk := blk_cell hI.bit hbc
      have hbit : (bits .and .i64 keep (2 ^ k) != 0) = pickK keep k := by rw [and_bit keep k (by omega), pick_bit keep hk1 hk2 k (by omega)]
      obtain ⟨bv, hbv⟩ : ∃ bv : Int, bv = 2 ^ k := ⟨_, rfl⟩
      rw [← hbv] at hbk hbit
      clear hbv hbc hI
      have hX : crX keep now st lo k = if lo k && pickK keep k then now k else st k := rfl
      have HX := Lib.hid hX
      clear hX
      have fN := blk_free hbN k
      have fS := blk_free hbS k
      have hkk0 : (0 : Int) ≤ (k : Int) := by omega
      have hkk1 : (k : Int) < (n : Int) := by omega
      have HR := Lib.hid (And.intro hrN (And.intro hlN (And.intro hrS (And.intro hlS (And.intro hbL hcL)))))
      have hk6 : (k : Int) < 6 := by omega
      have hSK : ∀ (F : Nat → Prop) w', Keeps F wr w' → ¬ F w.heap.size → w'.cell? ⟨w.heap.size, 0, none⟩ = some (.slice (some ⟨gN, 0, none⟩) n cN) ∧ w'.cell? ⟨w.heap.size, 1, none⟩ = some (.slice (some ⟨gS, 0, none⟩) n cS) := fun F w' hk hF => by
        have h1 := hk.blk HI.out.ptr hF
        exact ⟨blk_cell h1 (i := 0) rfl, blk_cell h1 (i := 1) rfl⟩
      have HSK := Lib.hid hSK
      have hSN : ∀ (F : Nat → Prop) w', Keeps F wr w' → ¬ F gN → w'.cell? ⟨gN, k, none⟩ = some (.slice a1' (now k).length c1') := fun F w' hk hF => (kcell hk ⟨gN, k, none⟩ (lt_of_blk hbN) hF).trans hcN
      have hSS : ∀ (F : Nat → Prop) w', Keeps F wr w' → ¬ F gS → w'.cell? ⟨gS, k, none⟩ = some (.slice a2' (st k).length c2') := fun F w' hk hF => (kcell hk ⟨gS, k, none⟩ (lt_of_blk hbS) hF).trans hcS
      have HSN := Lib.hid hSN
      have HSS := Lib.hid hSS
      clear hSK hSN hSS hrN hlN hrS hlS hbN hbS
      cases hlo : lo k
      · rw [hlo] at hcL
        have HLO := Lib.hid hlo
        clear hlo
        go_upto_region 8 with fail
        have hks : Keeps (oneB gN) wr (wr.setCell ⟨gN, k, none⟩ (.slice a2' (st k).length c2')).drew := ((Keeps.refl (oneB gN) wr).set1 k (.slice a2' (st k).length c2')).drew
        have n1 : ¬ oneB gN w.heap.size := by unfold oneB; omega
        have n2 : ¬ oneB gN gS := by unfold oneB; omega
        have HFIN := Lib.hid (And.intro (HSK.out _ _ hks n1).1 (And.intro (HSK.out _ _ hks n1).2 (HSS.out _ _ hks n2)))
        clear hks n1 n2
        go_region_held3 (fun w' => w'.cell? ⟨w.heap.size, 0, none⟩ = some (.slice (some ⟨gN, 0, none⟩) n cN) ∧ w'.cell? ⟨w.heap.size, 1, none⟩ = some (.slice (some ⟨gS, 0, none⟩) n cS) ∧ w'.cell? ⟨gS, k, none⟩ = some (.slice a2' (st k).length c2'))
          (first | (have hkd : Keeps noB wr wr.drew := (Keeps.refl noB wr).drew; exact ⟨(HSK.out noB _ hkd (noB_not _)).1, (HSK.out noB _ hkd (noB_not _)).2, HSS.out noB _ hkd (noB_not _)⟩) | exact HFIN.out)
          (first | fail)
        have hI1 : CrI w ((wr.setCell ⟨gN, k, none⟩ (.slice a2' (st k).length c2')).drew) D wB.heap.size bb n (some ⟨gN, 0, none⟩) (some ⟨gS, 0, none⟩) (some ⟨gL, 0, none⟩) cN cS cL (mixT (k + 1) (crX keep now st lo) now) (mixT (k + 1) (crX keep now st lo) st) (mixT k (fun _ => false) lo) := by
          have hXX := HX.out
          rw [HLO.out] at hXX
          simp only [Bool.false_and, Bool.false_eq_true, if_false] at hXX
          exact ((HI.out.setN hlt HR.out.2.2.1 HR.out.2.2.2.1).no ((Keeps.refl noB _).drew)).congr (mix_up k _ _ _ hXX.symm) (mix_same k _ _ hXX.symm) (fun _ => rfl)
        have e2 := blk_cell hI1.ptr (i := 2) rfl
        obtain ⟨_, _, _, _, _, _, _, _, _, eL, _, _, _, ⟨csL', hbL'⟩, _, _, _, _, _, _, hcL'⟩ := hI1.at_ hlt
        simp at eL
        subst eL
        rw [mix_self, HLO.out] at hcL'
        have fL' := blk_free hbL' k
        have HI1 := Lib.hid hI1
        clear hI1 hbL' hcL hcN hcS q0 q1 q2 fN fS hbk hbit
        generalize ((wr.setCell ⟨gN, k, none⟩ (.slice a2' (st k).length c2')).drew) = wE at *
        go_wp2_with fail
        go_roundw
        case rel => exact ⟨k + 1, by omega, by go_num, (HI1.out.setL hlt false).congr (fun _ => rfl) (fun _ => rfl) (mix_up k (fun _ => false) lo false rfl)⟩
        case measure => simp [intOf]; omega
      · rw [hlo] at hcL
        cases hp : pickK keep k
        · rw [hp] at hbit
          have HLO := Lib.hid hlo
          clear hlo
          go_upto_region 8 with fail
          have hks : Keeps (oneB gN) wr (wr.setCell ⟨gN, k, none⟩ (.slice a2' (st k).length c2')).drew := ((Keeps.refl (oneB gN) wr).set1 k (.slice a2' (st k).length c2')).drew
          have n1 : ¬ oneB gN w.heap.size := by unfold oneB; omega
          have n2 : ¬ oneB gN gS := by unfold oneB; omega
          have HFIN := Lib.hid (And.intro (HSK.out _ _ hks n1).1 (And.intro (HSK.out _ _ hks n1).2 (HSS.out _ _ hks n2)))
          clear hks n1 n2
          go_region_held3 (fun w' => w'.cell? ⟨w.heap.size, 0, none⟩ = some (.slice (some ⟨gN, 0, none⟩) n cN) ∧ w'.cell? ⟨w.heap.size, 1, none⟩ = some (.slice (some ⟨gS, 0, none⟩) n cS) ∧ w'.cell? ⟨gS, k, none⟩ = some (.slice a2' (st k).length c2'))
            (first | (have hkd : Keeps noB wr wr.drew := (Keeps.refl noB wr).drew; exact ⟨(HSK.out noB _ hkd (noB_not _)).1, (HSK.out noB _ hkd (noB_not _)).2, HSS.out noB _ hkd (noB_not _)⟩) | exact HFIN.out)
            (first | fail)
          have hI1 : CrI w ((wr.setCell ⟨gN, k, none⟩ (.slice a2' (st k).length c2')).drew) D wB.heap.size bb n (some ⟨gN, 0, none⟩) (some ⟨gS, 0, none⟩) (some ⟨gL, 0, none⟩) cN cS cL (mixT (k + 1) (crX keep now st lo) now) (mixT (k + 1) (crX keep now st lo) st) (mixT k (fun _ => false) lo) := by
            have hXX := HX.out
            rw [HLO.out, hp] at hXX
            simp only [Bool.and_false, Bool.false_eq_true, if_false] at hXX
            exact ((HI.out.setN hlt HR.out.2.2.1 HR.out.2.2.2.1).no ((Keeps.refl noB _).drew)).congr (mix_up k _ _ _ hXX.symm) (mix_same k _ _ hXX.symm) (fun _ => rfl)
          have e2 := blk_cell hI1.ptr (i := 2) rfl
          obtain ⟨_, _, _, _, _, _, _, _, _, eL, _, _, _, ⟨csL', hbL'⟩, _, _, _, _, _, _, hcL'⟩ := hI1.at_ hlt
          simp at eL
          subst eL
          rw [mix_self, HLO.out] at hcL'
          have fL' := blk_free hbL' k
          have HI1 := Lib.hid hI1
          clear hI1 hbL' hcL hcN hcS q0 q1 q2 fN fS hbk hbit
          generalize ((wr.setCell ⟨gN, k, none⟩ (.slice a2' (st k).length c2')).drew) = wE at *
          go_wp2_with fail
          go_roundw
          case rel => exact ⟨k + 1, by omega, by go_num, (HI1.out.setL hlt false).congr (fun _ => rfl) (fun _ => rfl) (mix_up k (fun _ => false) lo false rfl)⟩
          case measure => simp [intOf]; omega
        · rw [hp] at hbit
          have HLO := Lib.hid hlo
          clear hlo
          go_upto_region 7 with fail
          have hks : Keeps (oneB gS) wr (wr.setCell ⟨gS, k, none⟩ (.slice a1' (now k).length c1')).drew := ((Keeps.refl (oneB gS) wr).set1 k (.slice a1' (now k).length c1')).drew
          have n1 : ¬ oneB gS w.heap.size := by unfold oneB; omega
          have n2 : ¬ oneB gS gN := by unfold oneB; omega
          have HFIN := Lib.hid (And.intro (HSK.out _ _ hks n1).1 (And.intro (HSK.out _ _ hks n1).2 (HSN.out _ _ hks n2)))
          clear hks n1 n2
          go_region_held3 (fun w' => w'.cell? ⟨w.heap.size, 0, none⟩ = some (.slice (some ⟨gN, 0, none⟩) n cN) ∧ w'.cell? ⟨w.heap.size, 1, none⟩ = some (.slice (some ⟨gS, 0, none⟩) n cS) ∧ w'.cell? ⟨gN, k, none⟩ = some (.slice a1' (now k).length c1'))
            (first | (have hkd : Keeps noB wr wr.drew := (Keeps.refl noB wr).drew; exact ⟨(HSK.out noB _ hkd (noB_not _)).1, (HSK.out noB _ hkd (noB_not _)).2, HSN.out noB _ hkd (noB_not _)⟩) | exact HFIN.out)
            (first | fail)
          have hI1 : CrI w ((wr.setCell ⟨gS, k, none⟩ (.slice a1' (now k).length c1')).drew) D wB.heap.size bb n (some ⟨gN, 0, none⟩) (some ⟨gS, 0, none⟩) (some ⟨gL, 0, none⟩) cN cS cL (mixT (k + 1) (crX keep now st lo) now) (mixT (k + 1) (crX keep now st lo) st) (mixT k (fun _ => false) lo) := by
            have hXX := HX.out
            rw [HLO.out, hp] at hXX
            simp only [Bool.and_self, if_true] at hXX
            exact ((HI.out.setS hlt HR.out.1 HR.out.2.1).no ((Keeps.refl noB _).drew)).congr (mix_same k _ _ hXX.symm) (mix_up k _ _ _ hXX.symm) (fun _ => rfl)
          have e2 := blk_cell hI1.ptr (i := 2) rfl
          obtain ⟨_, _, _, _, _, _, _, _, _, eL, _, _, _, ⟨csL', hbL'⟩, _, _, _, _, _, _, hcL'⟩ := hI1.at_ hlt
          simp at eL
          subst eL
          rw [mix_self, HLO.out] at hcL'
          have fL' := blk_free hbL' k
          have HI1 := Lib.hid hI1
          clear hI1 hbL' hcL hcN hcS q0 q1 q2 fN fS hbk hbit
          generalize ((wr.setCell ⟨gS, k, none⟩ (.slice a1' (now k).length c1')).drew) = wE at *
          go_wp2_with fail
          go_roundw
          case rel => exact ⟨k + 1, by omega, by go_num, (HI1.out.setL hlt false).congr (fun _ => rfl) (fun _ => rfl) (mix_up k (fun _ => false) lo false rfl)⟩
          case measure => simp [intOf]; omega
    · have hke : k = n := by omega
      subst hke
      have hZE := hI.res
      have hPE := hI.ptr
      have hk6 : Keeps (oneB (w.heap.size + 1)) wr (wr.setRow (w.heap.size + 1) #[.slice aN k cN, .slice aS k cS, .slice aL k cL]) := (Keeps.refl _ _).setRow _ _ (.inl rfl)
      have HK6 := Lib.hid hk6
      clear hI hk6
      go_wp2_with (first | with_reducible refine wpList_load_row rfl 41 _ rfl w.heap.size rfl 41 _ (0, 0) _ hPE Try.underlying41 rfl (by kernel_rfl) ?_ | with_reducible refine wpList_store_row rfl 41 _ _ rfl (w.heap.size + 1) #[.slice aN k cN, .slice aS k cS, .slice aL k cL] rfl rfl 41 _ hZE (by kernel_rfl) rfl (by kernel_rfl) ?_)
      refine bodyPost_ret (results_cell_row (fn := Try.f19) Try.results19 _ _ (w.heap.size + 1) 41 _ (0, 0) _ rfl (setRow_heap _ _ _ _ _ _ hZE) Try.underlying41 rfl (by kernel_rfl)) rfl ?_
      have hI := HI.out
      have hk6 := HK6.out
      obtain ⟨xn, n1, n2⟩ := hI.rn
      obtain ⟨xs, s1, s2⟩ := hI.rs
      obtain ⟨xl, l1, l2, l3⟩ := hI.rl
      have hno : ∀ y, wB.heap.size ≤ y → y < wr.heap.size → ¬ oneB (w.heap.size + 1) y := fun y h1 _ e => by unfold oneB at e; omega
      have hDn : ∀ y, D y → ¬ oneB (w.heap.size + 1) y := fun y hy e => by have := hD y hy; unfold oneB at e; omega
      have hmix : ∀ {α : Type} (x y : Nat → α) i, i < k → mixT k x y i = x i := fun x y i hi => by unfold mixT; rw [if_pos hi]
      have n3 : RowX wr D xn k (crX keep now st lo) := ⟨n2.1, fun i hi => by rw [← hmix (crX keep now st lo) now i hi]; exact n2.2 i hi⟩
      have s3 : RowX wr D xs k (crX keep now st lo) := ⟨s2.1, fun i hi => by rw [← hmix (crX keep now st lo) st i hi]; exact s2.2 i hi⟩
      refine ⟨_, _, _, ⟨rfl, hI.kp.trans hk6 (fun y hy e => by unfold oneB at e; omega)⟩, ((n1.keep hk6 hno).rowR (n3.keep hk6 hDn)).mono (fun b hlt hb => ?_), ((s1.keep hk6 hno).rowR (s3.keep hk6 hDn)).mono (fun b hlt hb => ?_), ((l1.keep hk6 hno).blR (D := noB) l2 (fun i hi => by rw [l3 i hi, hmix _ _ i hi])).mono (fun b hlt hb => ?_)⟩
      · rcases hb with hb | hb
        · exact .inl hb
        · exact .inr ⟨by omega, hlt⟩
      · rcases hb with hb | hb
        · exact .inl hb
        · exact .inr ⟨by omega, hlt⟩
      · rcases hb with hb | hb
        · exact hb.elim
        · exact .inr ⟨by omega, hlt⟩
theorem rsync_c {w : World} {D : Nat → Prop} {vN vS vL : Value} {n : Nat} {now st : Nat → List Int} {lo : Nat → Bool} (h : RdR w D vN vS vL n now st lo) (hD : ∀ y, D y → y < w.heap.size) (hn : n ≤ 6) :
    Calls Try.prog 18 #[.agg #[vN, vS, vL]] w fun e w' => ∃ uN uS uL, RetK noB (.agg #[uN, uS, uL]) w e w' ∧
      RdR w' (fun y => D y ∨ (w.heap.size ≤ y ∧ y < w'.heap.size)) uN uS uL n (crX 63 now st lo) (crX 63 now st lo) (fun _ => false) := by
  obtain ⟨a1, c1, a2, c2, a3, c3, rfl, rfl, rfl⟩ := h.slices
  have hk : Keeps noB w (w.alloc (.cells #[.slice a1 n c1, .slice a2 n c2, .slice a3 n c3] 41)) := (Keeps.refl _ _).alloc _
  have H := Lib.hid h
  clear h
  have hZ := heap_alloc2_new w (.cells #[.slice a1 n c1, .slice a2 n c2, .slice a3 n c3] 41) (.cells #[.slice none 0 0, .slice none 0 0, .slice none 0 0] 41)
  have hkB : Keeps noB w ((w.alloc (.cells #[.slice a1 n c1, .slice a2 n c2, .slice a3 n c3] 41)).alloc (.cells #[.slice none 0 0, .slice none 0 0, .slice none 0 0] 41)) := hk.alloc _
  have hsB : ((w.alloc (.cells #[.slice a1 n c1, .slice a2 n c2, .slice a3 n c3] 41)).alloc (.cells #[.slice none 0 0, .slice none 0 0, .slice none 0 0] 41)).heap.size = w.heap.size + 2 := by rw [alloc_size, alloc_size]
  have hC := rcrash_c (H.out.no hkB) (fun y hy => by have := hD y hy; rw [hsB]; omega) hn 63 (by omega) (by omega)
  have HB := Lib.hid (And.intro hZ (And.intro hkB hsB))
  clear hZ hkB hsB hk
  go_enter Try.func18, Try.ntmps18
  go_wp2_with fail
  refine hC.mono ?_
  rintro e w1 ⟨uN, uS, uL, ⟨rfl, hk1⟩, hR⟩
  clear hC
  obtain ⟨b1, d1, b2, d2, b3, d3, rfl, rfl, rfl⟩ := hR.slices
  have hZ1 := hk1.blk HB.out.1 (noB_not _)
  have hk2 : Keeps (oneB (w.heap.size + 1)) w1 (w1.setRow (w.heap.size + 1) #[.slice b1 n d1, .slice b2 n d2, .slice b3 n d3]) := (Keeps.refl _ _).setRow _ _ (.inl rfl)
  have HH := Lib.hid (And.intro hR (And.intro hk1 hk2))
  clear hR hk1 hk2
  go_wp2_with (with_reducible refine wpList_store_row rfl 41 _ _ rfl (w.heap.size + 1) #[.slice b1 n d1, .slice b2 n d2, .slice b3 n d3] rfl rfl 41 _ hZ1 (by kernel_rfl) rfl (by kernel_rfl) ?_)
  refine bodyPost_ret (results_cell_row (fn := Try.f18) Try.results18 _ _ (w.heap.size + 1) 41 _ (0, 0) _ rfl (setRow_heap _ _ _ _ _ _ hZ1) Try.underlying41 rfl (by kernel_rfl)) rfl ?_
  obtain ⟨hR, hk1, hk2⟩ := HH.out
  have hsB := HB.out.2.2
  have hs1 := hk1.size
  refine ⟨_, _, _, ⟨rfl, (HB.out.2.1.trans_no hk1).trans hk2 (fun y hy e => by unfold oneB at e; omega)⟩, (hR.keep hk2 (fun b _ hb e => ?_)).mono (fun b hlt hb => ?_)⟩
  · unfold oneB at e
    rcases hb with hb | hb
    · have := hD b hb; omega
    · omega
  · rcases hb with hb | hb
    · exact .inl hb
    · exact .inr ⟨by omega, hlt⟩
end Go.Proofs.Yteoafecdlnaecaa
