/- The reference's drive: Read, Write. No condition. -/
import Derived.Test.YteoafecdlnaecaaSecCop
namespace Go.Proofs.Yteoafecdlnaecaa
open Go.RowKit

/-- The reference's drive may be read. -/
def RdR (w : World) (D : Nat → Prop) (vN vS vL : Value) (n : Nat) (now st : Nat → List Int) (lo : Nat → Bool) : Prop := RowR w D vN n now ∧ RowR w D vS n st ∧ BlR w D vL n lo
theorem RdR.keep {w w1 : World} {D : Nat → Prop} {vN vS vL : Value} {n : Nat} {now st : Nat → List Int} {lo : Nat → Bool} {F : Nat → Prop} (h : RdR w D vN vS vL n now st lo) (hk : Keeps F w w1) (hF : ∀ b, b < w.heap.size → D b → ¬ F b) : RdR w1 D vN vS vL n now st lo :=
  ⟨h.1.keep hk hF, h.2.1.keep hk hF, h.2.2.keep hk hF⟩
theorem RdR.no {w w1 : World} {D : Nat → Prop} {vN vS vL : Value} {n : Nat} {now st : Nat → List Int} {lo : Nat → Bool} (h : RdR w D vN vS vL n now st lo) (hk : Keeps noB w w1) : RdR w1 D vN vS vL n now st lo := h.keep hk (fun b _ _ => noB_not b)
theorem RowR.mono {w : World} {D E : Nat → Prop} {v : Value} {n : Nat} {T : Nat → List Int} (h : RowR w D v n T) (hE : ∀ b, b < w.heap.size → D b → E b) : RowR w E v n T := by
  obtain ⟨a, c, rfl, h⟩ := h
  refine ⟨a, c, rfl, fun i hi => ?_⟩
  obtain ⟨g, off, ha, hg, hD, a', c', h1, h2, h3⟩ := h i hi
  exact ⟨g, off, ha, hg, hE g hg hD, a', c', h1, h2, h3.mono hE⟩
theorem BlR.mono {w : World} {D E : Nat → Prop} {v : Value} {n : Nat} {lo : Nat → Bool} (h : BlR w D v n lo) (hE : ∀ b, b < w.heap.size → D b → E b) : BlR w E v n lo := by
  obtain ⟨a, c, rfl, h⟩ := h
  refine ⟨a, c, rfl, fun i hi => ?_⟩
  obtain ⟨g, off, ha, hg, hD, h1⟩ := h i hi
  exact ⟨g, off, ha, hg, hE g hg hD, h1⟩
theorem RdR.mono {w : World} {D E : Nat → Prop} {vN vS vL : Value} {n : Nat} {now st : Nat → List Int} {lo : Nat → Bool} (h : RdR w D vN vS vL n now st lo) (hE : ∀ b, b < w.heap.size → D b → E b) : RdR w E vN vS vL n now st lo :=
  ⟨h.1.mono hE, h.2.1.mono hE, h.2.2.mono hE⟩
theorem RdR.slices {w : World} {D : Nat → Prop} {vN vS vL : Value} {n : Nat} {now st : Nat → List Int} {lo : Nat → Bool} (h : RdR w D vN vS vL n now st lo) : ∃ a1 c1 a2 c2 a3 c3, vN = .slice a1 n c1 ∧ vS = .slice a2 n c2 ∧ vL = .slice a3 n c3 := by
  obtain ⟨a1, c1, e1⟩ := h.1.slice
  obtain ⟨a2, c2, e2⟩ := h.2.1.slice
  obtain ⟨a3, c3, e3⟩ := h.2.2.slice
  exact ⟨a1, c1, a2, c2, a3, c3, e1, e2, e3⟩
/-- What the cells of a row of bytes are. -/
def RowX (w : World) (D : Nat → Prop) (xs : List Value) (n : Nat) (T : Nat → List Int) : Prop := xs.length = n ∧ ∀ i, i < n → ∃ a c, xs[i]? = some (.slice a (T i).length c) ∧ ByR w D a (T i) ∧ (T i).length ≤ maxLen
theorem RowX.keep {w w1 : World} {D : Nat → Prop} {xs : List Value} {n : Nat} {T : Nat → List Int} {F : Nat → Prop} (h : RowX w D xs n T) (hk : Keeps F w w1) (hF : ∀ b, D b → ¬ F b) : RowX w1 D xs n T :=
  ⟨h.1, fun i hi => by obtain ⟨a, c, h1, h2, h3⟩ := h.2 i hi; exact ⟨a, c, h1, h2.keep hk hF, h3⟩⟩
theorem RowX.set {w : World} {D : Nat → Prop} {xs : List Value} {n : Nat} {T : Nat → List Int} (h : RowX w D xs n T) {k : Nat} {a : Option Addr} {c : Nat} {l : List Int} (hl : l.length ≤ maxLen) (hr : ByR w D a l) : RowX w D (xs.set k (.slice a l.length c)) n (up T k l) := by
  refine ⟨by simpa using h.1, fun i hi => ?_⟩
  by_cases e : i = k
  · subst e
    refine ⟨a, c, ?_, ?_, ?_⟩
    · rw [List.getElem?_set_self (by rw [h.1]; exact hi)]; simp [up]
    · simpa [up] using hr
    · simpa [up] using hl
  · obtain ⟨a1, c1, h1, h2, h3⟩ := h.2 i hi
    have hu : up T k l i = T i := by unfold up; rw [if_neg e]
    exact ⟨a1, c1, by rw [List.getElem?_set_ne (fun h => e h.symm), hu]; exact h1, by rw [hu]; exact h2, by rw [hu]; exact h3⟩
theorem RowX.mono {w : World} {D E : Nat → Prop} {xs : List Value} {n : Nat} {T : Nat → List Int} (h : RowX w D xs n T) (hE : ∀ b, b < w.heap.size → D b → E b) : RowX w E xs n T :=
  ⟨h.1, fun i hi => by obtain ⟨a, c, h1, h2, h3⟩ := h.2 i hi; exact ⟨a, c, h1, h2.mono hE, h3⟩⟩
theorem OwE.rowR {w : World} {B : Nat} {D : Nat → Prop} {v : Value} {xs : List Value} {n : Nat} {T : Nat → List Int} (h : OwE w B 22 v xs) (hx : RowX w D xs n T) : RowR w (fun y => D y ∨ B ≤ y) v n T := by
  obtain ⟨hl, hx⟩ := hx
  rcases h with ⟨_, h⟩ | ⟨rfl, g, rfl⟩
  · rcases h with ⟨rfl, h0⟩ | ⟨g, cap, cur, rfl, hb, hg, _, _, _, ht⟩
    · exact ⟨none, 0, by rw [← hl, h0], fun i hi => by omega⟩
    · refine ⟨_, cap, by rw [hl], fun i hi => ?_⟩
      obtain ⟨a, c, h1, h2, h3⟩ := hx i hi
      refine ⟨g, 0, rfl, lt_of_blk hg, .inr hb, a, c, ?_, h3, h2.mono (fun _ _ => .inl)⟩
      rw [Nat.zero_add]
      refine blk_cell hg ?_
      have h4 : (cur.toList.take (xs.length * 1))[i]? = xs[i]? := by rw [ht]
      rw [List.getElem?_take, if_pos (by omega), Array.getElem?_toList] at h4
      rw [h4, h1]
  · simp at hl
    subst hl
    exact ⟨some g, 0, rfl, fun i hi => by omega⟩
theorem OwE.blR {w : World} {B : Nat} {D : Nat → Prop} {v : Value} {xs : List Value} {n : Nat} {lo : Nat → Bool} (h : OwE w B 4 v xs) (hl : xs.length = n) (hx : ∀ i, i < n → xs[i]? = some (.bool (lo i))) : BlR w (fun y => D y ∨ B ≤ y) v n lo := by
  rcases h with ⟨_, h⟩ | ⟨rfl, g, rfl⟩
  · rcases h with ⟨rfl, h0⟩ | ⟨g, cap, cur, rfl, hb, hg, _, _, _, ht⟩
    · exact ⟨none, 0, by rw [← hl, h0], fun i hi => by omega⟩
    · refine ⟨_, cap, by rw [hl], fun i hi => ?_⟩
      refine ⟨g, 0, rfl, lt_of_blk hg, .inr hb, ?_⟩
      rw [Nat.zero_add]
      refine blk_cell hg ?_
      have h4 : (cur.toList.take (xs.length * 1))[i]? = xs[i]? := by rw [ht]
      rw [List.getElem?_take, if_pos (by omega), Array.getElem?_toList] at h4
      rw [h4, hx i hi]
  · simp at hl
    subst hl
    exact ⟨some g, 0, rfl, fun i hi => by omega⟩
/-- A cell of an own row is written. -/
theorem OwE.set {w : World} {B : Nat} {e : TypeId} {v : Value} {xs : List Value} (h : OwE w B e v xs) {k : Nat} (hk : k < xs.length) : ∃ g c, v = .slice (some ⟨g, 0, none⟩) xs.length c ∧ B ≤ g ∧ (∃ cs, w.heap[g]? = some (.cells cs e (0, 0))) ∧ (∃ u0, w.cell? ⟨g, k, none⟩ = some u0) ∧ w.frozen? ⟨g, k, none⟩ = false ∧ ∀ u, OwE (w.setCell ⟨g, k, none⟩ u) B e v (xs.set k u) := by
  rcases h with ⟨hl, h⟩ | ⟨rfl, _⟩
  · rcases h with ⟨_, h0⟩ | ⟨g, cap, cur, rfl, hb, hg, h1, h2, h3, ht⟩
    · omega
    · have hks : k < cur.size := by rw [h3]; omega
      have hck : cur[k]? = some xs[k] := by
        have h4 : (cur.toList.take (xs.length * 1))[k]? = xs[k]? := by rw [ht]
        rw [List.getElem?_take, if_pos (by omega), Array.getElem?_toList] at h4
        rw [h4, List.getElem?_eq_getElem hk]
      refine ⟨g, cap, rfl, hb, ⟨cur, hg⟩, ⟨_, blk_cell hg hck⟩, blk_free hg k, fun u => .inl ⟨by simp, .inr ⟨g, cap, cur.setIfInBounds k u, by simp, hb, heap_setCell_same _ _ _ _ hg, by simpa using h1, h2, by simpa using h3, ?_⟩⟩⟩
      rw [Array.toList_setIfInBounds, List.length_set, List.take_set, ht]
  · simp at hk

theorem rread_c {w : World} {D : Nat → Prop} {vN vS vL : Value} {n : Nat} {now st : Nat → List Int} {lo : Nat → Bool} (h : RdR w D vN vS vL n now st lo) (_hn : n ≤ 6) (i : Int) :
    Calls Try.prog 20 #[.agg #[vN, vS, vL], .int .i64 i] w fun e w' => ∃ u, RetK noB (.tuple #[u, .int .i64 (if inD n i then 0 else 51)]) w e w' := by
  obtain ⟨a1, c1, a2, c2, a3, c3, rfl, rfl, rfl⟩ := h.slices
  have H := Lib.hid h
  clear h
  have hkP : Keeps noB w (w.alloc (.cells #[.slice a1 n c1, .slice a2 n c2, .slice a3 n c3] 41)) := (Keeps.refl _ _).alloc _
  by_cases h0 : i < 0
  · have d0 : decide (i < 0) = true := decide_eq_true h0
    have hi : inD n i = false := by unfold inD; simp; omega
    rw [hi]
    go_enter Try.func20, Try.ntmps20
    go_wp2_with fail
    go_ret2
    exact ⟨_, rfl, hkP⟩
  · have d0 : decide (i < 0) = false := decide_eq_false h0
    by_cases h1 : i ≥ (n : Int)
    · have d1 : decide (i ≥ (n : Int)) = true := decide_eq_true h1
      have hi : inD n i = false := by unfold inD; simp; omega
      rw [hi]
      go_enter Try.func20, Try.ntmps20
      go_wp2_with fail
      go_ret2
      exact ⟨_, rfl, hkP⟩
    · have d1 : decide (i ≥ (n : Int)) = false := decide_eq_false h1
      have hi : inD n i = true := by unfold inD; simp; omega
      rw [hi]
      obtain ⟨g, off, rfl, a', c', hc, _⟩ := (H.out.no hkP).1.at_ (i := i.toNat) (by omega)
      have g1 : (0 : Int) ≤ i := by omega
      have g2 : i < (n : Int) := by omega
      go_enter Try.func20, Try.ntmps20
      go_wp2_with fail
      go_ret2
      exact ⟨_, rfl, hkP⟩
theorem rcopied_c {w : World} {D : Nat → Prop} {vN vS vL : Value} {n : Nat} {now st : Nat → List Int} {lo : Nat → Bool} (h : RdR w D vN vS vL n now st lo) (hn : n ≤ 6) :
    Calls Try.prog 32 #[.agg #[vN, vS, vL]] w fun e w' => ∃ uN uS uL xN xS, RetK noB (.agg #[uN, uS, uL]) w e w' ∧ OwE w' w.heap.size 22 uN xN ∧ RowX w' D xN n now ∧ OwE w' w.heap.size 22 uS xS ∧ RowX w' D xS n st ∧ OwE w' w.heap.size 4 uL (blist n lo) ∧ (0 < n → ∀ y z, uN.ownBlock = some y → uS.ownBlock = some z → y ≠ z) := by
  obtain ⟨xN, l1, s1, g1⟩ := h.1.slr
  obtain ⟨xS, l2, s2, g2⟩ := h.2.1.slr
  refine (copied_c s1 s2 h.2.2.slr (by omega) (by omega) (by simp [blist]; omega)).mono ?_
  rintro e w' ⟨uN, uS, uL, ⟨he, hk⟩, h1, h2, h3, h4⟩
  exact ⟨uN, uS, uL, xN, xS, ⟨he, hk⟩, h1, RowX.keep (w := w) ⟨l1, g1⟩ hk (fun b _ => noB_not b), h2, RowX.keep (w := w) ⟨l2, g2⟩ hk (fun b _ => noB_not b), h3, fun hn y z e1 e2 => Nat.ne_of_lt (h4 (fun e => by rw [e] at l1; simp at l1; omega) (fun e => by rw [e] at l2; simp at l2; omega) y z e1 e2)⟩
theorem OwE.put {w : World} {B : Nat} {e : TypeId} {g n c : Nat} {xs : List Value} (h : OwE w B e (.slice (some ⟨g, 0, none⟩) n c) xs) {k : Nat} (hk : k < xs.length) (u : Value) : OwE (w.setCell ⟨g, k, none⟩ u) B e (.slice (some ⟨g, 0, none⟩) n c) (xs.set k u) := by
  obtain ⟨g', c', he, _, _, _, _, hs⟩ := h.set hk
  simp at he
  obtain ⟨rfl, rfl, rfl⟩ := he
  exact hs u
theorem OwE.keepB {w w1 : World} {B : Nat} {e : TypeId} {g n c : Nat} {xs : List Value} {F : Nat → Prop} (h : OwE w B e (.slice (some ⟨g, 0, none⟩) n c) xs) (hk : Keeps F w w1) (hF : ¬ F g) : OwE w1 B e (.slice (some ⟨g, 0, none⟩) n c) xs := by
  rcases h with h | h
  · exact .inl (own_keep h hk (fun k _ _ h => by simp [Value.ownBlock] at h; subst h; exact hF))
  · exact .inr h
theorem OwE.keepO {w w1 : World} {B : Nat} {e : TypeId} {v : Value} {xs : List Value} {F : Nat → Prop} (h : OwE w B e v xs) (hk : Keeps F w w1) (hF : ∀ y, v.ownBlock = some y → ¬ F y) : OwE w1 B e v xs := by
  rcases h with h | h
  · exact .inl (own_keep h hk (fun k _ _ h => hF k h))
  · exact .inr h
theorem OwE.ne {w : World} {B : Nat} {e : TypeId} {v : Value} {xs : List Value} (h : OwE w B e v xs) (hx : xs ≠ []) {g : Nat} {cs : Array Value} {t : TypeId} {fr : Nat × Nat} (hb : w.heap[g]? = some (.cells cs t fr)) (ht : t ≠ e) : ∀ y, v.ownBlock = some y → y ≠ g := by
  intro y hy hyg
  subst hyg
  rcases h with ⟨_, h⟩ | ⟨h, _⟩
  · rcases h with ⟨rfl, _⟩ | ⟨g, cap, cur, rfl, _, hg, _⟩
    · simp [Value.ownBlock] at hy
    · simp [Value.ownBlock] at hy
      subst hy
      rw [hb] at hg
      simp at hg
      exact ht hg.2.1
  · exact hx h
theorem blist_set {n : Nat} {lo : Nat → Bool} {k : Nat} (b : Bool) : ∀ i, i < n → ((blist n lo).set k (.bool b))[i]? = some (.bool (up lo k b i)) := by
  intro i hi
  by_cases e : i = k
  · subst e
    rw [List.getElem?_set_self (by simp [blist]; exact hi)]; simp [up]
  · rw [List.getElem?_set_ne (fun h => e h.symm), blist_at hi]; simp [up, e]
set_option maxRecDepth 100000 in
set_option maxHeartbeats 16000000 in
theorem rwrite_c {w : World} {D : Nat → Prop} {vN vS vL : Value} {n : Nat} {now st : Nat → List Int} {lo : Nat → Bool} (h : RdR w D vN vS vL n now st lo) (hD : ∀ y, D y → y < w.heap.size) (hn : n ≤ 6) (i : Int) (E : Nat → Prop) (a : Option Addr) (l : List Int) (cap : Nat) (hl : l.length ≤ 140737488351232) (hr : ByR w E a l) :
    Calls Try.prog 17 #[.agg #[vN, vS, vL], .int .i64 i, .slice a l.length cap] w fun e w' => ∃ uN uS uL, RetK noB (.tuple #[.agg #[uN, uS, uL], .int .i64 (if okW n i l then 0 else 51)]) w e w' ∧
      RdR w' (fun y => D y ∨ (w.heap.size ≤ y ∧ y < w'.heap.size)) uN uS uL n (if okW n i l then up now i.toNat l else now) st (if okW n i l then up lo i.toNat true else lo) := by
  obtain ⟨a1, c1, a2, c2, a3, c3, rfl, rfl, rfl⟩ := h.slices
  have H := Lib.hid h
  have HR := Lib.hid hr
  clear h hr
  have hkP : Keeps noB w (w.alloc (.cells #[.slice a1 n c1, .slice a2 n c2, .slice a3 n c3] 41)) := (Keeps.refl _ _).alloc _
  by_cases hok : okW n i l = true
  rotate_left
  · have hok' : okW n i l = false := by simpa using hok
    have hfin : ∀ w', Keeps noB w w' → RdR w' (fun y => D y ∨ (w.heap.size ≤ y ∧ y < w'.heap.size)) (.slice a1 n c1) (.slice a2 n c2) (.slice a3 n c3) n now st lo := fun w' hk => (H.out.no hk).mono (fun _ _ h => .inl h)
    rw [hok']
    simp only [Bool.false_eq_true, if_false]
    clear hok
    by_cases h0 : i < 0
    · have d0 : decide (i < 0) = true := decide_eq_true h0
      go_enter Try.func17, Try.ntmps17
      go_wp2_with fail
      refine bodyPost_ret (results_row_tmp (fn := Try.f17) Try.results17 _ _ _ 41 _ (0, 0) _ rfl (heap_alloc2_new _ _ _) Try.underlying41 rfl (by kernel_rfl)) rfl ?_
      exact ⟨_, _, _, ⟨rfl, hkP.alloc _⟩, hfin _ (hkP.alloc _)⟩
    · have d0 : decide (i < 0) = false := decide_eq_false h0
      by_cases h1 : i ≥ (n : Int)
      · have d1 : decide (i ≥ (n : Int)) = true := decide_eq_true h1
        go_enter Try.func17, Try.ntmps17
        go_wp2_with fail
        refine bodyPost_ret (results_row_tmp (fn := Try.f17) Try.results17 _ _ _ 41 _ (0, 0) _ rfl (heap_alloc2_new _ _ _) Try.underlying41 rfl (by kernel_rfl)) rfl ?_
        exact ⟨_, _, _, ⟨rfl, hkP.alloc _⟩, hfin _ (hkP.alloc _)⟩
      · have d1 : decide (i ≥ (n : Int)) = false := decide_eq_false h1
        have h2 : l.length > 100 := by unfold okW inD at hok'; simp at hok'; omega
        have d2 : decide ((l.length : Int) > 100) = true := decide_eq_true (by omega)
        go_enter Try.func17, Try.ntmps17
        go_wp2_with fail
        refine bodyPost_ret (results_row_tmp (fn := Try.f17) Try.results17 _ _ _ 41 _ (0, 0) _ rfl (heap_alloc2_new _ _ _) Try.underlying41 rfl (by kernel_rfl)) rfl ?_
        exact ⟨_, _, _, ⟨rfl, hkP.alloc _⟩, hfin _ (hkP.alloc _)⟩
  · obtain ⟨k, rfl, hk, hl1⟩ := okW_open hok
    rw [hok]
    simp only [if_true, Int.toNat_natCast]
    have d0 : decide ((k : Int) < 0) = false := decide_eq_false (by omega)
    have d1 : decide ((k : Int) ≥ (n : Int)) = false := decide_eq_false (by omega)
    have d2 : decide ((l.length : Int) > 100) = false := decide_eq_false (by omega)
    clear hok
    have hP := heap_alloc2_old w (.cells #[.slice a1 n c1, .slice a2 n c2, .slice a3 n c3] 41) (.cells #[.slice none 0 0, .slice none 0 0, .slice none 0 0] 41)
    have hZ := heap_alloc2_new w (.cells #[.slice a1 n c1, .slice a2 n c2, .slice a3 n c3] 41) (.cells #[.slice none 0 0, .slice none 0 0, .slice none 0 0] 41)
    have hkB : Keeps noB w ((w.alloc (.cells #[.slice a1 n c1, .slice a2 n c2, .slice a3 n c3] 41)).alloc (.cells #[.slice none 0 0, .slice none 0 0, .slice none 0 0] 41)) := hkP.alloc _
    have hsB : ((w.alloc (.cells #[.slice a1 n c1, .slice a2 n c2, .slice a3 n c3] 41)).alloc (.cells #[.slice none 0 0, .slice none 0 0, .slice none 0 0] 41)).heap.size = w.heap.size + 2 := by rw [alloc_size, alloc_size]
    have HB := Lib.hid (And.intro hP (And.intro hZ (And.intro hkB hsB)))
    clear hP hZ hkB hsB hkP
    go_enter Try.func17, Try.ntmps17
    go_upto_region 3 with fail
    generalize (w.alloc (.cells #[.slice a1 n c1, .slice a2 n c2, .slice a3 n c3] 41)).alloc (.cells #[.slice none 0 0, .slice none 0 0, .slice none 0 0] 41) = wB at *
    have p0 := blk_cell HB.out.1 (i := 0) rfl
    have p1 := blk_cell HB.out.1 (i := 1) rfl
    have p2 := blk_cell HB.out.1 (i := 2) rfl
    have hC := rcopied_c (H.out.no HB.out.2.2.1) hn
    go_wp2_with fail
    refine hC.mono ?_
    rintro e w1 ⟨uN, uS, uL, xN, xS, ⟨rfl, hk1⟩, o1, x1, o2, x2, o3, hdis⟩
    clear hC p0 p1 p2
    obtain ⟨va, vb, vc, hN1⟩ := o1.sl
    obtain ⟨gN, cN, eN, bN, ⟨csN, hbN⟩, ⟨zN, cN'⟩, fN, sN⟩ := o1.set (k := k) (by rw [x1.1]; exact hk)
    obtain ⟨gL, cL, eL, bL, ⟨csL, hbL⟩, ⟨zL, cL'⟩, fL, sL⟩ := o3.set (k := k) (by simp [blist]; exact hk)
    obtain ⟨vd, ve, vf, rfl⟩ := o2.sl
    rw [x1.1] at eN
    rw [show (blist n lo).length = n by simp [blist]] at eL
    subst eN eL
    clear hN1
    have hP1 := hk1.blk HB.out.1 (noB_not _)
    have hZ1 := hk1.blk HB.out.2.1 (noB_not _)
    have HH := Lib.hid (And.intro hk1 (And.intro o1 (And.intro x1 (And.intro o2 (And.intro x2 (And.intro o3 (And.intro hbN (And.intro hbL (And.intro sN (And.intro sL (And.intro cN' (And.intro fN (And.intro cL' (And.intro fL (And.intro hZ1 (And.intro bN (And.intro bL hdis)))))))))))))))))
    clear hk1 o1 x1 o2 x2 o3 hbN hbL sN sL cN' fN cL' fL hZ1 bN bL hdis
    go_wp2_with (with_reducible refine wpList_store_row rfl 41 _ _ rfl w.heap.size #[.slice (some ⟨gN, 0, none⟩) n cN, .slice vd ve vf, .slice (some ⟨gL, 0, none⟩) n cL] rfl rfl 41 _ hP1 (by kernel_rfl) rfl (by kernel_rfl) ?_)
    have hkC : Keeps (oneB w.heap.size) w1 (w1.setRow w.heap.size #[.slice (some ⟨gN, 0, none⟩) n cN, .slice vd ve vf, .slice (some ⟨gL, 0, none⟩) n cL]) := (Keeps.refl _ _).setRow _ _ (.inl rfl)
    have hPC := setRow_heap w1 w.heap.size _ #[.slice (some ⟨gN, 0, none⟩) n cN, .slice vd ve vf, .slice (some ⟨gL, 0, none⟩) n cL] 41 (0, 0) hP1
    obtain ⟨hk1, o1, x1, o2, x2, o3, hbN, hbL, sN, sL, cN', fN, cL', fL, hZ1, bN, bL, hdis⟩ := HH.out
    have hsB := HB.out.2.2.2
    have hs1 := hk1.size
    have hkw1 := HB.out.2.2.1.trans_no hk1
    generalize w1.setRow w.heap.size #[.slice (some ⟨gN, 0, none⟩) n cN, .slice vd ve vf, .slice (some ⟨gL, 0, none⟩) n cL] = wC at *
    have hkwC : Keeps noB w wC := hkw1.trans hkC (fun y hy h => by unfold oneB at h; omega)
    have hr' := (HR.out.keep hkwC (fun b _ => noB_not b)).keep (((Keeps.refl noB wC).alloc (.cells #[] 5)).drew) (fun b _ => noB_not b)
    have hZC := hkC.blk hZ1 (by unfold oneB; omega)
    have hbNC := hkC.blk hbN (by unfold oneB; omega)
    have hbLC := hkC.blk hbL (by unfold oneB; omega)
    have hcNC := (kcell hkC ⟨gN, k, none⟩ (lt_of_blk hbN) (by show ¬ gN = _; omega)).trans cN'
    have hcLC := (kcell hkC ⟨gL, k, none⟩ (lt_of_blk hbL) (by show ¬ gL = _; omega)).trans cL'
    have oNC := o1.keep hkC (fun y h1 _ h2 => by unfold oneB at h2; omega)
    have oSC := o2.keep hkC (fun y h1 _ h2 => by unfold oneB at h2; omega)
    have oLC := o3.keep hkC (fun y h1 _ h2 => by unfold oneB at h2; omega)
    have xNC := x1.keep hkC (fun y hy h2 => by have := hD y hy; unfold oneB at h2; omega)
    have xSC := x2.keep hkC (fun y hy h2 => by have := hD y hy; unfold oneB at h2; omega)
    have hneg : gN ≠ gL := fun e => by subst e; rw [hbN] at hbL; simp at hbL
    have hSF : ∀ (F : Nat → Prop) w', Keeps F wC w' → ¬ F w.heap.size → w'.cell? ⟨w.heap.size, 0, none⟩ = some (.slice (some ⟨gN, 0, none⟩) n cN) := fun F w' hk hF => blk_cell (hk.blk hPC hF) (i := 0) rfl
    have HSF := Lib.hid hSF
    have H3 := Lib.hid (And.intro oNC (And.intro oSC (And.intro oLC (And.intro xNC xSC))))
    clear oNC oSC oLC xNC xSC
    have H2 := Lib.hid (And.intro hPC (And.intro hZC (And.intro hbNC (And.intro hbLC (And.intro hcNC (And.intro hcLC (And.intro hkwC hneg)))))))
    have hkk0 : (0 : Int) ≤ (k : Int) := by omega
    have hkk1 : (k : Int) < (n : Int) := by omega
    have hNs : wB.heap.size ≤ gN := bN
    have hsC := hkwC.size
    have hsC1 := hkC.size
    clear hk1 o1 x1 o2 x2 o3 hbN hbL sN sL cN' fN cL' fL hZ1 bN bL hdis hPC hZC hbNC hbLC hcNC hcLC hkwC hSF hkw1 hP1 hkC hneg
    go_region_held3 (fun w' => w'.cell? ⟨w.heap.size, 0, none⟩ = some (.slice (some ⟨gN, 0, none⟩) n cN))
      (first | exact HSF.out noB _ ((Keeps.refl noB wC).drew) (noB_not _) | exact HSF.out noB _ (((Keeps.refl noB wC).alloc _).drew) (noB_not _) | exact HSF.out noB _ hk3 (noB_not _) | exact HSF.out (oneB gN) _ ((hk3.of_no).set1 _ _) (by unfold oneB; omega))
      (first
        | (refine step_append_by rfl _ _ rfl wC.heap.size _ _ _ rfl (own_keep_no (own_bytes0 wC) ((Keeps.refl noB _).drew)) a l cap E rfl hr' (by omega) (by show wC.heap.size ≤ (wC.alloc _).heap.size; rw [alloc_size]; omega) ?_; intro v' w3 hown' hgrow; obtain ⟨hk3', a3, c3, rfl, hO3⟩ := copy_own (w := wC.drew) (by simpa using hown') hgrow; have hk3 := ((Keeps.refl noB wC).drew).trans_no hk3'; have zN3 := (kcell hk3 ⟨gN, k, none⟩ (lt_of_blk H2.out.2.2.1) (noB_not _)).trans H2.out.2.2.2.2.1; have fN3 := blk_free (hk3.blk H2.out.2.2.1 (noB_not _)) k))
    have hk4 : Keeps (oneB gN) w3 (w3.setCell ⟨gN, k, none⟩ (.slice a3 l.length c3)) := (Keeps.refl _ _).set1 _ _
    obtain ⟨hPC, hZC, hbNC, hbLC, hcNC, hcLC, hkwC, hneg⟩ := H2.out
    have hgN := lt_of_blk hbNC
    have hgL := lt_of_blk hbLC
    have hPD := hk4.blk (hk3.blk hPC (noB_not _)) (by unfold oneB; omega)
    have hZD := hk4.blk (hk3.blk hZC (noB_not _)) (by unfold oneB; omega)
    have hbLD := hk4.blk (hk3.blk hbLC (noB_not _)) (by unfold oneB; omega)
    have hcLD := (kcell (hk3.of_no.trans hk4 (F := oneB gN) (fun _ _ h => h)) ⟨gL, k, none⟩ hgL (by show ¬ gL = gN; omega)).trans hcLC
    obtain ⟨oNC, oSC, oLC, xNC, xSC⟩ := H3.out
    have hdis' := HH.out.2.2.2.2.2.2.2.2.2.2.2.2.2.2.2.2.2 (by omega)
    have hxn : xN ≠ [] := fun e => by have := xNC.1; rw [e] at this; simp at this; omega
    have hxs : xS ≠ [] := fun e => by have := xSC.1; rw [e] at this; simp at this; omega
    have oN4 := (oNC.no hk3).put (k := k) (by rw [xNC.1]; exact hk) (.slice a3 l.length c3)
    have oS4 := (oSC.no hk3).keepO hk4 (fun y hy e => hdis' gN y rfl hy e.symm)
    have oL4 := (oLC.no hk3).keepO hk4 (fun y hy e => by simp [Value.ownBlock] at hy; unfold oneB at e; omega)
    have xN4 := (((xNC.keep hk3 (fun b _ => noB_not b)).mono (E := fun y => D y ∨ wC.heap.size ≤ y) (fun _ _ => .inl)).set (k := k) (a := a3) (c := c3) (l := l) (by unfold maxLen; omega) (hO3.byr.mono (fun _ _ => .inr))).keep hk4 (fun b hb e => by unfold oneB at e; rcases hb with hb | hb; (have := hD b hb; omega); omega)
    have xS4 := (xSC.keep hk3 (fun b _ => noB_not b)).keep hk4 (fun b hb e => by have := hD b hb; unfold oneB at e; omega)
    have hkw4 := (hkwC.trans_no hk3).trans hk4 (F := noB) (fun y hy e => by unfold oneB at e; omega)
    have hs34 := hk3.size
    have H5 := Lib.hid (And.intro hPD (And.intro hZD (And.intro hneg (And.intro hgN (And.intro hgL (And.intro oN4 (And.intro oS4 (And.intro oL4 (And.intro xN4 (And.intro xS4 (And.intro hkw4 (And.intro hbLD (And.intro hxn hxs)))))))))))))
    have hszD : (w3.setCell ⟨gN, k, none⟩ (.slice a3 l.length c3)).heap.size = w3.heap.size := setCell_size _ _ _
    have e2 := blk_cell hPD (i := 2) rfl
    have fLD := blk_free hbLD k
    clear hk3 hk3' hO3 hown' hgrow zN3 fN3 hPC hZC hbNC hbLC hcNC hcLC hkwC hneg hgN hgL oNC oSC oLC xNC xSC hdis' hxn hxs oN4 oS4 oL4 xN4 xS4 hkw4
    generalize w3.setCell ⟨gN, k, none⟩ (.slice a3 l.length c3) = w4 at *
    go_upto_region 6 with fail
    obtain ⟨hPD, hZD, hneg, hgN, hgL, oN4, oS4, oL4, xN4, xS4, hkw4, hbLD, hxn, hxs⟩ := H5.out
    have hbLs : wB.heap.size ≤ gL := HH.out.2.2.2.2.2.2.2.2.2.2.2.2.2.2.2.2.1
    have hk5 : Keeps (oneB gL) w4 (w4.setCell ⟨gL, k, none⟩ (.bool true)) := (Keeps.refl _ _).set1 _ _
    have hPE := hk5.blk hPD (fun e => by unfold oneB at e; omega)
    have hZE := hk5.blk hZD (fun e => by unfold oneB at e; omega)
    have oN5 := oN4.keepO hk5 (fun y hy e => by simp [Value.ownBlock] at hy; unfold oneB at e; omega)
    have oS5 := oS4.keepO hk5 (fun y hy e => by unfold oneB at e; exact oS4.ne hxs hbLD (by decide) y hy e)
    have oL5 := oL4.put (k := k) (by simp [blist]; exact hk) (.bool true)
    have xN5 := xN4.keep hk5 (fun b hb e => by unfold oneB at e; rcases hb with hb | hb; (have := hD b hb; omega); omega)
    have xS5 := xS4.keep hk5 (fun b hb e => by have := hD b hb; unfold oneB at e; omega)
    have hkw5 := hkw4.trans hk5 (F := noB) (fun y hy e => by unfold oneB at e; omega)
    clear hPD hZD oN4 oS4 oL4 xN4 xS4 hkw4 hbLD hk5 e2 fLD
    generalize w4.setCell ⟨gL, k, none⟩ (.bool true) = w5 at *
    have hk6 : Keeps (oneB (w.heap.size + 1)) w5 (w5.setRow (w.heap.size + 1) #[.slice (some ⟨gN, 0, none⟩) n cN, .slice vd ve vf, .slice (some ⟨gL, 0, none⟩) n cL]) := (Keeps.refl _ _).setRow _ _ (.inl rfl)
    have HF := Lib.hid (And.intro oN5 (And.intro oS5 (And.intro oL5 (And.intro xN5 (And.intro xS5 (And.intro hkw5 (And.intro hk6 (And.intro hgN (And.intro hgL (And.intro hneg hbLs))))))))))
    clear oN5 oS5 oL5 xN5 xS5 hkw5 hk6 hgN hgL hneg hbLs hxn hxs
    go_wp2_with (first | with_reducible refine wpList_load_row rfl 41 _ rfl w.heap.size rfl 41 _ (0, 0) _ hPE Try.underlying41 rfl (by kernel_rfl) ?_ | with_reducible refine wpList_store_row rfl 41 _ _ rfl (w.heap.size + 1) #[.slice (some ⟨gN, 0, none⟩) n cN, .slice vd ve vf, .slice (some ⟨gL, 0, none⟩) n cL] rfl rfl 41 _ hZE (by kernel_rfl) rfl (by kernel_rfl) ?_)
    refine bodyPost_ret (results_row_tmp (fn := Try.f17) Try.results17 _ _ _ 41 _ (0, 0) _ rfl (setRow_heap _ _ _ _ _ _ hZE) Try.underlying41 rfl (by kernel_rfl)) rfl ?_
    obtain ⟨oN5, oS5, oL5, xN5, xS5, hkw5, hk6, hgN, hgL, hneg, hbLs⟩ := HF.out
    have hkF := hkw5.trans hk6 (F := noB) (fun y hy e => by unfold oneB at e; omega)
    have hne : ∀ y, wB.heap.size ≤ y → y < w5.heap.size → ¬ oneB (w.heap.size + 1) y := fun y h1 _ e => by unfold oneB at e; omega
    have oN6 := oN5.keep hk6 hne
    have oS6 := oS5.keep hk6 hne
    have oL6 := oL5.keep hk6 hne
    have xN6 := xN5.keep hk6 (fun b hb e => by unfold oneB at e; rcases hb with hb | hb; (have := hD b hb; omega); omega)
    have xS6 := xS5.keep hk6 (fun b hb e => by have := hD b hb; unfold oneB at e; omega)
    refine ⟨_, _, _, ⟨rfl, hkF⟩, (oN6.rowR xN6).mono (fun b hlt hb => ?_), (oS6.rowR xS6).mono (fun b hlt hb => ?_), (oL6.blR (D := noB) (by simp [blist]) (blist_set true)).mono (fun b hlt hb => ?_)⟩
    · rcases hb with (hb | hb) | hb
      · exact .inl hb
      · exact .inr ⟨by omega, hlt⟩
      · exact .inr ⟨by omega, hlt⟩
    · rcases hb with hb | hb
      · exact .inl hb
      · exact .inr ⟨by omega, hlt⟩
    · rcases hb with hb | hb
      · exact hb.elim
      · exact .inr ⟨by omega, hlt⟩
end Go.Proofs.Yteoafecdlnaecaa
