/- SectorRuns: whatever is done with a drive: what goes with the law's state. No condition. -/
import Derived.Test.YteoafecdlnaecaaSecRfN
import Derived.Test.YteoafecdlnaecaaSecArg
namespace Go.Proofs.Yteoafecdlnaecaa
open Go.RowKit

/-- Numbers that may be read. -/
def NumR (w : World) (v : Value) (l : List Int) : Prop := ∃ a n, v = .slice a l.length n ∧ ∀ i (h : i < l.length), ∃ g off, a = some ⟨g, off, none⟩ ∧ g < w.heap.size ∧ w.cell? ⟨g, off + i, none⟩ = some (.int .i64 l[i])
theorem NumR.no {w w1 : World} {v : Value} {l : List Int} (h : NumR w v l) (hk : Keeps noB w w1) : NumR w1 v l := by
  obtain ⟨a, n, rfl, h⟩ := h
  refine ⟨a, n, rfl, fun i hi => ?_⟩
  obtain ⟨g, off, ha, hg, hc⟩ := h i hi
  refine ⟨g, off, ha, Nat.lt_of_lt_of_le hg hk.size, ?_⟩
  rw [← hc]
  unfold World.cell?
  rw [hk.block g hg (noB_not g)]
theorem OwnI.num {w : World} {B : Nat} {v : Value} {l : List Int} (h : OwnI w B v l) : NumR w v l := by
  obtain ⟨_, h⟩ := h
  rcases h with ⟨rfl, h0⟩ | ⟨g, cap, cur, rfl, _, hg, _, _, _, ht⟩
  · exact ⟨none, 0, by rw [h0], fun i hi => by omega⟩
  · refine ⟨_, cap, rfl, fun i hi => ⟨g, 0, rfl, lt_of_blk hg, ?_⟩⟩
    rw [Nat.zero_add]
    refine blk_cell hg ?_
    have h1 : (cur.toList.take (l.length * 1))[i]? = (l.map (Value.int .i64))[i]? := by rw [ht]
    rw [List.getElem?_take, if_pos (by omega), Array.getElem?_toList] at h1
    rw [h1, List.getElem?_map, List.getElem?_eq_getElem hi]
    rfl
set_option maxRecDepth 100000 in
set_option maxHeartbeats 4000000 in
theorem sameN_true {w : World} {va vb : Value} {l : List Int} (ha : NumR w va l) (hb : NumR w vb l) (hn : l.length ≤ 1000000) : Calls Try.prog 23 #[va, vb] w (RetK noB (.bool true) w) := by
  obtain ⟨a, c, rfl, ha⟩ := ha
  obtain ⟨b, d, rfl, hb⟩ := hb
  have HA := Lib.hid (show NumR w (.slice a l.length c) l from ⟨a, c, rfl, ha⟩)
  have HB := Lib.hid (show NumR w (.slice b l.length d) l from ⟨b, d, rfl, hb⟩)
  clear ha hb
  go_enter Try.func23, Try.ntmps23
  go_wp2_with fail
  go_loopw [13] (fun i wr => ∃ k : Nat, k ≤ l.length ∧ i = .int .i64 k ∧ Keeps noB w wr)
    (fun i _ => l.length - (intOf i).toNat)
  case atStart => exact ⟨0, by omega, rfl, Keeps.refl _ _⟩
  case round =>
    obtain ⟨k, hk, rfl, hkp⟩ := hrel
    by_cases hlt : k < l.length
    · obtain ⟨a1, c1, e1, h1⟩ := HA.out.no hkp
      obtain ⟨b1, d1, e2, h2⟩ := HB.out.no hkp
      simp at e1 e2
      obtain ⟨rfl, rfl⟩ := e1
      obtain ⟨rfl, rfl⟩ := e2
      obtain ⟨g1, o1, rfl, _, x1⟩ := h1 k hlt
      obtain ⟨g2, o2, rfl, _, x2⟩ := h2 k hlt
      clear h1 h2
      go_wp2_with fail
      go_quiet (fail)
      go_wp2_with fail
      go_roundw
      case rel => exact ⟨k + 1, by omega, by go_num, hkp.drewN _⟩
      case measure => simp [intOf]; omega
    · have : k = l.length := by omega
      go_wp2_with fail
      go_ret
      exact ⟨rfl, hkp⟩

/-- What is not loose is stable. -/
def Stb (n : Nat) (now st : Nat → List Int) (lo : Nat → Bool) : Prop := ∀ i, i < n → lo i = false → now i = st i
theorem Stb.write {n : Nat} {now st : Nat → List Int} {lo : Nat → Bool} (h : Stb n now st lo) (k : Nat) (l : List Int) : Stb n (up now k l) st (up lo k true) := by
  intro i hi hl
  unfold up at hl ⊢
  by_cases e : i = k
  · rw [if_pos e] at hl; simp at hl
  · rw [if_neg e] at hl ⊢; exact h i hi hl
theorem crash_now {n : Nat} {now st : Nat → List Int} {lo : Nat → Bool} (h : Stb n now st lo) (keep : Int) : ∀ i, i < n → crX keep now st lo i = aftN (pickK keep) now st lo i := by
  intro i hi
  unfold crX aftN
  cases hl : lo i
  · simp [h i hi hl]
  · cases pickK keep i <;> simp
theorem crash_st (now st : Nat → List Int) (lo : Nat → Bool) (keep : Int) : ∀ i, crX keep now st lo i = aftS (pickK keep) now st lo i := fun _ => rfl
theorem pick63 {i : Nat} (hi : i < 6) : pickK 63 i = true := by
  match i, hi with
  | 0, _ => decide
  | 1, _ => decide
  | 2, _ => decide
  | 3, _ => decide
  | 4, _ => decide
  | 5, _ => decide
theorem sync_now {n : Nat} (hn : n ≤ 6) {now st : Nat → List Int} {lo : Nat → Bool} (h : Stb n now st lo) : ∀ i, i < n → crX 63 now st lo i = aftN (fun _ => true) now st lo i := by
  intro i hi
  unfold crX aftN
  rw [pick63 (by omega)]
  cases hl : lo i
  · simp [h i hi hl]
  · simp
theorem sync_st {n : Nat} (hn : n ≤ 6) (now st : Nat → List Int) (lo : Nat → Bool) : ∀ i, i < n → crX 63 now st lo i = aftS (fun _ => true) now st lo i := by
  intro i hi
  unfold crX aftS
  rw [pick63 (by omega)]
theorem RdR.congr {w : World} {D : Nat → Prop} {vN vS vL : Value} {n : Nat} {now st now' st' : Nat → List Int} {lo : Nat → Bool} (h : RdR w D vN vS vL n now st lo) (h1 : ∀ i, i < n → now i = now' i) (h2 : ∀ i, i < n → st i = st' i) : RdR w D vN vS vL n now' st' lo := by
  obtain ⟨⟨a, c, e1, g1⟩, ⟨b, d, e2, g2⟩, h3⟩ := h
  exact ⟨⟨a, c, e1, fun i hi => by rw [← h1 i hi]; exact g1 i hi⟩, ⟨b, d, e2, fun i hi => by rw [← h2 i hi]; exact g2 i hi⟩, h3⟩
theorem Stb.crash {n : Nat} {now st : Nat → List Int} {lo : Nat → Bool} (h : Stb n now st lo) (keep : Int) : Stb n (aftN (pickK keep) now st lo) (aftS (pickK keep) now st lo) (fun _ => false) := fun i hi _ => by
  rw [← crash_now h keep i hi, ← crash_st]
theorem Stb.sync {n : Nat} (hn : n ≤ 6) {now st : Nat → List Int} {lo : Nat → Bool} (h : Stb n now st lo) : Stb n (aftN (fun _ => true) now st lo) (aftS (fun _ => true) now st lo) (fun _ => false) := fun i hi _ => by
  rw [← sync_now hn h i hi, ← sync_st hn now st lo i hi]
/-- The drive, and the reference's drive in the variable at bw. -/
structure SrI (w wr : World) (bd gd bw n : Nat) (S D : Nat → Prop) (vN vS vL : Value) (now st : Nat → List Int) (lo : Nat → Bool) : Prop where
  kp : Keeps noB w wr
  d : DrvS wr S bd gd n now st lo
  r : RdR wr D vN vS vL n now st lo
  sl : ∀ y, S y → y < wr.heap.size
  sbw : ∀ y, S y → w.heap.size ≤ y ∧ y ≠ bw
  dl : ∀ y, D y → y < wr.heap.size
  ds : ∀ y, D y → ¬ S y ∧ y ≠ bw
  wv : wr.heap[bw]? = some (.cells #[vN, vS, vL] 41 (0, 0))
  wlo : w.heap.size ≤ bw
  stb : Stb n now st lo
  n6 : n ≤ 6
theorem SrI.no {w wr w1 : World} {bd gd bw n : Nat} {S D : Nat → Prop} {vN vS vL : Value} {now st : Nat → List Int} {lo : Nat → Bool} (h : SrI w wr bd gd bw n S D vN vS vL now st lo) (hk : Keeps noB wr w1) : SrI w w1 bd gd bw n S D vN vS vL now st lo :=
  ⟨h.kp.trans_no hk, h.d.no hk, h.r.no hk, fun y hy => Nat.lt_of_lt_of_le (h.sl y hy) hk.size, h.sbw, fun y hy => Nat.lt_of_lt_of_le (h.dl y hy) hk.size, h.ds, hk.blk h.wv (noB_not _), h.wlo, h.stb, h.n6⟩
theorem SrI.far {w wr w1 : World} {bd gd bw n : Nat} {S D F : Nat → Prop} {vN vS vL : Value} {now st : Nat → List Int} {lo : Nat → Bool} (h : SrI w wr bd gd bw n S D vN vS vL now st lo) (hk : Keeps F wr w1) (hF : ∀ y, F y → w.heap.size ≤ y ∧ ¬ S y ∧ ¬ D y ∧ y ≠ bw) : SrI w w1 bd gd bw n S D vN vS vL now st lo :=
  ⟨h.kp.trans hk (fun y hy e => by have := (hF y e).1; omega), h.d.keep hk (fun x hx _ e => (hF x e).2.1 hx), h.r.keep hk (fun b _ hb e => (hF b e).2.2.1 hb), fun y hy => Nat.lt_of_lt_of_le (h.sl y hy) hk.size, h.sbw, fun y hy => Nat.lt_of_lt_of_le (h.dl y hy) hk.size, h.ds, hk.blk h.wv (fun e => (hF _ e).2.2.2 rfl), h.wlo, h.stb, h.n6⟩
/-- The drive has been turned (its blocks, and new ones), and then the reference's. -/
theorem SrI.step {w w3 w4 w5 : World} {bd gd bw n : Nat} {S D : Nat → Prop} {vN vS vL uN uS uL : Value} {now st now' st' : Nat → List Int} {lo lo' : Nat → Bool} (h : SrI w w3 bd gd bw n S D vN vS vL now st lo) (hk4 : Keeps (fun y => S y ∨ w3.heap.size ≤ y) w3 w4) (hd : DrvS w4 (fun y => S y ∨ w3.heap.size ≤ y) bd gd n now' st' lo') (hk5 : Keeps noB w4 w5)
    (hr : RdR w5 (fun y => D y ∨ (w4.heap.size ≤ y ∧ y < w5.heap.size)) uN uS uL n now' st' lo') (hst : Stb n now' st' lo') :
    SrI w (w5.setRow bw #[uN, uS, uL]) bd gd bw n (fun y => (S y ∨ w3.heap.size ≤ y) ∧ y < w4.heap.size) (fun y => D y ∨ (w4.heap.size ≤ y ∧ y < w5.heap.size)) uN uS uL now' st' lo' := by
  have hbw := lt_of_blk h.wv
  have hs4 := hk4.size
  have hs5 := hk5.size
  have hW4 := hk4.blk h.wv (fun e => by rcases e with e | e; exact (h.sbw _ e).2 rfl; omega)
  have hW5 := hk5.blk hW4 (noB_not _)
  have hkr : Keeps (oneB bw) w5 (w5.setRow bw #[uN, uS, uL]) := (Keeps.refl _ _).setRow _ _ (.inl rfl)
  have hd4 := (hd.mono (S' := fun y => (S y ∨ w3.heap.size ≤ y) ∧ y < w4.heap.size) (fun x hx hlt => ⟨hx, hlt⟩)).no hk5
  have hSlo : ∀ y, ((S y ∨ w3.heap.size ≤ y) ∧ y < w4.heap.size) → w.heap.size ≤ y ∧ y ≠ bw := fun y hy => by
    rcases hy.1 with g | g
    · exact h.sbw y g
    · have := h.kp.size; exact ⟨by omega, by omega⟩
  have hDbw : ∀ y, (D y ∨ (w4.heap.size ≤ y ∧ y < w5.heap.size)) → y ≠ bw := fun y hy => by
    rcases hy with hy | hy
    · exact (h.ds y hy).2
    · omega
  refine ⟨((h.kp.trans hk4 (fun y hy e => by rcases e with e | e; (have := (h.sbw y e).1; omega); (have := h.kp.size; omega))).trans_no hk5).trans hkr (fun y hy e => by unfold oneB at e; subst e; have := h.wlo; omega), hd4.keep hkr (fun x hx _ e => (hSlo x hx).2 e), hr.keep hkr (fun b _ hb e => hDbw b hb e), fun y hy => by rw [setRow_size]; have := hy.2; omega, hSlo, fun y hy => ?_, fun y hy => ⟨fun hS => ?_, hDbw y hy⟩, setRow_heap _ _ _ _ _ _ hW5, h.wlo, hst, h.n6⟩
  · rw [setRow_size]
    rcases hy with hy | hy
    · have := h.dl y hy; omega
    · exact hy.2
  · rcases hy with hy | hy
    · rcases hS.1 with g | g
      · exact (h.ds y hy).1 g
      · have := h.dl y hy; omega
    · have := hS.2; omega
end Go.Proofs.Yteoafecdlnaecaa
