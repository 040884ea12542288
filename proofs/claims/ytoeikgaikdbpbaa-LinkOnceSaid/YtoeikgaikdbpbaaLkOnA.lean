/- Once, in order: the appends (strings; packets). No condition. -/
import Derived.Test.YtoeikgaikdbpbaaLkOnM
namespace Go.Proofs.Ytoeikgaikdbpbaa
open Go.RowKit

theorem info9 : (Try.prog.info? 9).map (fun i => (i.zero, i.size, i.bytes)) = some (some (.string ByteArray.empty), 1, 16) := by kernel_rfl
/-- 'append(s, x)' of one string, in a region that draws. -/
theorem step_append_str {w : World} {ops : Array Oper} {o : Oper} {a : Act} {K : Act → World → Prop} {Q : Exit → Act → World → Prop} {E : Prop} (hw : Region.wanted o (yielded ops a.tmps) = true) (s x : Operand)
    (ho : o.op = Op.call { callee := Callee.builtin Builtin.append, args := #[s, x], argTypes := #[30, 30] }) (v : Value) (n : Nat) (xs : List Value) (hv : a.eval s = v) (hown : w.ownsRow 0 9 1 v n xs)
    (g c : Nat) (u : Value) (e' : TypeId) (fr : Nat × Nat) (hx : a.eval x = Value.slice (some ⟨g, 0, none⟩) 1 c) (hu : w.heap[g]? = some (.cells #[u] e' fr)) (hone : u.oneCell' = true) (hn : n < 1000000)
    (h : ∀ (v' : Value) (w' : World), w'.ownsRow 0 9 1 v' (n + 1) (xs ++ [u]) → w.grownBy w' v.ownBlock → (v'.ownBlock = v.ownBlock ∨ v'.ownBlock = some w.heap.size) → K (a.put o.dst v') w') : if Region.wanted o (yielded ops a.tmps) = true then Oper.wp Try.prog o a w K Q else E := by
  rw [if_pos hw]
  obtain ⟨i1, hi, hz0, hz1, hz2⟩ := info_parts info9
  obtain ⟨v', w', hr, h1, h2, _, h5⟩ := run_append_own_at (P := Try.prog) w 0 30 o.type 9 i1 _ 1 16 Try.underlying30 hi hz0 hz1 hz2 rfl (by decide) v n xs hown ⟨g, 0, none⟩ 1 c [u] rfl
    (fun j u' hj => by
      have hadd : (⟨g, 0, none⟩ : Addr).add j = ⟨g, j, none⟩ := by unfold Addr.add; split <;> simp_all
      rw [hadd]
      exact blk_cell hu (by simpa using hj))
    (fun u' hu' => by simp at hu'; rw [hu']; exact hone) (by unfold maxLen; omega) (by omega) (Nat.zero_le _)
  have hfin := h v' w' h1 h2 h5
  unfold Oper.wp execOp
  simp only [ho, resolve, invoke, builtin, Sem.run_bind, Sem.run_pure, Result.andThen_ok, List.map_toArray, List.map_cons, List.map_nil, hv, hx, hr]
  exact hfin
/-- 'append(s, x)' of one string. -/
theorem wpList_append_str {w : World} {ops : Array Oper} {rest : List Oper} {o : Oper} {a : Act} {Q : Exit → Act → World → Prop} (hg : o.guard = none) (s x : Operand)
    (ho : o.op = Op.call { callee := Callee.builtin Builtin.append, args := #[s, x], argTypes := #[30, 30] }) (v : Value) (n : Nat) (xs : List Value) (hv : a.eval s = v) (hown : w.ownsRow 0 9 1 v n xs)
    (g c : Nat) (u : Value) (e' : TypeId) (fr : Nat × Nat) (hx : a.eval x = Value.slice (some ⟨g, 0, none⟩) 1 c) (hu : w.heap[g]? = some (.cells #[u] e' fr)) (hone : u.oneCell' = true) (hn : n < 1000000)
    (h : ∀ (v' : Value) (w' : World), w'.ownsRow 0 9 1 v' (n + 1) (xs ++ [u]) → w.grownBy w' v.ownBlock → (v'.ownBlock = v.ownBlock ∨ v'.ownBlock = some w.heap.size) → wpList Try.prog ops Q rest (a.put o.dst v') w') : wpList Try.prog ops Q (o :: rest) a w := by
  refine wpList_plain hg fun K hK => ?_
  obtain ⟨i1, hi, hz0, hz1, hz2⟩ := info_parts info9
  obtain ⟨v', w', hr, h1, h2, _, h5⟩ := run_append_own_at (P := Try.prog) w 0 30 o.type 9 i1 _ 1 16 Try.underlying30 hi hz0 hz1 hz2 rfl (by decide) v n xs hown ⟨g, 0, none⟩ 1 c [u] rfl
    (fun j u' hj => by
      have hadd : (⟨g, 0, none⟩ : Addr).add j = ⟨g, j, none⟩ := by unfold Addr.add; split <;> simp_all
      rw [hadd]
      exact blk_cell hu (by simpa using hj))
    (fun u' hu' => by simp at hu'; rw [hu']; exact hone) (by unfold maxLen; omega) (by omega) (Nat.zero_le _)
  have hfin := h v' w' h1 h2 h5
  unfold Oper.wp execOp
  simp only [ho, resolve, invoke, builtin, Sem.run_bind, Sem.run_pure, Result.andThen_ok, List.map_toArray, List.map_cons, List.map_nil, hv, hx, hr]
  exact hK _ _ hfin
/-- What a packet of a slice is. -/
def pq (h : Hd) (x : Int × List Int) : Pq := ⟨h.c, h.e, h.b, x.1, h.k, h.v, x.2⟩
theorem WyT.own_slice {w : World} {B : Nat} {v : Value} {n : Nat} {xs : List Value} (h : w.ownsRow B 24 7 v n xs) : ∃ a c, v = .slice a n c := by
  obtain ⟨_, h⟩ := h
  rcases h with ⟨rfl, h0⟩ | ⟨g, cap, cur, rfl, _⟩
  · exact ⟨none, 0, by rw [h0]⟩
  · exact ⟨_, _, rfl⟩
/-- 'append(way, packets...)'. -/
theorem way_append {w : World} {D : Nat → Prop} {vW : Value} {W : List Pq} (h : WyT w D vW W) {B : Nat} {hd : Hd} {ps : List (Int × List Int)} {a : Option Addr} {m c : Nat} (hp : PkO w B (.slice a m c) hd ps) (h0 : ps ≠ []) (hl : W.length + ps.length ≤ 1000000) :
    ∃ v' w', (Builtin.append_ #[32, 32] 32 #[vW, .slice a m c]).run Try.prog w = .ok v' w' ∧ Keeps D w w' ∧ WyT w' (fun y => D y ∨ (B ≤ y ∧ y < w'.heap.size) ∨ (w.heap.size ≤ y ∧ y < w'.heap.size)) v' (W ++ ps.map (pq hd)) := by
  obtain ⟨i1, hi, hz0, hz1, hz2⟩ := info_parts info24
  obtain ⟨xs, ho, hx⟩ := h.own
  obtain ⟨ys, hoy, hy⟩ := hp
  have hly := hoy.1
  have hpos : 0 < ps.length := List.length_pos_iff.2 h0
  rcases hoy.2 with ⟨_, e⟩ | ⟨g, cap, cur, e, hB, hg, h1, h2, h3, ht⟩
  · omega
  simp at e
  obtain ⟨rfl, rfl, rfl⟩ := e
  have hone : ∀ u ∈ ys, u.oneCell' = true := fun u hu => by
    obtain ⟨k, hk, rfl⟩ := List.getElem_of_mem hu
    obtain ⟨a1, c1, g1, _⟩ := hy (k / 7) (by omega)
    have := g1 (k % 7) (by omega)
    rw [show k / 7 * 7 + k % 7 = k by omega, List.getElem?_eq_getElem hk] at this
    have h7 : k % 7 < 7 := by omega
    generalize k % 7 = r at *
    match r, h7 with
    | 0, _ => simp [pk7, pcells] at this; rw [this]; rfl
    | 1, _ => simp [pk7, pcells] at this; rw [this]; rfl
    | 2, _ => simp [pk7, pcells] at this; rw [this]; rfl
    | 3, _ => simp [pk7, pcells] at this; rw [this]; rfl
    | 4, _ => simp [pk7, pcells] at this; rw [this]; rfl
    | 5, _ => simp [pk7, pcells] at this; rw [this]; rfl
    | 6, _ => simp [pk7, pcells] at this; rw [this]; rfl
  obtain ⟨v', w', hr, r1, r2, _, r5⟩ := run_append_own_at (P := Try.prog) w 0 32 32 24 i1 _ 7 72 Try.underlying32 hi hz0 hz1 hz2 rfl (by decide) vW W.length xs ho ⟨g, 0, none⟩ ps.length c ys hly
    (fun j u hj => by
      have hadd : (⟨g, 0, none⟩ : Addr).add j = ⟨g, j, none⟩ := by unfold Addr.add; split <;> simp_all
      rw [hadd]
      have hjl := (List.getElem?_eq_some_iff.1 hj).1
      rw [cell_of_row w g _ cur 24 (0, 0) hg, ← Array.getElem?_toList, ← hj, ← ht, List.getElem?_take, if_pos (by omega)])
    hone (by unfold maxLen; omega) (by omega) (Nat.zero_le _)
  have hk : Keeps D w w' := (Keeps.refl _ _).grown r2 (fun k hk => .inr (h.at_ k hk))
  have hkg := r2.size
  refine ⟨v', w', hr, hk, ⟨xs ++ ys, by simpa using r1, fun i hi2 => ?_⟩, fun y hy => ?_⟩
  · have hlx := ho.1
    by_cases e : i < W.length
    · obtain ⟨a1, c1, g1, g2⟩ := hx i e
      rw [List.getElem_append_left e]
      refine ⟨a1, c1, fun j hj => ?_, ?_⟩
      · rw [List.getElem?_append_left (by omega)]; exact g1 j hj
      · refine (g2.keep (F := fun y => vW.ownBlock = some y) ((Keeps.refl _ _).grown r2 (fun k hk => .inr hk)) (fun y hf _ cs hcs => ?_)).mono (fun b hb _ => .inl hb)
        obtain ⟨_, ho2⟩ := ho
        rcases ho2 with ⟨rfl, _⟩ | ⟨gw, capw, curw, rfl, _, hgw, _⟩
        · simp [Value.ownBlock] at hf
        · simp [Value.ownBlock] at hf
          subst hf
          rw [hgw] at hcs
          simp at hcs
    · rw [List.getElem_append_right (by omega)]
      have hi3 : i - W.length < ps.length := by simp at hi2; omega
      obtain ⟨a1, c1, g1, g2⟩ := hy (i - W.length) hi3
      refine ⟨a1, c1, fun j hj => ?_, ?_⟩
      · rw [List.getElem?_append_right (by omega), hlx, show i * 7 + j - W.length * 7 = (i - W.length) * 7 + j by omega, g1 j hj]
        simp [qcells, pk7, pcells, pq]
      · have g3 := g2.grown24 ho r2
        rw [List.getElem_map]
        exact ByS.of_o g3 (fun b hB hb => .inr (.inl ⟨hB, hb⟩))
  · rcases r5 with r | r
    · exact .inl (h.at_ y (r ▸ hy))
    · have := (r1.lt y hy).2
      rw [r] at hy; simp at hy
      exact .inr (.inr ⟨by omega, this⟩)
theorem WyT.block {w : World} {D : Nat → Prop} {a : Option Addr} {n c : Nat} {W : List Pq} (h : WyT w D (.slice a n c) W) (h0 : 0 < W.length) :
    ∃ (g : Nat) (xs : List Value) (cur : Array Value), a = some ⟨g, 0, none⟩ ∧ W.length ≤ c ∧ c ≤ maxLen ∧ w.heap[g]? = some (.cells cur 24 (0, 0)) ∧ D g ∧ xs.length = W.length * 7 ∧ (∀ j, j < W.length * 7 → cur[j]? = xs[j]?) ∧ (∀ u ∈ xs, u.oneCell' = true) ∧
      ∀ i (h : i < W.length), ∃ a c, (∀ j, j < 7 → xs[i * 7 + j]? = (qcells W[i] a c)[j]?) ∧ ByS w D a c W[i].l := by
  obtain ⟨xs, ho, hx⟩ := h.own
  have hD := h.at_
  obtain ⟨hl, ho⟩ := ho
  rcases ho with ⟨_, e⟩ | ⟨g, cap, cur, e, _, hg, h1, h2, _, ht⟩
  · omega
  simp at e
  obtain ⟨rfl, _, rfl⟩ := e
  refine ⟨g, xs, cur, rfl, h1, h2, hg, hD g rfl, hl, fun j hj => ?_, fun u hu => ?_, hx⟩
  · rw [← Array.getElem?_toList, ← ht, List.getElem?_take, if_pos (by omega)]
  · obtain ⟨k, hk, rfl⟩ := List.getElem_of_mem hu
    obtain ⟨a1, c1, g1, _⟩ := hx (k / 7) (by omega)
    have := g1 (k % 7) (by omega)
    rw [show k / 7 * 7 + k % 7 = k by omega, List.getElem?_eq_getElem hk] at this
    have h7 : k % 7 < 7 := by omega
    generalize k % 7 = r at *
    match r, h7 with
    | 0, _ => simp [qcells] at this; rw [this]; rfl
    | 1, _ => simp [qcells] at this; rw [this]; rfl
    | 2, _ => simp [qcells] at this; rw [this]; rfl
    | 3, _ => simp [qcells] at this; rw [this]; rfl
    | 4, _ => simp [qcells] at this; rw [this]; rfl
    | 5, _ => simp [qcells] at this; rw [this]; rfl
    | 6, _ => simp [qcells] at this; rw [this]; rfl
/-- 'append(s, part...)' of packets, in a region that draws. -/
theorem step_append_part {w : World} {ops : Array Oper} {o : Oper} {a : Act} {K : Act → World → Prop} {Q : Exit → Act → World → Prop} {E : Prop} (hw : Region.wanted o (yielded ops a.tmps) = true) (s x : Operand)
    (ho : o.op = Op.call { callee := Callee.builtin Builtin.append, args := #[s, x], argTypes := #[32, 32] }) (v : Value) (n : Nat) (xs : List Value) (hv : a.eval s = v) (hown : w.ownsRow 0 24 7 v n xs)
    (g off m c : Nat) (cur : Array Value) (ys : List Value) (hx : a.eval x = Value.slice (some ⟨g, off, none⟩) m c) (hg : w.heap[g]? = some (.cells cur 24 (0, 0))) (hy : ys.length = m * 7) (hys : ∀ j, j < m * 7 → cur[off + j]? = ys[j]?) (hone : ∀ u ∈ ys, u.oneCell' = true) (hn : n + m ≤ 1000000)
    (h : ∀ (v' : Value) (w' : World), w'.ownsRow 0 24 7 v' (n + m) (xs ++ ys) → w.grownBy w' v.ownBlock → (v'.ownBlock = v.ownBlock ∨ v'.ownBlock = some w.heap.size) → K (a.put o.dst v') w') : if Region.wanted o (yielded ops a.tmps) = true then Oper.wp Try.prog o a w K Q else E := by
  rw [if_pos hw]
  obtain ⟨i1, hi, hz0, hz1, hz2⟩ := info_parts info24
  obtain ⟨v', w', hr, h1, h2, _, h5⟩ := run_append_own_at (P := Try.prog) w 0 32 o.type 24 i1 _ 7 72 Try.underlying32 hi hz0 hz1 hz2 rfl (by decide) v n xs hown ⟨g, off, none⟩ m c ys hy
    (fun j u' hj => by
      have hadd : (⟨g, off, none⟩ : Addr).add j = ⟨g, off + j, none⟩ := by unfold Addr.add; split <;> simp_all
      have hjl := (List.getElem?_eq_some_iff.1 hj).1
      rw [hadd]
      exact blk_cell hg (by rw [← hj]; exact hys j (by omega)))
    hone (by unfold maxLen; omega) (by omega) (Nat.zero_le _)
  have hfin := h v' w' h1 h2 h5
  unfold Oper.wp execOp
  simp only [ho, resolve, invoke, builtin, Sem.run_bind, Sem.run_pure, Result.andThen_ok, List.map_toArray, List.map_cons, List.map_nil, hv, hx, hr]
  exact hfin
theorem WyT.erased {w w' : World} {D D' : Nat → Prop} {W : List Pq} {n : Nat} (hn : n < W.length) {xs : List Value} (hxl : xs.length = W.length * 7) (hx : ∀ i (h : i < W.length), ∃ a c, (∀ j, j < 7 → xs[i * 7 + j]? = (qcells W[i] a c)[j]?) ∧ ByS w D a c W[i].l) (hk : Keeps noB w w') {v' : Value}
    (ho : w'.ownsRow 0 24 7 v' (n + (W.length - (n + 1))) (xs.take (n * 7) ++ xs.drop ((n + 1) * 7))) (hv : ∀ y, v'.ownBlock = some y → D' y) (hD : ∀ y, D y → D' y) : WyT w' D' v' (W.take n ++ W.drop (n + 1)) := by
  refine ⟨⟨xs.take (n * 7) ++ xs.drop ((n + 1) * 7), ?_, fun i hi => ?_⟩, hv⟩
  · rw [show (W.take n ++ W.drop (n + 1)).length = n + (W.length - (n + 1)) by simp; omega]; exact ho
  · have hi2 : i < n + (W.length - (n + 1)) := by simp at hi; omega
    by_cases e : i < n
    · obtain ⟨a, c, g1, g2⟩ := hx i (by omega)
      refine ⟨a, c, fun j hj => ?_, ?_⟩
      · rw [List.getElem?_append_left (by simp; omega), List.getElem?_take, if_pos (by omega), g1 j hj, List.getElem_append_left (by simp; omega), List.getElem_take]
      · rw [List.getElem_append_left (by simp; omega), List.getElem_take]
        exact (g2.keep hk (fun x hf _ _ _ => noB_not x hf)).mono (fun b hb _ => hD b hb)
    · obtain ⟨a, c, g1, g2⟩ := hx (i + 1) (by omega)
      have hge : (W.take n ++ W.drop (n + 1))[i] = W[i + 1] := by
        rw [List.getElem_append_right (by simp; omega), List.getElem_drop]
        congr 1
        simp
        omega
      refine ⟨a, c, fun j hj => ?_, ?_⟩
      · rw [List.getElem?_append_right (by simp; omega), List.getElem?_drop, hge, ← g1 j hj]
        congr 1
        simp
        omega
      · rw [hge]
        exact (g2.keep hk (fun x hf _ _ _ => noB_not x hf)).mono (fun b hb _ => hD b hb)
theorem own_slice1 {w : World} {B e n : Nat} {v : Value} {xs : List Value} (h : w.ownsRow B e 1 v n xs) : ∃ a c, v = .slice a n c := by
  obtain ⟨_, h⟩ := h
  rcases h with ⟨rfl, h0⟩ | ⟨g, cap, cur, rfl, _⟩
  · exact ⟨none, 0, by rw [h0]⟩
  · exact ⟨_, _, rfl⟩
end Go.Proofs.Ytoeikgaikdbpbaa
