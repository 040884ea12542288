/- Items that are dropped: DeleteFunc. No condition. -/
import Derived.Test.YtoeikgaikdbpbaaLkIt
namespace Go.Proofs.Ytoeikgaikdbpbaa
open Go.RowKit

/-- What is kept behind an acknowledgement. -/
def kept (ack : Int) (L : List It) : List It := L.filter fun e => decide (ack < e.s)
theorem kept_append (L M : List It) (c : Int) : kept c (L ++ M) = kept c L ++ kept c M := by simp [kept]
theorem kept_le (c : Int) (L : List It) : (kept c L).length ≤ L.length := List.length_filter_le _ _
theorem take_snoc {α : Type} {l : List α} {k : Nat} (hk : k < l.length) : l.take (k + 1) = l.take k ++ [l[k]] := by simp

theorem setCells_blk (b : Nat) (t : TypeId) (fr : Nat × Nat) : ∀ (vs : List Value) (o : Nat) (w : World) (cs : Array Value), w.heap[b]? = some (.cells cs t fr) →
    ∃ cs', (w.setCells b o vs).heap[b]? = some (.cells cs' t fr) ∧ cs'.size = cs.size ∧ ∀ k, k < o → cs'[k]? = cs[k]?
  | [], _, _, cs, h => ⟨cs, h, rfl, fun _ _ => rfl⟩
  | v :: r, o, w, cs, h => by
    obtain ⟨cs', h1, h2, h3⟩ := setCells_blk b t fr r (o + 1) (w.setCell ⟨b, o, none⟩ v) _ (heap_setCell_same w b o v h)
    refine ⟨cs', h1, by simpa using h2, fun k hk => ?_⟩
    rw [h3 k (by omega), Array.getElem?_setIfInBounds, if_neg (by omega)]
theorem setCells_keeps (b : Nat) : ∀ (vs : List Value) (o : Nat) (w : World), Keeps (oneB b) w (w.setCells b o vs)
  | [], _, w => Keeps.refl _ w
  | v :: r, o, w => ((Keeps.refl _ w).set1 o v).trans (setCells_keeps b r (o + 1) _) (fun _ _ h => h)
theorem zeroCells2 (x y : Value) (n : Nat) : (Builtin.zeroCells #[x, y] n).toList.length = n * 2 ∧ ∀ u ∈ (Builtin.zeroCells #[x, y] n).toList, u = x ∨ u = y := by
  constructor
  · simp [Builtin.zeroCells]
  · intro u hu
    simp only [Builtin.zeroCells, Array.mem_toList_iff] at hu
    obtain ⟨i, hi, rfl⟩ := Array.mem_iff_getElem.1 hu
    simp
    rcases Nat.mod_two_eq_zero_or_one i with h | h
    · simp [h]
    · simp [h]
theorem run_clear2 {P : Program} (w : World) (t e ty : TypeId) (x y : Value) (ht : P.underlying t = some (.slice e)) (hv : ∀ w, (zeroValue e).run P w = .ok (.agg #[x, y]) w) (h1 : x.oneCell' = true) (h2 : y.oneCell' = true) (b o n c : Nat)
    {cs : Array Value} {et : TypeId} (hb : w.heap[b]? = some (.cells cs et (0, 0))) (hle : o + n * 2 ≤ cs.size) :
    ∃ vs, (Builtin.clear_ #[t] ty #[.slice (some ⟨b, o, none⟩) n c]).run P w = .ok (.tuple #[]) (w.setCells b o vs) := by
  obtain ⟨hl, hm⟩ := zeroCells2 x y n
  rcases Nat.eq_zero_or_pos n with h0 | h0
  · subst h0
    exact ⟨[], by simp [Builtin.clear_, run_underlying ht, World.setCells]⟩
  · have hst := run_storeCells_cells (P := P) b o (Builtin.zeroCells #[x, y] n).toList 0 w
      (fun j hj => by rw [cell_of_row w b _ cs et (0, 0) hb]; simp; omega)
      (fun j _ => blk_free hb _)
      (fun v hv' => by rcases hm v hv' with rfl | rfl <;> assumption)
    refine ⟨(Builtin.zeroCells #[x, y] n).toList, ?_⟩
    obtain ⟨m, rfl⟩ : ∃ m, n = m + 1 := ⟨n - 1, by omega⟩
    simp only [Nat.add_zero] at hst
    simp [Builtin.clear_, run_underlying ht, hv, Value.cells, hst]
theorem ItB.clear {w w' : World} {g c : Nat} {L : List It} (h : ItB w g c L) (n i : Nat) (hi : i ≤ n) (hn : n ≤ L.length) {vs : List Value} (hw : w' = w.setCells g (i * 2) vs) : ItB w' g c (L.take i) := by
  obtain ⟨cs, hb, h0, h1, h2⟩ := h
  obtain ⟨cs', g1, g2, g3⟩ := setCells_blk g 63 (0, 0) vs (i * 2) w cs hb
  subst hw
  refine ⟨cs', g1, by omega, by rw [List.length_take]; omega, fun k hk => ?_⟩
  rw [List.length_take] at hk
  obtain ⟨h3, h4⟩ := h2 k (by omega)
  rw [List.getElem_take, g3 _ (by omega), g3 _ (by omega)]
  exact ⟨h3, h4⟩

/-- How far a sifting has come. -/
structure Sift (l L : List It) (c : Int) (i j : Nat) : Prop where
  len : L.length = l.length
  ij : i ≤ j
  head : L.take i = kept c (l.take j)
  tail : L.drop j = l.drop j
theorem Sift.at {l L : List It} {c : Int} {i j : Nat} (h : Sift l L c i j) (hj : j < l.length) (hj' : j < L.length) : L[j] = l[j] := by
  have := congrArg (·[0]?) h.tail
  simp [hj, hj'] at this
  exact this
theorem Sift.skip {l L : List It} {c : Int} {i j : Nat} (h : Sift l L c i j) (hj : j < l.length) (hc : l[j].s ≤ c) : Sift l L c i (j + 1) := by
  refine ⟨h.len, by have := h.ij; omega, ?_, ?_⟩
  · rw [take_snoc hj, kept_append, ← h.head]
    simp [kept, hc]
  · have := congrArg (List.drop 1) h.tail
    simpa [List.drop_drop] using this
theorem Sift.keep {l L : List It} {c : Int} {i j : Nat} (h : Sift l L c i j) (hj : j < l.length) (hij : i < j) (hc : c < l[j].s) : Sift l (L.set i l[j]) c (i + 1) (j + 1) := by
  have hl := h.len
  refine ⟨by simpa using hl, by omega, ?_, ?_⟩
  · have h1 : (L.set i l[j]).take (i + 1) = L.take i ++ [l[j]] := by
      rw [take_snoc (by rw [List.length_set]; omega)]
      congr 1
      · apply List.ext_getElem?
        intro k
        simp only [List.getElem?_take, List.getElem?_set]
        by_cases e : k < i
        · rw [if_pos e, if_pos e, if_neg (by omega)]
        · rw [if_neg e, if_neg e]
      · simp
    rw [h1, take_snoc hj, kept_append, h.head]
    simp [kept, hc]
  · have h1 : (L.set i l[j]).drop (j + 1) = L.drop (j + 1) := by
      apply List.ext_getElem?
      intro k
      simp only [List.getElem?_drop, List.getElem?_set]
      rw [if_neg (by omega)]
    rw [h1]
    have := congrArg (List.drop 1) h.tail
    simpa [List.drop_drop] using this
theorem kept_all {l : List It} {c : Int} (h : ∀ e, e ∈ l → c < e.s) : kept c l = l := by
  unfold kept
  rw [List.filter_eq_self]
  intro e he
  simpa using h e he
theorem Sift.start {l : List It} {c : Int} {k : Nat} (hk : k < l.length) (hno : ∀ e, e ∈ l.take k → c < e.s) (hc : l[k].s ≤ c) : Sift l l c k (k + 1) := by
  refine ⟨rfl, by omega, ?_, rfl⟩
  rw [take_snoc hk, kept_append, kept_all hno]
  simp [kept, hc]
theorem Sift.done {l L : List It} {c : Int} {i : Nat} (h : Sift l L c i l.length) : L.take i = kept c l := by
  have := h.head
  rwa [List.take_length] at this
theorem zero63 : ∀ w, (zeroValue 63).run Try.prog w = .ok (.agg #[.int .i64 0, .slice none 0 0]) w := (zero_of_info (by kernel_rfl : (Try.prog.info? 63).map (fun i => (i.zero, i.size)) = some (some (.agg #[.int .i64 0, .slice none 0 0]), 2))).1

/-- A packet's cells. -/
def pcells (c e b s k : Int) (v : Bool) (y : Value) : Array Value := #[.int .i64 c, .int .i64 e, .int .i64 b, .int .i64 s, .int .i64 k, .bool v, y]
theorem del1_c (s : Int) (a : Option Addr) (n m : Nat) (bp : Nat) (w : World) (cs : Array Value) (ack : Int) (hc : cs[4]? = some (.int .i64 ack)) (hb : w.heap[bp]? = some (.cells cs 24 (0, 0))) :
    Calls Try.prog 25 #[.agg #[.int .i64 s, .slice a n m], .pointer (some ⟨bp, 0, none⟩)] w (RetK noB (.bool (decide (s ≤ ack))) w) := by
  have hbA : (w.alloc (.cells #[.int .i64 s, .slice a n m] 63)).heap[bp]? = some (.cells cs 24 (0, 0)) := by rw [alloc_old _ _ _ (lt_of_blk hb)]; exact hb
  have h4 := blk_cell hbA hc
  go_enter Try.func25, Try.ntmps25
  go_wp2_with fail
  go_ret
  exact ⟨rfl, (Keeps.refl _ _).alloc _⟩

/-- What IndexFunc says. -/
def Hit (l : List It) (c : Int) (r : Int) : Prop := (r = -1 ∧ ∀ e, e ∈ l → c < e.s) ∨ ∃ k : Nat, r = k ∧ ∃ h : k < l.length, (∀ e, e ∈ l.take k → c < e.s) ∧ l[k].s ≤ c
theorem mem_take_one {α : Type} {l : List α} {k : Nat} (hk : k < l.length) {e : α} (h : e ∈ l.take (k + 1)) : e ∈ l.take k ∨ e = l[k] := by
  rw [take_snoc hk, List.mem_append, List.mem_singleton] at h
  exact h

set_option maxRecDepth 100000 in
set_option maxHeartbeats 4000000 in
theorem indexF_c (l : List It) (hl : l.length ≤ 1000000) (g c : Nat) (bp : Nat) (ack : Int) (cs : Array Value) (hcs : cs[4]? = some (.int .i64 ack)) (w : World) (he : ItB w g c l) (hb : w.heap[bp]? = some (.cells cs 24 (0, 0))) :
    Calls Try.prog 27 #[.slice (some ⟨g, 0, none⟩) l.length c, .func (.func 25) #[] #[.pointer (some ⟨bp, 0, none⟩)]] w fun e w' => ∃ r : Int, RetK noB (.int .i64 r) w e w' ∧ Hit l ack r := by
  have HL := Lib.hid hcs
  clear hcs
  go_enter Try.func27, Try.ntmps27
  go_wp2_with fail
  go_loopw [8] (fun i wr => ∃ k : Nat, k ≤ l.length ∧ i = .int .i64 k ∧ Keeps noB w wr ∧ ∀ e, e ∈ l.take k → ack < e.s)
    (fun i _ => l.length - (intOf i).toNat)
  case atStart => exact ⟨0, by omega, rfl, Keeps.refl _ _, by simp⟩
  case round =>
    obtain ⟨k, hk, rfl, hkp, hno⟩ := hrel
    by_cases hlt : k < l.length
    · have hbr := hkp.blk hb (noB_not _)
      obtain ⟨hc0, hc1⟩ := (he.keep hkp (noB_not _)).cell hlt
      obtain ⟨it, hit⟩ : ∃ it, it = l[k] := ⟨_, rfl⟩
      rw [← hit] at hc0 hc1
      have HI := Lib.hid hit
      clear hit
      have hd := del1_c it.s it.a it.l.length it.c bp wr cs ack HL.out hbr
      have HN := Lib.hid hno
      clear hno
      cases hu : decide (it.s ≤ ack)
      · rw [hu] at hd
        have HU := Lib.hid (of_decide_eq_false hu)
        clear hu
        go_wp2_with fail
        refine hd.mono ?_
        rintro e w1 ⟨rfl, hk1⟩
        go_wp2_with fail
        go_roundw
        case rel =>
          refine ⟨k + 1, by omega, by go_num, hkp.trans_no hk1, fun e h => ?_⟩
          rcases mem_take_one hlt h with h | h
          · exact HN.out e h
          · rw [h, ← HI.out]; have := HU.out; omega
        case measure => simp [intOf]; omega
      · rw [hu] at hd
        have HU := Lib.hid (of_decide_eq_true hu)
        clear hu
        go_wp2_with fail
        refine hd.mono ?_
        rintro e w1 ⟨rfl, hk1⟩
        go_wp2_with fail
        go_ret
        exact ⟨_, ⟨rfl, hkp.trans_no hk1⟩, .inr ⟨k, rfl, hlt, HN.out, by rw [← HI.out]; exact HU.out⟩⟩
    · have : k = l.length := by omega
      subst this
      rw [List.take_length] at hno
      go_wp2_with fail
      go_ret
      exact ⟨_, ⟨rfl, hkp⟩, .inl ⟨rfl, hno⟩⟩

set_option maxRecDepth 100000 in
set_option maxHeartbeats 4000000 in
theorem deleteF_c (l : List It) (hl : l.length ≤ 1000) (g cap : Nat) (hcm : cap ≤ maxLen) (bp : Nat) (hne : bp ≠ g) (ack : Int) (cs : Array Value) (hcs : cs[4]? = some (.int .i64 ack)) (w : World) (he : ItB w g cap l) (hb : w.heap[bp]? = some (.cells cs 24 (0, 0))) :
    Calls Try.prog 24 #[.slice (some ⟨g, 0, none⟩) l.length cap, .func (.func 25) #[] #[.pointer (some ⟨bp, 0, none⟩)]] w
      fun e w' => RetK (oneB g) (.slice (some ⟨g, 0, none⟩) (kept ack l).length cap) w e w' ∧ ItB w' g cap (kept ack l) := by
  unfold maxLen at hcm
  have hcap : l.length ≤ cap := by obtain ⟨_, _, _, h, _⟩ := he; exact h
  have hI := indexF_c l (by omega) g cap bp ack cs hcs w he hb
  have HL := Lib.hid hcs
  clear hcs
  go_enter Try.func24, Try.ntmps24
  go_wp2_with fail
  refine hI.mono ?_
  rintro e w1 ⟨r, ⟨rfl, hk1⟩, hH⟩
  rcases hH with ⟨rfl, hno⟩ | ⟨k, rfl, hkl, hno, hc⟩
  · have HN := Lib.hid hno
    clear hno
    go_wp2_with fail
    go_ret
    rw [kept_all HN.out]
    exact ⟨⟨rfl, hk1.of_no⟩, he.keep hk1 (noB_not _)⟩
  · have hS0 := Sift.start hkl hno hc
    have he1 := he.keep hk1 (noB_not _)
    have hb1 := hk1.blk hb (noB_not _)
    have hm1 : ((k : Int) == -1) = false := by simp
    have hkk1 : Keeps (oneB g) w w1 := hk1.of_no
    clear hno hc he hb hk1 hI
    go_wp2_with fail
    go_loopw [5, 6] (fun x y wr => ∃ (i j : Nat) (L : List It), x = .int .i64 i ∧ y = .int .i64 j ∧ i < j ∧ j ≤ l.length ∧ Keeps (oneB g) w wr ∧ ItB wr g cap L ∧ Sift l L ack i j ∧ wr.heap[bp]? = some (.cells cs 24 (0, 0)))
      (fun _ y _ => l.length - (intOf y).toNat)
    case atStart => refine ⟨k, k + 1, l, rfl, rfl, ?_, ?_, hkk1, he1, hS0, hb1⟩ <;> omega
    case round =>
      obtain ⟨i, j, L, rfl, rfl, hij, hjl, hkp, hE, hS, hbr⟩ := hrel
      have hLl := hS.len
      by_cases hlt : j < l.length
      · obtain ⟨hc0, hc1⟩ := hE.cell (k := j) (by omega)
        rw [hS.at hlt (by omega)] at hc0 hc1
        obtain ⟨it, hit⟩ : ∃ it, it = l[j] := ⟨_, rfl⟩
        rw [← hit] at hc0 hc1
        have HE := Lib.hid hit
        clear hit
        have hbA : (wr.alloc (.cells #[.int .i64 it.s, .slice it.a it.l.length it.c] 63)).heap[bp]? = some (.cells cs 24 (0, 0)) := by rw [alloc_old _ _ _ (lt_of_blk hbr)]; exact hbr
        have hC := del1_c it.s it.a it.l.length it.c bp _ cs ack HL.out hbA
        cases hu : decide (it.s ≤ ack)
        · rw [hu] at hC
          have HU := Lib.hid (of_decide_eq_false hu)
          clear hu
          go_wp2_with fail
          refine hC.mono ?_
          rintro e w2 ⟨rfl, hk2⟩
          have hkA : Keeps noB wr w2 := ((Keeps.refl noB wr).alloc _).trans_no hk2
          have hE2 := hE.keep hkA (noB_not _)
          have hb2 := hkA.blk hbr (noB_not _)
          have hn2 : w2.heap[wr.heap.size]? = some (.cells #[.int .i64 it.s, .slice it.a it.l.length it.c] 63 (0, 0)) := hk2.blk (heap_alloc_new _ _) (noB_not _)
          have n0 := blk_cell hn2 (i := 0) rfl
          have n1 := blk_cell hn2 (i := 1) rfl
          obtain ⟨hd0, hd1⟩ := hE2.cell (k := i) (by omega)
          have hf0 := hE2.free (i * 2)
          have hf1 := hE2.free (i * 2 + 1)
          have HN := Lib.hid hn2
          clear hn2
          go_wp2_with fail
          refine ⟨⟨i + 1, j + 1, L.set i it, by go_num, by go_num, by omega, by omega, ((hkp.trans_no hkA).set1 _ _).set1 _ _, hE2.set (by omega) it, ?_, ?_⟩, by simp [intOf]; omega⟩
          · have := hS.keep hlt hij (by rw [← HE.out]; have := HU.out; omega)
            rwa [← HE.out] at this
          · rw [heap_setCell_ne _ _ _ _ hne, heap_setCell_ne _ _ _ _ hne]; exact hb2
        · rw [hu] at hC
          have HU := Lib.hid (of_decide_eq_true hu)
          clear hu
          go_wp2_with fail
          refine hC.mono ?_
          rintro e w2 ⟨rfl, hk2⟩
          have hkA : Keeps noB wr w2 := ((Keeps.refl noB wr).alloc _).trans_no hk2
          go_wp2_with fail
          go_roundw
          case rel => exact ⟨i, j + 1, L, rfl, by go_num, by omega, by omega, hkp.trans_no hkA, hE.keep hkA (noB_not _), hS.skip hlt (by rw [← HE.out]; exact HU.out), hkA.blk hbr (noB_not _)⟩
          case measure => simp [intOf]; omega
      · have : j = l.length := by omega
        subst this
        obtain ⟨cs', hcs, hcsz, hLc, _⟩ := id hE
        have hfin := hS.done
        have HF := Lib.hid hfin
        have hle : (kept ack l).length = i := by rw [← hfin, List.length_take]; omega
        have HL2 := Lib.hid hle
        clear hfin hle
        obtain ⟨vs, hclr⟩ := run_clear2 (P := Try.prog) wr 58 63 0 (.int .i64 0) (.slice none 0 0) Try.underlying58 zero63 rfl rfl g (i * 2) (l.length - i) (cap - i) hcs (by omega)
        have hkv := setCells_keeps g vs (i * 2) wr
        have hEv := hE.clear l.length i (by omega) (by omega) (vs := vs) rfl
        generalize wr.setCells g (i * 2) vs = wv at *
        clear hcs hcsz
        go_wp2_with fail
        go_ret
        rw [HL2.out]
        rw [HF.out] at hEv
        exact ⟨⟨rfl, hkp.trans hkv (fun _ _ h => h)⟩, hEv⟩
end Go.Proofs.Ytoeikgaikdbpbaa
