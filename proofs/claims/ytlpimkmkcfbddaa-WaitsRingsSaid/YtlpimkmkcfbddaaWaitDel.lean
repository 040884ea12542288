/- Walks of waits: DeleteFunc, Without. No condition. -/
import Derived.Test.YtlpimkmkcfbddaaWaitWo
namespace Go.Proofs.Ytlpimkmkcfbddaa
open Go.RowKit

theorem EdB.clear {w w' : World} {g : Nat} {l : List (Int × Int)} (h : EdB w g l) (n i : Nat) (hi : i ≤ n) (hn : n ≤ l.length) {vs : List Value} (hw : w' = w.setCells g (i * 2) vs) : EdB w' g (l.take i) := by
  obtain ⟨cs, hb, h1, h2⟩ := h
  obtain ⟨cs', g1, g2, g3⟩ := setCells_blk g 61 (0, 0) vs (i * 2) w cs hb
  subst hw
  refine ⟨cs', g1, by rw [List.length_take]; omega, fun k hk => ?_⟩
  rw [List.length_take] at hk
  obtain ⟨h3, h4⟩ := h2 k (by omega)
  rw [List.getElem_take, g3 _ (by omega), g3 _ (by omega)]
  exact ⟨h3, h4⟩

/-- How far a sifting has come: the first i of L are what is kept of the first j of l; behind j all is as it was. -/
structure Sift (l L : List (Int × Int)) (c : Int) (i j : Nat) : Prop where
  len : L.length = l.length
  ij : i ≤ j
  head : L.take i = without (l.take j) c
  tail : L.drop j = l.drop j

theorem without_append (l m : List (Int × Int)) (c : Int) : without (l ++ m) c = without l c ++ without m c := by simp [without]
theorem take_snoc {α : Type} {l : List α} {k : Nat} (hk : k < l.length) : l.take (k + 1) = l.take k ++ [l[k]] := by simp
theorem Sift.at {l L : List (Int × Int)} {c : Int} {i j : Nat} (h : Sift l L c i j) (hj : j < l.length) (hj' : j < L.length) : L[j] = l[j] := by
  have := congrArg (·[0]?) h.tail
  simp [hj, hj'] at this
  exact this
theorem Sift.skip {l L : List (Int × Int)} {c : Int} {i j : Nat} (h : Sift l L c i j) (hj : j < l.length) (hc : l[j].1 = c) : Sift l L c i (j + 1) := by
  refine ⟨h.len, by have := h.ij; omega, ?_, ?_⟩
  · rw [take_snoc hj, without_append, ← h.head]
    simp [without, hc]
  · have := congrArg (List.drop 1) h.tail
    simpa [List.drop_drop] using this
theorem Sift.keep {l L : List (Int × Int)} {c : Int} {i j : Nat} (h : Sift l L c i j) (hj : j < l.length) (hij : i < j) (hc : l[j].1 ≠ c) : Sift l (L.set i l[j]) c (i + 1) (j + 1) := by
  have hl := h.len
  refine ⟨by simpa using hl, by omega, ?_, ?_⟩
  · have h1 : (L.set i l[j]).take (i + 1) = L.take i ++ [l[j]] := by
      rw [take_snoc (by rw [List.length_set]; omega)]
      congr 1
      · apply List.ext_getElem?
        intro k
        simp only [List.getElem?_take, List.getElem?_set]
        by_cases e : k < i
        · rw [if_pos e, if_pos e, if_neg (by omega)]
        · rw [if_neg e, if_neg e]
      · simp
    rw [h1, take_snoc hj, without_append, h.head]
    simp [without, hc]
  · have h1 : (L.set i l[j]).drop (j + 1) = L.drop (j + 1) := by
      apply List.ext_getElem?
      intro k
      simp only [List.getElem?_drop, List.getElem?_set]
      rw [if_neg (by omega)]
    rw [h1]
    have := congrArg (List.drop 1) h.tail
    simpa [List.drop_drop] using this
theorem Sift.start {l : List (Int × Int)} {c : Int} {k : Nat} (hk : k < l.length) (hno : ∀ e, e ∈ l.take k → e.1 ≠ c) (hc : l[k].1 = c) : Sift l l c k (k + 1) := by
  refine ⟨rfl, by omega, ?_, rfl⟩
  rw [take_snoc hk, without_append]
  have h1 : without (l.take k) c = l.take k := by
    unfold without
    rw [List.filter_eq_self]
    intro e he
    simp [hno e he]
  rw [h1]
  simp [without, hc]
theorem without_none {l : List (Int × Int)} {c : Int} (h : ∀ e, e ∈ l → e.1 ≠ c) : without l c = l := by
  unfold without
  rw [List.filter_eq_self]
  intro e he
  simp [h e he]
theorem Sift.done {l L : List (Int × Int)} {c : Int} {i : Nat} (h : Sift l L c i l.length) : L.take i = without l c := by
  have := h.head
  rwa [List.take_length] at this

theorem zero61 : ∀ w, (zeroValue 61).run Try.prog w = .ok (.agg #[.int .i64 0, .int .i64 0]) w := (zero_of_info (by kernel_rfl : (Try.prog.info? 61).map (fun i => (i.zero, i.size)) = some (some (.agg #[.int .i64 0, .int .i64 0]), 2))).1

set_option maxRecDepth 100000 in
set_option maxHeartbeats 4000000 in
theorem deleteF_c (l : List (Int × Int)) (hl : l.length ≤ 1000) (g cap : Nat) (hcap : l.length ≤ cap) (hcm : cap ≤ maxLen) (c : Int) (bc : Nat) (hne : bc ≠ g) (w : World) (he : EdB w g l) (hb : w.heap[bc]? = some (.cells #[.int .i64 c] 3 (0, 0))) :
    Calls Try.prog 86 #[.slice (some ⟨g, 0, none⟩) l.length cap, .func (.func 88) #[] #[.pointer (some ⟨bc, 0, none⟩)]] w
      fun e w' => RetK (oneB g) (.slice (some ⟨g, 0, none⟩) (without l c).length cap) w e w' ∧ EdB w' g (without l c) := by
  unfold maxLen at hcm
  have hI := indexF_c l (by omega) (some ⟨g, 0, none⟩) cap c bc w (he.edr he.lt) hb
  go_enter Try.func86, Try.ntmps86
  go_wp2_with fail
  refine hI.mono ?_
  rintro e w1 ⟨r, ⟨rfl, hk1⟩, hH⟩
  rcases hH with ⟨rfl, hno⟩ | ⟨k, rfl, hkl, hno, hc⟩
  · go_wp2_with fail
    go_ret
    rw [without_none hno]
    exact ⟨⟨rfl, hk1.of_no⟩, he.keep hk1 (noB_not _)⟩
  · have hS0 := Sift.start hkl hno (hc hkl)
    have he1 := he.keep hk1 (noB_not _)
    have hb1 := hk1.blk hb (noB_not _)
    have hm1 : ((k : Int) == -1) = false := by simp
    have hkk1 : Keeps (oneB g) w w1 := hk1.of_no
    clear hno hc he hb hk1 hI
    go_wp2_with fail
    go_loopw [5, 6] (fun x y wr => ∃ (i j : Nat) (L : List (Int × Int)), x = .int .i64 i ∧ y = .int .i64 j ∧ i < j ∧ j ≤ l.length ∧ Keeps (oneB g) w wr ∧ EdB wr g L ∧ Sift l L c i j ∧ wr.heap[bc]? = some (.cells #[.int .i64 c] 3 (0, 0)))
      (fun _ y _ => l.length - (intOf y).toNat)
    case atStart => refine ⟨k, k + 1, l, rfl, rfl, ?_, ?_, hkk1, he1, hS0, hb1⟩ <;> omega
    case round =>
      obtain ⟨i, j, L, rfl, rfl, hij, hjl, hkp, hE, hS, hbr⟩ := hrel
      have hLl := hS.len
      by_cases hlt : j < l.length
      · obtain ⟨_, _, hA, _, hgs, hc0, hc1⟩ := (hE.edr hE.lt) j (by omega)
        simp at hA
        obtain ⟨rfl, rfl⟩ := hA
        rw [hS.at hlt (by omega)] at hc0 hc1
        obtain ⟨u, v, hEd⟩ : ∃ u v, l[j] = (u, v) := ⟨_, _, rfl⟩
        rw [hEd] at hc0 hc1
        simp only [Nat.zero_add] at hc0 hc1
        have HE := Lib.hid hEd
        clear hEd
        have hbA : (wr.alloc (.cells #[.int .i64 u, .int .i64 v] 61)).heap[bc]? = some (.cells #[.int .i64 c] 3 (0, 0)) := by rw [alloc_old _ _ _ (lt_of_blk hbr)]; exact hbr
        have hC := without1_c u v c bc _ hbA
        by_cases hu : u = c
        · have hub : (u == c) = true := by simp [hu]
          rw [hub] at hC
          have HU := Lib.hid hu
          clear hu
          go_wp2_with fail
          refine hC.mono ?_
          rintro e w2 ⟨rfl, hk2⟩
          have hkA : Keeps noB wr w2 := ((Keeps.refl noB wr).alloc _).trans_no hk2
          go_wp2_with fail
          go_roundw
          case rel => exact ⟨i, j + 1, L, rfl, by go_num, by omega, by omega, hkp.trans_no hkA, hE.keep hkA (noB_not _), hS.skip hlt (by rw [HE.out]; exact HU.out), hkA.blk hbr (noB_not _)⟩
          case measure => simp [intOf]; omega
        · have hub : (u == c) = false := by simp [hu]
          rw [hub] at hC
          have HU := Lib.hid hu
          clear hu
          go_wp2_with fail
          refine hC.mono ?_
          rintro e w2 ⟨rfl, hk2⟩
          have hkA : Keeps noB wr w2 := ((Keeps.refl noB wr).alloc _).trans_no hk2
          have hE2 := hE.keep hkA (noB_not _)
          have hb2 := hkA.blk hbr (noB_not _)
          have hn2 : w2.heap[wr.heap.size]? = some (.cells #[.int .i64 u, .int .i64 v] 61 (0, 0)) := hk2.blk (heap_alloc_new _ _) (noB_not _)
          have n0 := blk_cell hn2 (i := 0) rfl
          have n1 := blk_cell hn2 (i := 1) rfl
          obtain ⟨_, _, hA2, _, _, hd0, hd1⟩ := (hE2.edr hE2.lt) i (by omega)
          simp at hA2
          obtain ⟨rfl, rfl⟩ := hA2
          simp only [Nat.zero_add] at hd0 hd1
          have hf0 := hE2.free (i * 2)
          have hf1 := hE2.free (i * 2 + 1)
          have HN := Lib.hid hn2
          clear hn2
          go_wp2_with fail
          refine ⟨⟨i + 1, j + 1, L.set i (u, v), by go_num, by go_num, by omega, by omega, ((hkp.trans_no hkA).set1 _ _).set1 _ _, hE2.set (by omega) u v, ?_, ?_⟩, by simp [intOf]; omega⟩
          · have := hS.keep hlt hij (by rw [HE.out]; exact HU.out)
            rwa [HE.out] at this
          · rw [heap_setCell_ne _ _ _ _ hne, heap_setCell_ne _ _ _ _ hne]; exact hb2
      · have : j = l.length := by omega
        subst this
        obtain ⟨cs, hcs, hcsz, _⟩ := id hE
        have hfin := hS.done
        have HF := Lib.hid hfin
        have hle : (without l c).length = i := by rw [← hfin, List.length_take]; omega
        have HL := Lib.hid hle
        clear hfin hle
        obtain ⟨vs, hclr⟩ := run_clear2 (P := Try.prog) wr 62 61 0 (.int .i64 0) (.int .i64 0) Try.underlying62 zero61 rfl rfl g (i * 2) (l.length - i) (cap - i) hcs (by omega)
        have hkv := setCells_keeps g vs (i * 2) wr
        have hEv := hE.clear l.length i (by omega) (by omega) (vs := vs) rfl
        generalize wr.setCells g (i * 2) vs = wv at *
        clear hcs hcsz
        go_wp2_with fail
        go_ret
        rw [HL.out]
        rw [HF.out] at hEv
        exact ⟨⟨rfl, hkp.trans hkv (fun _ _ h => h)⟩, hEv⟩

theorem delete0_c (cap : Nat) (c : Int) (bc : Nat) (w : World) (hb : w.heap[bc]? = some (.cells #[.int .i64 c] 3 (0, 0))) :
    Calls Try.prog 86 #[.slice none 0 cap, .func (.func 88) #[] #[.pointer (some ⟨bc, 0, none⟩)]] w (RetK noB (.slice none 0 cap) w) := by
  have hI := indexF_c [] (by simp) none cap c bc w (fun k hk => absurd hk (by simp)) hb
  simp only [List.length_nil] at hI
  go_enter Try.func86, Try.ntmps86
  go_wp2_with fail
  refine hI.mono ?_
  rintro e w1 ⟨r, ⟨rfl, hk1⟩, hH⟩
  have : r = -1 := by
    rcases hH with ⟨h, _⟩ | ⟨k, _, h, _⟩
    · exact h
    · simp at h
  subst this
  go_wp2_with fail
  go_ret
  exact ⟨rfl, hk1⟩

set_option maxRecDepth 100000 in
set_option maxHeartbeats 4000000 in
theorem without_c (l : List (Int × Int)) (hl : l.length ≤ 1000) (a : Option Addr) (cap : Nat) (c : Int) (w : World) (he : EdR w w.heap.size a l) :
    Calls Try.prog 43 #[.slice a l.length cap, .int .i64 c] w fun e w' => ∃ a' c', RetK noB (.slice a' (without l c).length c') w e w' ∧ EdR w' w'.heap.size a' (without l c) := by
  have hbx : (w.alloc (.cells #[.int .i64 c] 3)).heap[w.heap.size]? = some (.cells #[.int .i64 c] 3 (0, 0)) := heap_alloc_new _ _
  have heA : EdR (w.alloc (.cells #[.int .i64 c] 3)) (w.alloc (.cells #[.int .i64 c] 3)).heap.size a l := fun k hk => by
    obtain ⟨b, off, h1, h2, h3, h4, h5⟩ := he.keep ((Keeps.refl noB w).alloc (.cells #[.int .i64 c] 3)) (fun b _ => noB_not b) k hk
    exact ⟨b, off, h1, h3, h3, h4, h5⟩
  have hC := clone_c l hl a cap _ heA
  have hsz : (w.alloc (.cells #[.int .i64 c] 3)).heap.size = w.heap.size + 1 := alloc_size _ _
  go_enter Try.func43, Try.ntmps43
  go_wp2_with fail
  refine hC.mono ?_
  rintro e w1 ⟨a', c', ⟨rfl, hk1⟩, hE⟩
  have hb1 := hk1.blk hbx (noB_not _)
  have hkw : Keeps noB w w1 := ((Keeps.refl noB w).alloc _).trans_no hk1
  clear hC heA hbx he
  rcases hE with ⟨rfl, rfl⟩ | ⟨g, rfl, hg, hc1, hc2, hE⟩
  · go_wp2_with fail
    refine (delete0_c c' c w.heap.size w1 hb1).mono ?_
    rintro e w2 ⟨rfl, hk2⟩
    go_wp2_with fail
    go_ret
    exact ⟨none, c', ⟨rfl, hkw.trans_no hk2⟩, fun k hk => absurd hk (by simp [without])⟩
  · have hne : w.heap.size ≠ g := by omega
    have hD := deleteF_c l hl g c' hc1 hc2 c w.heap.size hne w1 hE hb1
    go_wp2_with fail
    refine hD.mono ?_
    rintro e w2 ⟨⟨rfl, hk2⟩, hE2⟩
    clear hD
    go_wp2_with fail
    go_ret
    exact ⟨_, c', ⟨rfl, hkw.trans hk2 (fun b hb h => by unfold oneB at h; omega)⟩, hE2.edr hE2.lt⟩
end Go.Proofs.Ytlpimkmkcfbddaa
