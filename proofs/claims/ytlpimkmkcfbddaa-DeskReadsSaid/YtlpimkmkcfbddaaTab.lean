/- What the functions of package table do to the table in memory. No condition. -/
import Derived.Test.YtlpimkmkcfbddaaTabPure
namespace Go.Proofs.Ytlpimkmkcfbddaa
open Go.RowKit

theorem there_c (c p : Int) (w : World) : Calls Try.prog 77 #[.int .i64 c, .int .i64 p] w (Ret (.bool (inT c p)) w) := by
  go_enter Try.func77, Try.ntmps77
  go_wp2
  all_goals go_ret
  all_goals exact ret_b (by unfold inT; grind)

theorem masks_c (c p : Int) (w : World) : Calls Try.prog 78 #[.int .i64 c, .int .i64 p] w (Ret (.bool (okM c p)) w) := by
  go_enter Try.func78, Try.ntmps78
  go_wp2
  all_goals go_ret
  all_goals exact ret_b (by unfold okM; grind)

theorem inT_open {c p : Int} (h : inT c p = true) : ∃ a b : Nat, c = a ∧ p = b ∧ a < 4 ∧ b < 6 := by
  unfold inT at h
  simp at h
  obtain ⟨h1, h2, h3, h4⟩ := h
  exact ⟨c.toNat, p.toNat, by omega, by omega, by omega, by omega⟩
theorem inT_nat {a b : Nat} (ha : a < 4) (hb : b < 6) : inT (a : Int) (b : Int) = true := by unfold inT; simp; omega
theorem okM_open {m o : Int} (h : okM m o = true) : m = mv (mk4 m) ∧ o = mv (mk4 o) := by
  unfold okM at h
  simp at h
  exact ⟨(mv_mk4 (by omega) (by omega)).symm, (mv_mk4 (by omega) (by omega)).symm⟩
theorem okM_mv (x y : BitVec 4) : okM (mv x) (mv y) = true := by
  unfold okM; have := mv_lt x; have := mv_lt y; simp; omega

theorem copies_c (c p : Int) (b : Nat) (T : TB) (w : World) (ht : TabAt w b T) : Calls Try.prog 26 #[.pointer (some ⟨b, 0, none⟩), .int .i64 c, .int .i64 p] w (Ret (.int .i64 (mv (T.copies c p))) w) := by
  cases h : inT c p
  · have hr : T.copies c p = 0#4 := by unfold TB.copies; rw [h]; rfl
    have HR := Lib.hid hr
    clear hr
    go_enter Try.func26, Try.ntmps26
    go_wp2_with (go_at_call 77; refine (there_c _ _ _).mono ?_; rintro e w' ⟨rfl, rfl⟩; try rw [h])
    go_ret
    exact ret_i (by rw [HR.out]; rfl)
  · obtain ⟨a, q, rfl, rfl, ha, hq⟩ := inT_open h
    have hc := ht.coCell ha hq
    have hr : T.copies a q = T.co a q := by unfold TB.copies; rw [h]; rfl
    have HR := Lib.hid hr
    clear hr
    go_enter Try.func26, Try.ntmps26
    go_wp2_with (go_at_call 77; refine (there_c _ _ _).mono ?_; rintro e w' ⟨rfl, rfl⟩; try rw [h])
    go_ret
    exact ret_i (by rw [HR.out])

theorem own_c (c p : Int) (b : Nat) (T : TB) (w : World) (ht : TabAt w b T) : Calls Try.prog 25 #[.pointer (some ⟨b, 0, none⟩), .int .i64 c, .int .i64 p] w (Ret (.int .i64 (mv (T.owns c p))) w) := by
  cases h : inT c p
  · have hr : T.owns c p = 0#4 := by unfold TB.owns; rw [h]; rfl
    have HR := Lib.hid hr
    clear hr
    go_enter Try.func25, Try.ntmps25
    go_wp2_with (go_at_call 77; refine (there_c _ _ _).mono ?_; rintro e w' ⟨rfl, rfl⟩; try rw [h])
    go_ret
    exact ret_i (by rw [HR.out]; rfl)
  · obtain ⟨a, q, rfl, rfl, ha, hq⟩ := inT_open h
    have hc := ht.owCell ha hq
    have hr : T.owns a q = T.ow a q := by unfold TB.owns; rw [h]; rfl
    have HR := Lib.hid hr
    clear hr
    go_enter Try.func25, Try.ntmps25
    go_wp2_with (go_at_call 77; refine (there_c _ _ _).mono ?_; rintro e w' ⟨rfl, rfl⟩; try rw [h])
    go_ret
    exact ret_i (by rw [HR.out])

theorem index121 (T : TB) (k : Nat) (h : k < 4) (w : World) : (Instr.index 121 (.agg (tcells T)) (.int .i64 k)).run Try.prog w = .ok (.agg (trow T k)) w := by
  have hz : Try.t120.size = 12 := rfl
  simp [Instr.index, Sem.run_bind, asIntOf, run_underlying Try.underlying121, part, isAgg, run_underlying Try.underlying120, sizeOf, go_sem, hz, h, tcells_extract]

@[reducible] def z12 : Array Value := #[.int .i64 0, .int .i64 0, .int .i64 0, .int .i64 0, .int .i64 0, .int .i64 0, .int .i64 0, .int .i64 0, .int .i64 0, .int .i64 0, .int .i64 0, .int .i64 0]

theorem info120 : (Try.prog.info? 120).map (·.size) = some z12.size := by kernel_rfl
theorem z12_one : z12.all (·.oneCell') = true := by kernel_rfl
theorem store_row (wr : World) (T : TB) (k : Nat) : (storeCells ⟨wr.heap.size, 0, none⟩ (trow T k).toList 0).run Try.prog (wr.alloc (.cells z12 120)) = .ok () (wr.alloc (.cells (trow T k) 120)) :=
  run_storeCells_new (P := Try.prog) wr 120 z12 (trow T k) (by rw [trow_size]; kernel_rfl) (by rw [trow_size]; rfl) (trow_one T k)

theorem two_set_alloc {wr : World} {A : Nat} {x y : Value} {t : TypeId} (h : wr.heap[A]? = some (.cells #[x, y] t (0, 0))) (u v : Value) (o : Obj) (hA : A < wr.heap.size) :
    ((((wr.setCell ⟨A, 0, none⟩ u).setCell ⟨A, 1, none⟩ v).alloc o).drew.drew).heap[A]? = some (.cells #[u, v] t (0, 0)) := by
  show (((wr.setCell ⟨A, 0, none⟩ u).setCell ⟨A, 1, none⟩ v).alloc o).heap[A]? = _
  rw [alloc_old _ _ _ (by rw [setCell_size, setCell_size]; exact hA), heap_setCell_same _ _ _ _ (heap_setCell_same _ _ _ _ h)]
  rfl

theorem two_set {wr : World} {A : Nat} {x y : Value} {t : TypeId} (h : wr.heap[A]? = some (.cells #[x, y] t (0, 0))) (u v : Value) :
    ((wr.setCell ⟨A, 0, none⟩ u).setCell ⟨A, 1, none⟩ v).heap[A]? = some (.cells #[u, v] t (0, 0)) := by
  rw [heap_setCell_same _ _ _ _ (heap_setCell_same _ _ _ _ h)]
  rfl

set_option maxRecDepth 100000 in
set_option maxHeartbeats 1000000 in
theorem others_c (c p : Nat) (hp : p < 6) (b : Nat) (T : TB) (w : World) (ht : TabAt w b T) : Calls Try.prog 79 #[.pointer (some ⟨b, 0, none⟩), .int .i64 (c : Int), .int .i64 (p : Int)] w
    (RetK noB (.agg #[.int .i64 (mv (T.oC c p)), .int .i64 (mv (T.oO c p))]) w) := by
  have hlt : b < w.heap.size := lt_of_blk ht
  have hb : (w.alloc (.cells #[.int .i64 0, .int .i64 0] 119)).heap[b]? = some (.cells (tcells T) 123 (0,0)) := by rw [alloc_old w _ b hlt]; exact ht
  go_enter Try.func79, Try.ntmps79
  go_wp2_with (with_reducible refine wpList_load_row rfl 121 _ rfl b rfl 123 _ (0,0) _ hb Try.underlying121 rfl (by rw [tcells_size]; kernel_rfl) ?_)
  go_loopw [13] (fun i wr => ∃ k : Nat, k ≤ 4 ∧ i = .int .i64 k ∧ Keeps noB w wr ∧ wr.heap[w.heap.size]? = some (.cells #[.int .i64 (mv (oth T.co c p k)), .int .i64 (mv (oth T.ow c p k))] 119 (0,0)))
    (fun i _ => 4 - (intOf i).toNat)
  case atStart => exact ⟨0, by omega, rfl, (Keeps.refl _ _).alloc _, heap_alloc_new _ _⟩
  case round =>
    obtain ⟨k, hk, rfl, hkp, hA⟩ := hrel
    have hsz := lt_of_blk hA
    by_cases hlt4 : k < 4
    · have hix := index121 T k hlt4
      have hx := blk_cell hA (i := 0) rfl
      have hy := blk_cell hA (i := 1) rfl
      have hfx := blk_free hA 0
      have hfy := blk_free hA 1
      have HA := Lib.hid hA
      clear hA
      have hts := trow_size T k
      have hp0 := trow_co T k p hp
      have hp1 := trow_ow T k p hp
      have hst := store_row wr T k
      unfold z12 at hst
      by_cases hkc : k = c
      · subst hkc
        have hb0 : ((k : Int) != (k : Int)) = false := by simp
        have h1 : oth T.co k p (k + 1) = oth T.co k p k := by simp [oth]
        have h2 : oth T.ow k p (k + 1) = oth T.ow k p k := by simp [oth]
        have H1 := Lib.hid h1
        have H2 := Lib.hid h2
        clear h1 h2
        go_wp2_with fail
        go_roundw
        case rel => exact ⟨k + 1, by omega, by go_num, hkp.alloc _, by rw [alloc_old _ _ _ hsz, HA.out, H1.out, H2.out]⟩
        case measure => simp [intOf]; omega
      · have hb0 : ((k : Int) != (c : Int)) = true := by simp; omega
        have h1 : oth T.co c p (k + 1) = oth T.co c p k ||| T.co k p := by simp [oth, hkc]
        have h2 : oth T.ow c p (k + 1) = oth T.ow c p k ||| T.ow k p := by simp [oth, hkc]
        have H1 := Lib.hid h1
        have H2 := Lib.hid h2
        clear h1 h2
        go_wp2_with fail
        go_region
        all_goals go_wp2_with fail
        all_goals go_region
        all_goals go_wp2_with fail
        all_goals go_roundw
        case rel => 
          refine ⟨k + 1, by omega, by go_num, ?_, ?_⟩
          · repeat (first | exact hkp | refine Keeps.drew ?_ | refine Keeps.alloc ?_ _ | refine Keeps.setCell ?_ _ _ (.inr (Nat.le_refl _)))
          · rw [H1.out, H2.out]
            exact two_set_alloc HA.out _ _ _ hsz
        case measure => simp [intOf]; omega
    · have hk4 : k = 4 := by omega
      subst hk4
      have hx := blk_cell hA (i := 0) rfl
      have hy := blk_cell hA (i := 1) rfl
      have hfx := blk_free hA 0
      have hfy := blk_free hA 1
      have HA := Lib.hid hA
      clear hA
      go_wp2_with fail
      refine bodyPost_ret (results_cell_row (fn := Try.f79) Try.results79 _ _ w.heap.size 119 _ (0, 0) _ rfl (two_set HA.out _ _) Try.underlying119 rfl (by kernel_rfl)) rfl ⟨rfl, ?_⟩
      exact (hkp.setCell _ _ (.inr (Nat.le_refl _))).setCell _ _ (.inr (Nat.le_refl _))

theorem drop_c (c p m o : Int) (b : Nat) (T : TB) (w : World) (ht : TabAt w b T) : Calls Try.prog 23 #[.pointer (some ⟨b, 0, none⟩), .int .i64 c, .int .i64 p, .int .i64 m, .int .i64 o] w
    fun e w' => RetK (oneB b) (.tuple #[]) w e w' ∧ TabAt w' b (T.drop c p m o) := by
  cases h : inT c p
  · have hr : T.drop c p m o = T := by unfold TB.drop; rw [h]; rfl
    rw [hr]; clear hr
    go_enter Try.func23, Try.ntmps23
    go_wp2_with (first | (go_at_call 77; refine (there_c _ _ _).mono ?_; rintro e w' ⟨rfl, rfl⟩; try rw [h]) | (go_at_call 78; refine (masks_c _ _ _).mono ?_; rintro e w' ⟨rfl, rfl⟩))
    refine bodyPost_ret (results_none rfl _ _ _) rfl ?_
    exact ⟨⟨rfl, Keeps.refl _ _⟩, ht⟩
  · cases h2 : okM m o
    · have hr : T.drop c p m o = T := by unfold TB.drop; rw [h, h2]; rfl
      rw [hr]; clear hr
      go_enter Try.func23, Try.ntmps23
      go_wp2_with (first | (go_at_call 77; refine (there_c _ _ _).mono ?_; rintro e w' ⟨rfl, rfl⟩; try rw [h]) | (go_at_call 78; refine (masks_c _ _ _).mono ?_; rintro e w' ⟨rfl, rfl⟩; try rw [h2]))
      refine bodyPost_ret (results_none rfl _ _ _) rfl ?_
      exact ⟨⟨rfl, Keeps.refl _ _⟩, ht⟩
    · obtain ⟨a, q, rfl, rfl, ha, hq⟩ := inT_open h
      have hr : T.drop a q m o = T.drop' a q (mk4 m) (mk4 o) := by unfold TB.drop; rw [h, h2]; rfl
      rw [hr]; clear hr
      obtain ⟨hm, ho⟩ := okM_open h2
      generalize mk4 m = m' at *
      generalize mk4 o = o' at *
      subst hm ho
      have hc1 := ht.coCell ha hq
      have hc2 := ht.owCell ha hq
      have hf1 := ht.free (a * 12 + q * 2)
      have hf2 := ht.free (a * 12 + q * 2 + 1)
      go_enter Try.func23, Try.ntmps23
      go_wp2_with (first | (go_at_call 77; refine (there_c _ _ _).mono ?_; rintro e w' ⟨rfl, rfl⟩; try rw [h]) | (go_at_call 78; refine (masks_c _ _ _).mono ?_; rintro e w' ⟨rfl, rfl⟩; try rw [h2]))
      go_end0
      exact ⟨⟨rfl, ((Keeps.refl _ _).set1 _ _).set1 _ _⟩, (ht.setC ha hq _).setO ha hq _⟩

theorem new_c (w : World) : Calls Try.prog 21 #[] w fun e w' => e = .returned (.pointer (some ⟨w.heap.size, 0, none⟩)) ∧ Keeps noB w w' ∧ TabAt w' w.heap.size TB.zero := by
  go_enter Try.func21, Try.ntmps21
  go_wp2_with fail
  go_ret
  exact ⟨rfl, (Keeps.refl _ _).alloc _, (heap_alloc_new w _).trans (by kernel_rfl)⟩

/-- Many cells of an array written. -/
def setAll (cs : Array Value) : Nat → List Value → Array Value
  | _, [] => cs
  | o, v :: r => setAll (cs.setIfInBounds o v) (o + 1) r
theorem setAll_size (vs : List Value) : ∀ (cs : Array Value) (o : Nat), (setAll cs o vs).size = cs.size := by
  induction vs with
  | nil => intro cs o; rfl
  | cons v r ih => intro cs o; rw [setAll, ih]; simp
theorem setAll_get (vs : List Value) : ∀ (cs : Array Value) (o j : Nat), (setAll cs o vs)[j]? = if o ≤ j ∧ j < o + vs.length ∧ j < cs.size then vs[j - o]? else cs[j]? := by
  induction vs with
  | nil => intro cs o j; rw [setAll, if_neg (by simp; omega)]
  | cons v r ih =>
    intro cs o j
    rw [setAll, ih]
    simp only [Array.size_setIfInBounds, List.length_cons]
    by_cases h : o + 1 ≤ j ∧ j < o + 1 + r.length ∧ j < cs.size
    · rw [if_pos h, if_pos (by omega), show j - o = (j - (o + 1)) + 1 by omega, List.getElem?_cons_succ]
    · rw [if_neg h, Array.getElem?_setIfInBounds]
      by_cases e : o = j
      · subst e
        rw [if_pos rfl]
        by_cases hs : o < cs.size
        · rw [if_pos hs, if_pos (by omega), Nat.sub_self]; rfl
        · rw [if_neg hs, if_neg (by omega), Array.getElem?_eq_none (by omega)]
      · rw [if_neg e, if_neg (by omega)]
theorem heap_setCells_same (b : Nat) (t : TypeId) (fr : Nat × Nat) (vs : List Value) : ∀ (o : Nat) (cs : Array Value) (w : World), w.heap[b]? = some (.cells cs t fr) → (w.setCells b o vs).heap[b]? = some (.cells (setAll cs o vs) t fr) := by
  induction vs with
  | nil => intro o cs w h; exact h
  | cons v r ih => intro o cs w h; rw [World.setCells, setAll]; exact ih _ _ _ (heap_setCell_same w b o v h)
theorem Keeps.setCells1 {b : Nat} {w : World} (vs : List Value) : ∀ {w1 : World} (o : Nat), Keeps (oneB b) w w1 → Keeps (oneB b) w (w1.setCells b o vs) := by
  induction vs with
  | nil => intro w1 o h; exact h
  | cons v r ih => intro w1 o h; rw [World.setCells]; exact ih _ (h.set1 _ _)
theorem TabAt.clear {w : World} {b : Nat} {T : TB} (h : TabAt w b T) (a : Nat) : TabAt (w.setCells b (a * 12) z12.toList) b (T.clear a) := by
  unfold TabAt
  rw [heap_setCells_same b _ _ _ _ _ _ h]
  refine congrArg (fun c => some (Obj.cells c 123 (0, 0))) (Array.ext_getElem? fun j => ?_)
  rw [setAll_get, tcells_size]
  have hl : z12.toList.length = 12 := rfl
  rw [hl]
  by_cases hj : j < 48
  · rw [tcells_at _ j hj, tcells_at _ j hj]
    unfold tv TB.clear
    by_cases e : a * 12 ≤ j ∧ j < a * 12 + 12 ∧ j < 48
    · rw [if_pos e]
      have hd : j / 12 = a := by omega
      have hz : ∀ k, k < 12 → z12.toList[k]? = some (.int .i64 (mv 0#4)) := by
        intro k hk
        match k, hk with
        | 0, _ => rfl
        | 1, _ => rfl
        | 2, _ => rfl
        | 3, _ => rfl
        | 4, _ => rfl
        | 5, _ => rfl
        | 6, _ => rfl
        | 7, _ => rfl
        | 8, _ => rfl
        | 9, _ => rfl
        | 10, _ => rfl
        | 11, _ => rfl
      rw [hz _ (by omega)]
      simp [hd]
    · rw [if_neg e]
      have hd : j / 12 ≠ a := by omega
      simp [hd]
  · rw [if_neg (by omega)]
    rw [Array.getElem?_eq_none (by rw [tcells_size]; omega), Array.getElem?_eq_none (by rw [tcells_size]; omega)]

set_option maxRecDepth 100000 in
theorem clear_c (c : Int) (b : Nat) (T : TB) (w : World) (ht : TabAt w b T) : Calls Try.prog 24 #[.pointer (some ⟨b, 0, none⟩), .int .i64 c] w
    fun e w' => RetK (oneB b) (.tuple #[]) w e w' ∧ TabAt w' b (T.clr c) := by
  cases h : inT c 0
  · have hr : T.clr c = T := by unfold TB.clr; rw [h]; rfl
    rw [hr]; clear hr
    go_enter Try.func24, Try.ntmps24
    go_wp2_with (go_at_call 77; refine (there_c _ _ _).mono ?_; rintro e w' ⟨rfl, rfl⟩; try rw [h])
    go_end0
    exact ⟨⟨rfl, Keeps.refl _ _⟩, ht⟩
  · obtain ⟨a, q, rfl, hq0, ha, hq⟩ := inT_open h
    clear hq hq0
    have hr : T.clr a = T.clear a := by unfold TB.clr; rw [h]; rfl
    rw [hr]; clear hr
    have hth : w.there b (a * 12) z12.size := fun j hj => ⟨by rw [cell_of_row w b _ _ _ _ ht, tcells_at T _ (by have : z12.size = 12 := rfl; omega)]; rfl, blk_free ht _⟩
    have HT := Lib.hid hth
    clear hth
    go_enter Try.func24, Try.ntmps24
    go_wp2_with (first | (go_at_call 77; refine (there_c _ _ _).mono ?_; rintro e w' ⟨rfl, rfl⟩; try rw [h]) | (with_reducible refine wpList_store_mid (op := ⟨none, .store 120 (.tmp 11) (.tmp 8), _, _, _, _⟩) rfl 120 _ _ rfl b (a * 12) z12 rfl rfl HT.out info120 z12_one ?_))
    go_end0
    exact ⟨⟨rfl, Keeps.setCells1 _ _ (Keeps.refl _ _)⟩, ht.clear a⟩

@[go_sem] theorem field119_0 (x y : Value) (w : World) : (Instr.field 119 (.agg #[x, y]) 0).run Try.prog w = .ok x w := by
  kernel_rfl
@[go_sem] theorem field119_1 (x y : Value) (w : World) : (Instr.field 119 (.agg #[x, y]) 1).run Try.prog w = .ok y w := by
  kernel_rfl

set_option maxRecDepth 100000 in
theorem free_c (c p : Int) (b : Nat) (T : TB) (w : World) (ht : TabAt w b T) : Calls Try.prog 27 #[.pointer (some ⟨b, 0, none⟩), .int .i64 c, .int .i64 p] w (RetK noB (.int .i64 (mv (T.free c p))) w) := by
  cases h : inT c p
  · have hr : T.free c p = 0#4 := by unfold TB.free; rw [h]; rfl
    rw [hr]; clear hr
    go_enter Try.func27, Try.ntmps27
    go_wp2_with (go_at_call 77; refine (there_c _ _ _).mono ?_; rintro e w' ⟨rfl, rfl⟩; try rw [h])
    go_ret
    exact ⟨rfl, Keeps.refl _ _⟩
  · obtain ⟨a, q, rfl, rfl, ha, hq⟩ := inT_open h
    have hr : T.free a q = ~~~ (T.oO a q) := by unfold TB.free; rw [h]; rfl
    rw [hr]; clear hr
    go_enter Try.func27, Try.ntmps27
    go_wp2_with (first | (go_at_call 77; refine (there_c _ _ _).mono ?_; rintro e w' ⟨rfl, rfl⟩; try rw [h]) | (go_at_call 79; refine (others_c a q hq b T _ ht).mono ?_; rintro e w' ⟨rfl, hk⟩))
    go_ret
    exact ⟨rfl, hk⟩

theorem alone_c (c p : Int) (b : Nat) (T : TB) (w : World) (ht : TabAt w b T) : Calls Try.prog 28 #[.pointer (some ⟨b, 0, none⟩), .int .i64 c, .int .i64 p] w (RetK noB (.bool (T.alone c p)) w) := by
  cases h : inT c p
  · have hr : T.alone c p = false := by unfold TB.alone; rw [h]; rfl
    rw [hr]; clear hr
    go_enter Try.func28, Try.ntmps28
    go_wp2_with (go_at_call 77; refine (there_c _ _ _).mono ?_; rintro e w' ⟨rfl, rfl⟩; try rw [h])
    go_ret
    exact ⟨rfl, Keeps.refl _ _⟩
  · obtain ⟨a, q, rfl, rfl, ha, hq⟩ := inT_open h
    have hr : T.alone a q = (T.oC a q == 0#4 && T.oO a q == 0#4) := by unfold TB.alone; rw [h]; rfl
    rw [hr]; clear hr
    go_enter Try.func28, Try.ntmps28
    go_wp2_with (first | (go_at_call 77; refine (there_c _ _ _).mono ?_; rintro e w' ⟨rfl, rfl⟩; try rw [h]) | (go_at_call 79; refine (others_c a q hq b T _ ht).mono ?_; rintro e w' ⟨rfl, hk⟩))
    all_goals go_ret
    all_goals exact ⟨by simp_all, hk⟩

set_option maxRecDepth 100000 in
set_option maxHeartbeats 1000000 in
theorem grant_c (c p m o : Int) (b : Nat) (T : TB) (w : World) (ht : TabAt w b T) : Calls Try.prog 22 #[.pointer (some ⟨b, 0, none⟩), .int .i64 c, .int .i64 p, .int .i64 m, .int .i64 o] w
    fun e w' => RetK (oneB b) (.bool (T.okG c p m o)) w e w' ∧ TabAt w' b (T.grant c p m o) := by
  cases h : inT c p
  · have hg : T.okG c p m o = false := by unfold TB.okG; rw [h]; rfl
    have hr : T.grant c p m o = T := by unfold TB.grant; rw [hg]; rfl
    rw [hr, hg]; clear hr hg
    go_enter Try.func22, Try.ntmps22
    go_wp2_with (first | (go_at_call 77; refine (there_c _ _ _).mono ?_; rintro e w' ⟨rfl, rfl⟩; try rw [h]) | (go_at_call 78; refine (masks_c _ _ _).mono ?_; rintro e w' ⟨rfl, rfl⟩))
    go_ret
    exact ⟨⟨rfl, Keeps.refl _ _⟩, ht⟩
  · cases h2 : okM m o
    · have hg : T.okG c p m o = false := by unfold TB.okG; rw [h, h2]; rfl
      have hr : T.grant c p m o = T := by unfold TB.grant; rw [hg]; rfl
      rw [hr, hg]; clear hr hg
      go_enter Try.func22, Try.ntmps22
      go_wp2_with (first | (go_at_call 77; refine (there_c _ _ _).mono ?_; rintro e w' ⟨rfl, rfl⟩; try rw [h]) | (go_at_call 78; refine (masks_c _ _ _).mono ?_; rintro e w' ⟨rfl, rfl⟩; try rw [h2]))
      go_ret
      exact ⟨⟨rfl, Keeps.refl _ _⟩, ht⟩
    · obtain ⟨a, q, rfl, rfl, ha, hq⟩ := inT_open h
      obtain ⟨hm, ho⟩ := okM_open h2
      have hg : T.okG a q m o = !T.clash a q (mk4 m) (mk4 o) := by unfold TB.okG; rw [h, h2]; rfl
      have hr : T.grant a q m o = if !T.clash a q (mk4 m) (mk4 o) then T.grant' a q (mk4 m) (mk4 o) else T := by unfold TB.grant; rw [hg]; rfl
      rw [hr, hg]; clear hr hg
      generalize mk4 m = m' at *
      generalize mk4 o = o' at *
      subst hm ho
      cases hcl : T.clash a q m' o'
      · rw [if_pos (show (!false) = true from rfl)]
        unfold TB.clash at hcl
        go_enter Try.func22, Try.ntmps22
        go_wp2_with (first | (go_at_call 77; refine (there_c _ _ _).mono ?_; rintro e w' ⟨rfl, rfl⟩; try rw [h]) | (go_at_call 78; refine (masks_c _ _ _).mono ?_; rintro e w' ⟨rfl, rfl⟩; try rw [h2]) | (go_at_call 79; refine (others_c a q hq b T _ ht).mono ?_; rintro e w1 ⟨rfl, hk⟩; have ht1 := ht.keep hk (noB_not b); have hlt1 := ht1.lt; have hc1 := ht1.coCell ha hq; have hc2 := ht1.owCell ha hq; have hf1 := ht1.free (a * 12 + q * 2); have hf2 := ht1.free (a * 12 + q * 2 + 1)))
        go_ret
        exact ⟨⟨rfl, ((hk.of_no.set1 _ _).set1 _ _).alloc _⟩, (((ht1.setC ha hq _).setO ha hq _).keep ((Keeps.refl noB _).alloc _) (noB_not b))⟩
      · rw [if_neg (by simp)]
        unfold TB.clash at hcl
        go_enter Try.func22, Try.ntmps22
        go_wp2_with (first | (go_at_call 77; refine (there_c _ _ _).mono ?_; rintro e w' ⟨rfl, rfl⟩; try rw [h]) | (go_at_call 78; refine (masks_c _ _ _).mono ?_; rintro e w' ⟨rfl, rfl⟩; try rw [h2]) | (go_at_call 79; refine (others_c a q hq b T _ ht).mono ?_; rintro e w1 ⟨rfl, hk⟩; have ht1 := ht.keep hk (noB_not b); have hlt1 := ht1.lt; have hc1 := ht1.coCell ha hq; have hc2 := ht1.owCell ha hq; have hf1 := ht1.free (a * 12 + q * 2); have hf2 := ht1.free (a * 12 + q * 2 + 1)))
        go_ret
        exact ⟨⟨rfl, hk.of_no.alloc _⟩, ht1.keep ((Keeps.refl noB _).alloc _) (noB_not b)⟩

theorem inO_open {j : Int} (h : inO j = true) : ∃ k : Nat, j = k ∧ k < 4 := by
  unfold inO at h; simp at h; exact ⟨j.toNat, by omega, by omega⟩
theorem info3 : (Try.prog.info? 3).map (fun i => (i.zero, i.size, i.bytes)) = some (some (.int .i64 0), 1, 8) := by kernel_rfl
theorem holdN_le (T : TB) (c p obj : Nat) (write : Bool) (k : Nat) : (T.holdN c p obj write k).length ≤ k := by
  induction k with
  | zero => simp [TB.holdN]
  | succ k ih =>
    unfold TB.holdN
    by_cases h : k ≠ c ∧ (if write then T.co k p else T.ow k p).getLsbD obj = true
    · rw [if_pos h]; simp; omega
    · rw [if_neg h]; omega

/-- v is a slice of numbers, in memory from block B on (or nil). -/
def OwnI (w : World) (B : Nat) (v : Value) (l : List Int) : Prop := w.ownsRow B 3 1 v l.length (l.map (Value.int .i64))

set_option maxRecDepth 100000 in
set_option maxHeartbeats 2000000 in
theorem holders_c (c p j : Int) (wb : Bool) (b : Nat) (T : TB) (w : World) (ht : TabAt w b T) : Calls Try.prog 29 #[.pointer (some ⟨b, 0, none⟩), .int .i64 c, .int .i64 p, .int .i64 j, .bool wb] w
    fun e w' => ∃ v, RetK noB v w e w' ∧ OwnI w' w.heap.size v (T.holders c p j wb) := by
  cases h : inT c p
  · have hg : T.holders c p j wb = [] := by unfold TB.holders; rw [h]; rfl
    rw [hg]; clear hg
    go_enter Try.func29, Try.ntmps29
    go_wp2_with (first | (go_at_call 77; refine (there_c _ _ _).mono ?_; rintro e w' ⟨rfl, rfl⟩; try rw [h]))
    go_ret
    exact ⟨_, ⟨rfl, Keeps.refl _ _⟩, World.ownsRow_nil _ _ _ _⟩
  · cases h2 : inO j
    · have hg : T.holders c p j wb = [] := by unfold TB.holders; rw [h, h2]; rfl
      rw [hg]; clear hg
      have h2' : j < 0 ∨ 4 ≤ j := by unfold inO at h2; simp at h2; omega
      rcases h2' with h3 | h3
      all_goals
        go_enter Try.func29, Try.ntmps29
        go_wp2_with (first | (go_at_call 77; refine (there_c _ _ _).mono ?_; rintro e w' ⟨rfl, rfl⟩; try rw [h]))
        go_ret
        exact ⟨_, ⟨rfl, Keeps.refl _ _⟩, World.ownsRow_nil _ _ _ _⟩
    · obtain ⟨a, q, rfl, rfl, ha, hq⟩ := inT_open h
      obtain ⟨o, rfl, ho⟩ := inO_open h2
      have hg : T.holders a q o wb = T.holdN a q o wb 4 := by unfold TB.holders; rw [h, h2]; rfl
      rw [hg]; clear hg
      have hlt : b < w.heap.size := lt_of_blk ht
      have hb : w.heap[b]? = some (.cells (tcells T) 123 (0,0)) := ht
      obtain ⟨i0, hi, hz0, hz1, hz2⟩ := info_parts info3
      go_enter Try.func29, Try.ntmps29
      go_wp2_with (first | (go_at_call 77; refine (there_c _ _ _).mono ?_; rintro e w' ⟨rfl, rfl⟩; try rw [h]) | (with_reducible refine wpList_load_row rfl 121 _ rfl b rfl 123 _ (0,0) _ hb Try.underlying121 rfl (by rw [tcells_size]; kernel_rfl) ?_))
      clear hb
      go_loopw [11, 31] (fun v i wd => ∃ k : Nat, k ≤ 4 ∧ i = .int .i64 k ∧ Keeps noB w wd ∧ OwnI wd w.heap.size v (T.holdN a q o wb k))
        (fun _ i _ => 4 - (intOf i).toNat)
      case atStart => exact ⟨0, by omega, rfl, Keeps.refl _ _, World.ownsRow_nil _ _ _ _⟩
      case round =>
        obtain ⟨k, hk, rfl, hkp, hown⟩ := hrel
        have hsz := hkp.size
        by_cases hlt4 : k < 4
        · have hix := index121 T k hlt4
          have hts := trow_size T k
          have hp0 := trow_co T k q hq
          have hp1 := trow_ow T k q hq
          have hst := store_row wr T k
          unfold z12 at hst
          have hle := holdN_le T a q o wb k
          by_cases hka : k = a
          · subst hka
            have hh : T.holdN k q o wb (k + 1) = T.holdN k q o wb k := by simp [TB.holdN]
            have HH := Lib.hid hh
            clear hh
            have hb0 : ((k : Int) != (k : Int)) = false := by simp
            cases wb
            all_goals
              go_wp2_with fail
              go_roundw
              case rel => exact ⟨k + 1, by omega, by go_num, hkp.alloc _, by unfold OwnI; rw [HH.out]; exact hown.alloc _⟩
              case measure => simp [intOf]; omega
          · have hb0 : ((k : Int) != (a : Int)) = true := by simp; omega
            have hbc := bitB_mv (T.co k q) o ho
            have hbo := bitB_mv (T.ow k q) o ho
            by_cases hit : (if wb then T.co k q else T.ow k q).getLsbD o = true
            · have hh : T.holdN a q o wb (k + 1) = T.holdN a q o wb k ++ [(k : Int)] := by rw [TB.holdN, if_pos ⟨hka, hit⟩]
              have HH := Lib.hid hh
              clear hh
              cases wb
              · rw [if_neg (by simp)] at hit
                rw [hit] at hbo
                clear hbc
                go_wp2_with (at_builtin; refine wpList_append1 rfl _ _ 34 rfl w.heap.size 3 i0 (.int .i64 0) 1 8 Try.underlying34 hi hz0 hz1 hz2 rfl (by decide) _ _ _ rfl ((hown.alloc _).alloc _) (wr.heap.size + 1) 1 [.int .i64 k] 3 (0, 0) rfl ?c1 rfl rfl ?c3 ?c4 ?c5 ?_)
                case c1 => rw [← alloc_size wr (.cells (trow T k) 120)]; exact heap_alloc_new _ _
                case c3 => omega
                case c4 => omega
                case c5 => rw [alloc_size, alloc_size]; omega
                · intro v' w1 hown' hgrow
                  have hk1 : Keeps noB w w1 := ((hkp.alloc _).alloc _).own ((hown.alloc _).alloc _) (Nat.le_refl _) hgrow
                  clear hgrow
                  go_wp2_with fail
                  go_roundw
                  case rel => exact ⟨k + 1, by omega, by go_num, hk1, by unfold OwnI; rw [HH.out]; simpa using hown'⟩
                  case measure => simp [intOf]; omega
              · rw [if_pos rfl] at hit
                rw [hit] at hbc
                clear hbo
                go_wp2_with (at_builtin; refine wpList_append1 rfl _ _ 34 rfl w.heap.size 3 i0 (.int .i64 0) 1 8 Try.underlying34 hi hz0 hz1 hz2 rfl (by decide) _ _ _ rfl ((hown.alloc _).alloc _) (wr.heap.size + 1) 1 [.int .i64 k] 3 (0, 0) rfl ?d1 rfl rfl ?d3 ?d4 ?d5 ?_)
                case d1 => rw [← alloc_size wr (.cells (trow T k) 120)]; exact heap_alloc_new _ _
                case d3 => omega
                case d4 => omega
                case d5 => rw [alloc_size, alloc_size]; omega
                · intro v' w1 hown' hgrow
                  have hk1 : Keeps noB w w1 := ((hkp.alloc _).alloc _).own ((hown.alloc _).alloc _) (Nat.le_refl _) hgrow
                  clear hgrow
                  go_wp2_with fail
                  go_roundw
                  case rel => exact ⟨k + 1, by omega, by go_num, hk1, by unfold OwnI; rw [HH.out]; simpa using hown'⟩
                  case measure => simp [intOf]; omega
            · have hh : T.holdN a q o wb (k + 1) = T.holdN a q o wb k := by rw [TB.holdN, if_neg (fun h => hit h.2)]
              have HH := Lib.hid hh
              clear hh
              cases wb
              · rw [if_neg (by simp)] at hit
                rw [Bool.not_eq_true] at hit
                rw [hit] at hbo
                clear hbc
                go_wp2_with fail
                go_roundw
                case rel => exact ⟨k + 1, by omega, by go_num, hkp.alloc _, by unfold OwnI; rw [HH.out]; exact hown.alloc _⟩
                case measure => simp [intOf]; omega
              · rw [if_pos rfl] at hit
                rw [Bool.not_eq_true] at hit
                rw [hit] at hbc
                clear hbo
                go_wp2_with fail
                go_roundw
                case rel => exact ⟨k + 1, by omega, by go_num, hkp.alloc _, by unfold OwnI; rw [HH.out]; exact hown.alloc _⟩
                case measure => simp [intOf]; omega
        · have hk4 : k = 4 := by omega
          subst hk4
          go_wp2_with fail
          go_ret
          exact ⟨_, ⟨rfl, hkp⟩, hown⟩
end Go.Proofs.Ytlpimkmkcfbddaa
