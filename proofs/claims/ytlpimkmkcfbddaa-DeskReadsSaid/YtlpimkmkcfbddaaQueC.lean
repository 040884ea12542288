/- The queue: Add. No condition. -/
import Derived.Test.YtlpimkmkcfbddaaQueB
namespace Go.Proofs.Ytlpimkmkcfbddaa
open Go.RowKit

theorem grownK {w W w3 : World} {v v' : Value} (hk : Keeps noB w W) (g : W.grownBy w3 v.ownBlock) (g3 : v'.ownBlock = v.ownBlock ∨ v'.ownBlock = some W.heap.size) :
    Keeps (fun x => v.ownBlock = some x) w w3 ∧ (v'.ownBlock = v.ownBlock ∨ ∃ x, v'.ownBlock = some x ∧ w.heap.size ≤ x) :=
  ⟨hk.of_no.grown g (fun _ hk => .inr hk), g3.imp id (fun h => ⟨_, h, hk.size⟩)⟩
def addOk (x : Wt) (ws : List Wt) : Bool := rightB x && decide (ofW x.c ws < 0)
theorem ofW_lt {c : Int} {ws : List Wt} : ofW c ws < ws.length := by
  unfold ofW
  split
  · rename_i i h
    have := (List.findIdx?_eq_some_iff_getElem.1 h).1
    omega
  · omega
theorem ofW_ge {c : Int} {ws : List Wt} : -1 ≤ ofW c ws := by
  unfold ofW
  split <;> omega
set_option maxRecDepth 100000 in
set_option maxHeartbeats 8000000 in
theorem add_c {w : World} {S : Nat → Prop} {p r : Nat} {v : Value} {ws : List Wt} {l : List (Kc × Bool)} (hq : QAt w S p r v ws l) (ho : QOwn w S v ws) (hl : ws.length ≤ 1000) (x : Wt) :
    Calls Try.prog 48 #[.pointer (some ⟨p, 0, none⟩), .agg #[.int .i64 x.c, .int .i64 x.p, .int .i64 x.o, .bool x.w]] w fun e w' => RetK S (.bool (addOk x ws)) w e w' ∧
      ∃ S', (∀ y, S y → S' y) ∧ (∀ y, S' y → S y ∨ w.heap.size ≤ y) ∧ ∃ v', QAt w' S' p r v' (if addOk x ws then ws ++ [x] else ws) l ∧ QOwn w' S' v' (if addOk x ws then ws ++ [x] else ws) := by
  obtain ⟨c, pg, o, b⟩ := x
  have hkA : Keeps noB w (w.alloc (.cells #[.int .i64 c, .int .i64 pg, .int .i64 o, .bool b] 73)) := (Keeps.refl _ _).alloc _
  have hA := hq.no hkA
  have hX := heap_alloc_new w (.cells #[.int .i64 c, .int .i64 pg, .int .i64 o, .bool b] 73)
  have x0 := blk_cell hX (i := 0) rfl
  have x1 := blk_cell hX (i := 1) rfl
  have x2 := blk_cell hX (i := 2) rfl
  have x3 := blk_cell hX (i := 3) rfl
  have hoA : QOwn (w.alloc (.cells #[.int .i64 c, .int .i64 pg, .int .i64 o, .bool b] 73)) S v ws := ⟨own_keep_no ho.1 hkA, ho.2⟩
  have hR := right_c ⟨c, pg, o, b⟩ (w.alloc (.cells #[.int .i64 c, .int .i64 pg, .int .i64 o, .bool b] 73))
  have hco : addOk ⟨c, pg, o, b⟩ ws = (rightB ⟨c, pg, o, b⟩ && decide (ofW c ws < 0)) := rfl
  simp only at hR
  generalize addOk ⟨c, pg, o, b⟩ ws = co at *
  have HX := Lib.hid hX
  have HA := Lib.hid hA
  have HO := Lib.hid hoA
  clear hX hA hq ho hoA
  cases hr : rightB ⟨c, pg, o, b⟩
  · rw [hr] at hR hco
    subst hco
    simp only [Bool.false_and, Bool.false_eq_true, if_false]
    go_enter Try.func48, Try.ntmps48
    go_wp2_with fail
    refine hR.mono ?_
    rintro e w1 ⟨rfl, hk1⟩
    go_wp2_with fail
    go_ret
    exact ⟨⟨rfl, (hkA.trans_no hk1).of_no⟩, S, fun _ h => h, fun _ h => .inl h, v, HA.out.no hk1, own_keep_no HO.out.1 hk1, HO.out.2⟩
  · rw [hr, Bool.true_and] at hco
    rw [hr] at hR
    clear hr
    by_cases h1 : 0 ≤ ofW c ws
    · have d1 : decide (ofW c ws ≥ 0) = true := decide_eq_true h1
      rw [decide_eq_false (by omega)] at hco
      subst hco
      simp only [Bool.false_eq_true, if_false]
      go_enter Try.func48, Try.ntmps48
      go_wp2_with fail
      refine hR.mono ?_
      rintro e w1 ⟨rfl, hk1⟩
      clear x0 x1 x2 x3
      have hX1 := hk1.blk HX.out (noB_not _)
      have x0 := blk_cell hX1 (i := 0) rfl
      have hof := of_c (HA.out.no hk1) (by omega) c
      clear hX1 hR
      go_wp2_with fail
      refine hof.mono ?_
      rintro e w2 ⟨rfl, hk2⟩
      go_wp2_with fail
      go_ret
      exact ⟨⟨rfl, ((hkA.trans_no hk1).trans_no hk2).of_no⟩, S, fun _ h => h, fun _ h => .inl h, v, (HA.out.no hk1).no hk2, own_keep_no HO.out.1 (hk1.trans_no hk2), HO.out.2⟩
    · have d1 : decide (ofW c ws ≥ 0) = false := decide_eq_false (by omega)
      rw [decide_eq_true (by omega)] at hco
      subst hco
      simp only [if_true]
      go_enter Try.func48, Try.ntmps48
      go_wp2_with fail
      refine hR.mono ?_
      rintro e w1 ⟨rfl, hk1⟩
      clear x0 x1 x2 x3
      have hX1 := hk1.blk HX.out (noB_not _)
      have x0 := blk_cell hX1 (i := 0) rfl
      have hof := of_c (HA.out.no hk1) (by omega) c
      have HX1 := Lib.hid hX1
      clear hX1 hR
      go_wp2_with fail
      refine hof.mono ?_
      rintro e w3 ⟨rfl, hk3⟩
      have hk13 := hk1.trans_no hk3
      have hA3 := HA.out.no hk13
      have hown := own_keep_no HO.out.1 hk13
      have hX3 := hk3.blk HX1.out (noB_not _)
      obtain ⟨va, vn, hv⟩ := hA3.wants.slice
      subst hv
      go_upto_region 3 with fail
      clear x0
      have x0 := blk_cell hX3 (i := 0) rfl
      have x1 := blk_cell hX3 (i := 1) rfl
      have x2 := blk_cell hX3 (i := 2) rfl
      have x3 := blk_cell hX3 (i := 3) rfl
      have c0 := blk_cell hA3.ptr (i := 0) rfl
      have c0A := blk_cell ((hA3.no ((Keeps.refl noB w3).alloc (.cells #[.int .i64 c, .int .i64 pg, .int .i64 o, .bool b] 73))).ptr) (i := 0) rfl
      have HA3 := Lib.hid hA3
      have HOW := Lib.hid hown
      clear hA3 hown hX3 hof
      go_region_law (first
        | (refine step_append_w rfl _ _ rfl (.slice va ws.length vn) ws rfl (by first | exact own_keep_no HOW.out ((Keeps.refl noB w3).alloc _) | exact own_keep_no HOW.out (((Keeps.refl noB w3).alloc _).drew) | exact own_keep_no HOW.out (((Keeps.refl noB w3).drew).alloc _) | exact own_keep_no HOW.out ((((Keeps.refl noB w3).drew).alloc _).drew)) (by omega) w3.heap.size 1 ⟨c, pg, o, b⟩ rfl (0, 0) (by first | exact heap_alloc_new w3 _ | exact heap_alloc_new w3.drew _) ?_; intro v' w4 g1 g2 g3; obtain ⟨hk4, g4⟩ := grownK (w := w3) (by first | exact (Keeps.refl noB w3).alloc _ | exact ((Keeps.refl noB w3).alloc _).drew | exact ((Keeps.refl noB w3).drew).alloc _ | exact (((Keeps.refl noB w3).drew).alloc _).drew) g2 g3; clear g2 g3; have hp4 := hk4.blk HA3.out.ptr (fun hx => by obtain ⟨cs, hc⟩ := own_blk HOW.out hx; rw [HA3.out.ptr] at hc; simp at hc); have hW4 := WtR.of_own (B := 0) (ws := ws ++ [⟨c, pg, o, b⟩]) (by simpa using g1); obtain ⟨a4, n4, rfl⟩ := hW4.slice; have m0 : w4.cell? ⟨p, 0, none⟩ = some (.slice va ws.length vn) := blk_cell hp4 rfl; have f0 := blk_free hp4 0)
        | fail)
      all_goals
        go_wp2_with fail
        go_ret
        simp only [List.length_append, List.length_singleton] at hW4 g4 g1
        have hA3 := HA3.out
        have hk5 := (Keeps.refl (oneB p) w4).set1 0 (.slice a4 (ws.length + 1) n4)
        have s1 := hkA.size
        have s2 := hk13.size
        have s4 := hk4.size
        have hob : ∀ y, (Value.slice va ws.length vn).ownBlock = some y → S y := HO.out.2
        obtain ⟨es, cl, hmr, hme⟩ := hA3.calls
        refine ⟨⟨rfl, ?_⟩, fun y => S y ∨ (w.heap.size ≤ y ∧ y < w4.heap.size), fun y hy => .inl hy, fun y hy => hy.imp id (fun h => h.1), .slice a4 (ws.length + 1) n4, ⟨.inl hA3.inp, .inl hA3.inr, fun y hy => ?_, heap_setCell_same _ _ _ _ hp4, ?_, ?_⟩, ?_, fun y hy => ?_⟩
        · exact (((hkA.trans_no hk13).of_no).trans hk4 (fun y _ hy => hob y hy)).trans hk5 (fun y _ hy => by unfold oneB at hy; subst hy; exact hA3.inp)
        · rw [setCell_size]
          rcases hy with hy | hy
          · have := hA3.lt y hy; omega
          · exact hy.2
        · refine (hW4.mono (fun y hy hy4 => ?_)).keep hk5 (fun y hy _ cs hc => by unfold oneB at hy; subst hy; rw [hp4] at hc; simp at hc)
          rcases g4 with g4 | ⟨z, g4, g5⟩
          · rw [g4] at hy; exact .inl (hob y hy)
          · rw [g4] at hy; simp at hy; subst hy; exact .inr ⟨by omega, hy4⟩
        · refine (hA3.calls.keep hk4 (fun hy => ?_)).keep hk5 (fun hy => ?_)
          · obtain ⟨cs, hc⟩ := own_blk HOW.out hy
            rw [hmr] at hc; simp at hc
          · unfold oneB at hy; subst hy
            rw [hA3.ptr] at hmr; simp at hmr
        · have hlen : (ws ++ [(⟨c, pg, o, b⟩ : Wt)]).length = ws.length + 1 := by simp
          rw [hlen]
          exact own_keep g1 hk5 (fun k _ _ hk h => by
            unfold oneB at h; subst h
            obtain ⟨cs, hc⟩ := own_blk g1 hk
            rw [hp4] at hc; simp at hc)
        · rcases g4 with g4 | ⟨z, g4, g5⟩
          · rw [g4] at hy; exact .inl (hob y hy)
          · have hy4 : y < w4.heap.size := by obtain ⟨cs, hc⟩ := own_blk g1 hy; exact lt_of_blk hc
            rw [g4] at hy; simp at hy; subst hy; exact .inr ⟨by omega, hy4⟩
end Go.Proofs.Ytlpimkmkcfbddaa
