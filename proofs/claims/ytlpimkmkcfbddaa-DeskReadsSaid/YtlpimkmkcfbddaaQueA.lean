/- The queue: New, key, Called. No condition. -/
import Derived.Test.YtlpimkmkcfbddaaQue
namespace Go.Proofs.Ytlpimkmkcfbddaa
open Go.RowKit

theorem new_q (w : World) : Calls Try.prog 45 #[] w fun e w' => RetK noB (.pointer (some ⟨w.heap.size + 1, 0, none⟩)) w e w' ∧ w'.heap.size = w.heap.size + 2 ∧ QAt w' (fun x => w.heap.size ≤ x ∧ x < w.heap.size + 2) (w.heap.size + 1) w.heap.size (.slice none 0 0) [] [] := by
  have hmm := @run_makeMap Try.prog
  go_enter Try.func45, Try.ntmps45
  go_wp2_with fail
  go_ret
  have hs : ((w.alloc (.map #[] 0)).alloc (.cells #[.slice none 0 0, .map (some w.heap.size)] 136)).heap.size = w.heap.size + 2 := by rw [alloc_size, alloc_size]
  refine ⟨⟨rfl, ((Keeps.refl _ _).alloc _).alloc _⟩, hs, ⟨⟨by omega, by omega⟩, ⟨by omega, by omega⟩, fun x hx => by rw [hs]; exact hx.2, ?_, ⟨none, 0, rfl, Nat.le_refl _, Nat.zero_le _, fun i hi => absurd hi (by simp)⟩, ?_⟩⟩
  · rw [← alloc_size w (.map #[] 0)]; exact heap_alloc_new _ _
  · exact (MapAt.new w).keep ((Keeps.refl noB _).alloc _) (noB_not _)
def keyOf (h : Int) (x : Wt) : Kc := ⟨h, x.p, x.o, x.w⟩
theorem key_c (h : Int) (x : Wt) (w : World) : Calls Try.prog 93 #[.int .i64 h, .agg #[.int .i64 x.c, .int .i64 x.p, .int .i64 x.o, .bool x.w]] w (RetK noB (.agg #[.int .i64 h, .int .i64 x.p, .int .i64 x.o, .bool x.w]) w) := by
  obtain ⟨c, p, o, b⟩ := x
  simp only
  go_enter Try.func93, Try.ntmps93
  go_wp2_with fail
  refine bodyPost_ret (results_cell_row (fn := Try.f93) Try.results93 _ _ (w.heap.size + 1) 140 _ (0, 0) _ rfl (by rw [← alloc_size w (.cells #[.int .i64 c, .int .i64 p, .int .i64 o, .bool b] 73)]; exact heap_alloc_new _ _) Try.underlying140 rfl (by kernel_rfl)) rfl ?_
  exact ⟨rfl, ((Keeps.refl _ _).alloc _).alloc _⟩
theorem lookup_l {w : World} {r : Nat} {l : List (Kc × Bool)} (hm : MapAt w r l) (h p o : Int) (b : Bool) : (Instr.lookup 134 (.map (some r)) (.agg #[.int .i64 h, .int .i64 p, .int .i64 o, .bool b]) true).run Try.prog w = .ok (.tuple #[.bool ((kget ⟨h, p, o, b⟩ l).getD false), .bool (kget ⟨h, p, o, b⟩ l).isSome]) w := lookup_c hm ⟨h, p, o, b⟩

set_option maxRecDepth 100000 in
set_option maxHeartbeats 4000000 in
theorem called_c {w : World} {S : Nat → Prop} {p r : Nat} {v : Value} {ws : List Wt} {l : List (Kc × Bool)} (hq : QAt w S p r v ws l) (h : Int) (x : Wt) :
    Calls Try.prog 63 #[.pointer (some ⟨p, 0, none⟩), .int .i64 h, .agg #[.int .i64 x.c, .int .i64 x.p, .int .i64 x.o, .bool x.w]] w (RetK noB (.tuple #[.bool (kget (keyOf h x) l).isSome, .bool ((kget (keyOf h x) l).getD false)]) w) := by
  obtain ⟨c, pg, o, b⟩ := x
  simp only [keyOf]
  have hkA : Keeps noB w (w.alloc (.cells #[.int .i64 c, .int .i64 pg, .int .i64 o, .bool b] 73)) := (Keeps.refl _ _).alloc _
  have hA := hq.no hkA
  have c1 := blk_cell hA.ptr (i := 1) rfl
  have hX := heap_alloc_new w (.cells #[.int .i64 c, .int .i64 pg, .int .i64 o, .bool b] 73)
  have x0 := blk_cell hX (i := 0) rfl
  have x1 := blk_cell hX (i := 1) rfl
  have x2 := blk_cell hX (i := 2) rfl
  have x3 := blk_cell hX (i := 3) rfl
  have HM := Lib.hid hA.calls
  have HP := Lib.hid hA.ptr
  clear hq hA
  go_enter Try.func63, Try.ntmps63
  go_upto_region 1 with fail
  have HX := Lib.hid hX
  clear hX
  generalize w.alloc (.cells #[.int .i64 c, .int .i64 pg, .int .i64 o, .bool b] 73) = wA at *
  have hK := fun wd => key_c h ⟨c, pg, o, b⟩ wd
  simp only at hK
  go_region_with (go_at_call 93; refine (hK _).mono ?_; rintro e w1 ⟨rfl, hk1⟩; have hkk : Keeps noB wA w1 := Keeps.trans_no (by first | exact Keeps.refl _ _ | exact (Keeps.refl _ _).drew | exact (Keeps.refl _ _).drew.drew | exact (Keeps.refl _ _).drewN _) hk1; have c11 := blk_cell (hkk.blk HP.out (noB_not _)) (i := 1) rfl; have hL := lookup_l (HM.out.keep hkk (noB_not _)) h pg o b; have hL1 := lookup_l ((HM.out.keep hkk (noB_not _)).keep ((Keeps.refl noB w1).drew) (noB_not _)) h pg o b)
  all_goals
    go_wp2_with fail
    go_ret2
    exact ⟨rfl, by first | exact hkA.trans_no hkk | exact (hkA.trans_no hkk).drew | exact (hkA.trans_no hkk).drew.drew⟩
theorem QAt.map {w w1 : World} {S : Nat → Prop} {p r : Nat} {v : Value} {ws : List Wt} {l l' : List (Kc × Bool)} (h : QAt w S p r v ws l) (hk : Keeps noB w w1) {o : Obj} (hm : MapAt (putObj w1 r o) r l') : QAt (putObj w1 r o) S p r v ws l' ∧ Keeps S w (putObj w1 r o) := by
  have hkr : Keeps (oneB r) w (putObj w1 r o) := (hk.of_no).putObj r o (.inl rfl)
  obtain ⟨es, c, hmr, _⟩ := h.calls
  refine ⟨⟨h.inp, h.inr, fun x hx => Nat.lt_of_lt_of_le (h.lt x hx) hkr.size, hkr.blk h.ptr (fun e => ?_), h.wants.keep hkr (fun x hx _ cs hc => ?_), hm⟩, hkr.mono (fun x _ hx => by unfold oneB at hx; subst hx; exact h.inr)⟩
  · unfold oneB at e; subst e
    rw [h.ptr] at hmr; simp at hmr
  · unfold oneB at hx; subst hx
    rw [hmr] at hc; simp at hc
theorem update_l {w : World} {r : Nat} {l : List (Kc × Bool)} (hm : MapAt w r l) (h p o : Int) (b : Bool) (x : Bool) :
    ∃ es c, (Instr.mapUpdate 134 (.map (some r)) (.agg #[.int .i64 h, .int .i64 p, .int .i64 o, .bool b]) (.bool x)).run Try.prog w = .ok () (putObj w r (.map es c)) ∧ MapAt (putObj w r (.map es c)) r (kput ⟨h, p, o, b⟩ x l) := update_c hm ⟨h, p, o, b⟩ x

set_option maxRecDepth 100000 in
set_option maxHeartbeats 4000000 in
theorem busy_c {w : World} {S : Nat → Prop} {p r : Nat} {v : Value} {ws : List Wt} {l : List (Kc × Bool)} (hq : QAt w S p r v ws l) (h : Int) (x : Wt) :
    Calls Try.prog 51 #[.pointer (some ⟨p, 0, none⟩), .int .i64 h, .agg #[.int .i64 x.c, .int .i64 x.p, .int .i64 x.o, .bool x.w]] w fun e w' => RetK S (.bool (kget (keyOf h x) l).isSome) w e w' ∧ QAt w' S p r v ws (if (kget (keyOf h x) l).isSome then kput (keyOf h x) true l else l) := by
  obtain ⟨c, pg, o, b⟩ := x
  have hkA : Keeps noB w (w.alloc (.cells #[.int .i64 c, .int .i64 pg, .int .i64 o, .bool b] 73)) := (Keeps.refl _ _).alloc _
  have hA := hq.no hkA
  have hX := heap_alloc_new w (.cells #[.int .i64 c, .int .i64 pg, .int .i64 o, .bool b] 73)
  have hC := called_c hA h ⟨c, pg, o, b⟩
  simp only [keyOf] at hC ⊢
  clear hq
  have HX := Lib.hid hX
  have HA := Lib.hid hA
  clear hX hA
  by_cases hg : (kget ⟨h, pg, o, b⟩ l).isSome = true
  rotate_left
  · have hg2 : (kget ⟨h, pg, o, b⟩ l).isSome = false := by simpa using hg
    simp only [hg2] at hC
    simp only [hg2, Bool.false_eq_true, if_false]
    clear hg hg2
    go_enter Try.func51, Try.ntmps51
    go_wp2_with fail
    refine hC.mono ?_
    rintro e w1 ⟨rfl, hk1⟩
    go_wp2_with fail
    go_ret
    exact ⟨⟨rfl, (hkA.trans_no hk1).of_no⟩, HA.out.no hk1⟩
  · simp only [hg] at hC
    simp only [hg, if_true]
    clear hg
    go_enter Try.func51, Try.ntmps51
    go_wp2_with fail
    refine hC.mono ?_
    rintro e w1 ⟨rfl, hk1⟩
    have hX1 := hk1.blk HX.out (noB_not _)
    have hA1 := HA.out.no hk1
    go_upto_region 3 with fail
    have c1 := blk_cell hA1.ptr (i := 1) rfl
    have x0 := blk_cell hX1 (i := 0) rfl
    have x1 := blk_cell hX1 (i := 1) rfl
    have x2 := blk_cell hX1 (i := 2) rfl
    have x3 := blk_cell hX1 (i := 3) rfl
    have HA1 := Lib.hid hA1
    have hK := fun wd => key_c h ⟨c, pg, o, b⟩ wd
    simp only at hK
    clear hA1 hX1 hC
    go_region_with (go_at_call 93; refine (hK _).mono ?_; rintro e w2 ⟨rfl, hk2⟩; have hkk : Keeps noB w1 w2 := Keeps.trans_no (by first | exact Keeps.refl _ _ | exact (Keeps.refl _ _).drew | exact (Keeps.refl _ _).drew.drew | exact (Keeps.refl _ _).drewN _) hk2; have c11 := blk_cell (hkk.blk HA1.out.ptr (noB_not _)) (i := 1) rfl; obtain ⟨es1, k1, hU1, hM1⟩ := update_l (HA1.out.calls.keep hkk (noB_not _)) h pg o b true; obtain ⟨es2, k2, hU2, hM2⟩ := update_l ((HA1.out.calls.keep hkk (noB_not _)).keep ((Keeps.refl noB w2).drew) (noB_not _)) h pg o b true)
    all_goals
      go_wp2_with fail
      go_ret
      first
        | (obtain ⟨q1, q2⟩ := HA1.out.map hkk hM1
           exact ⟨⟨rfl, ((hkA.trans_no hk1).of_no).trans q2 (fun _ _ h => h)⟩, q1⟩)
        | (obtain ⟨q1, q2⟩ := HA1.out.map hkk.drew hM2
           exact ⟨⟨rfl, ((hkA.trans_no hk1).of_no).trans q2 (fun _ _ h => h)⟩, q1⟩)

def callOk (h : Int) (x : Wt) (l : List (Kc × Bool)) : Bool := !(kget (keyOf h x) l).isSome && (decide (0 ≤ h ∧ h < 4) && rightB ⟨0, x.p, x.o, x.w⟩)
set_option maxRecDepth 100000 in
set_option maxHeartbeats 4000000 in
theorem call_c {w : World} {S : Nat → Prop} {p r : Nat} {v : Value} {ws : List Wt} {l : List (Kc × Bool)} (hq : QAt w S p r v ws l) (h : Int) (x : Wt) :
    Calls Try.prog 49 #[.pointer (some ⟨p, 0, none⟩), .int .i64 h, .agg #[.int .i64 x.c, .int .i64 x.p, .int .i64 x.o, .bool x.w]] w fun e w' => RetK S (.bool (callOk h x l)) w e w' ∧ QAt w' S p r v ws (if callOk h x l then kput (keyOf h x) false l else l) := by
  obtain ⟨c, pg, o, b⟩ := x
  have hkA : Keeps noB w (w.alloc (.cells #[.int .i64 0, .int .i64 pg, .int .i64 o, .bool b] 73)) := (Keeps.refl _ _).alloc _
  have hA := hq.no hkA
  have hX := heap_alloc_new w (.cells #[.int .i64 0, .int .i64 pg, .int .i64 o, .bool b] 73)
  have hC := called_c hA h ⟨0, pg, o, b⟩
  simp only [keyOf] at hC
  clear hq
  have HX := Lib.hid hX
  have HA := Lib.hid hA
  clear hX hA
  have hco : callOk h ⟨c, pg, o, b⟩ l = (!(kget ⟨h, pg, o, b⟩ l).isSome && (decide (0 ≤ h ∧ h < 4) && rightB ⟨0, pg, o, b⟩)) := rfl
  generalize callOk h ⟨c, pg, o, b⟩ l = co at *
  by_cases hg : (kget ⟨h, pg, o, b⟩ l).isSome = true
  · simp only [hg, Bool.not_true, Bool.false_and] at hC hco
    subst hco
    simp only [Bool.false_eq_true, if_false]
    clear hg
    go_enter Try.func49, Try.ntmps49
    go_wp2_with fail
    refine hC.mono ?_
    rintro e w1 ⟨rfl, hk1⟩
    go_wp2_with fail
    go_ret
    exact ⟨⟨rfl, (hkA.trans_no hk1).of_no⟩, HA.out.no hk1⟩
  · have hg2 : (kget ⟨h, pg, o, b⟩ l).isSome = false := by simpa using hg
    simp only [hg2, Bool.not_false, Bool.true_and] at hC hco
    clear hg hg2
    by_cases h1 : 0 ≤ h ∧ h < 4
    · have e1 : (decide (0 ≤ h) && decide (h < 4)) = true := by simp [h1]
      have e2 : decide (0 ≤ h ∧ h < 4) = true := decide_eq_true h1
      rw [e2, Bool.true_and] at hco
      clear e2 h1
      cases hr : rightB ⟨0, pg, o, b⟩
      · rw [hr] at hco
        subst hco
        simp only [Bool.false_eq_true, if_false]
        go_enter Try.func49, Try.ntmps49
        go_wp2_with fail
        refine hC.mono ?_
        rintro e w1 ⟨rfl, hk1⟩
        have hX1 := hk1.blk HX.out (noB_not _)
        have x0 := blk_cell hX1 (i := 0) rfl
        have x1 := blk_cell hX1 (i := 1) rfl
        have x2 := blk_cell hX1 (i := 2) rfl
        have x3 := blk_cell hX1 (i := 3) rfl
        have hc := client_c h w1
        rw [e1] at hc
        have hrr := right_c ⟨0, pg, o, b⟩ w1
        rw [hr] at hrr
        simp only at hrr
        clear hX1 hC
        go_wp2_with fail
        refine hc.mono ?_
        rintro e w2 ⟨rfl, rfl⟩
        go_wp2_with fail
        refine hrr.mono ?_
        rintro e w3 ⟨rfl, hk3⟩
        go_wp2_with fail
        go_ret
        exact ⟨⟨rfl, ((hkA.trans_no hk1).trans_no hk3).of_no⟩, (HA.out.no hk1).no hk3⟩
      · rw [hr] at hco
        subst hco
        simp only [if_true]
        go_enter Try.func49, Try.ntmps49
        go_wp2_with fail
        refine hC.mono ?_
        rintro e w1 ⟨rfl, hk1⟩
        have hX1 := hk1.blk HX.out (noB_not _)
        have x0 := blk_cell hX1 (i := 0) rfl
        have x1 := blk_cell hX1 (i := 1) rfl
        have x2 := blk_cell hX1 (i := 2) rfl
        have x3 := blk_cell hX1 (i := 3) rfl
        have hc := client_c h w1
        rw [e1] at hc
        have hrr := right_c ⟨0, pg, o, b⟩ w1
        rw [hr] at hrr
        simp only at hrr
        have HX1 := Lib.hid hX1
        clear hX1 hC
        go_wp2_with fail
        refine hc.mono ?_
        rintro e w2 ⟨rfl, rfl⟩
        go_wp2_with fail
        refine hrr.mono ?_
        rintro e w3 ⟨rfl, hk3⟩
        clear x0 x1 x2 x3
        have hX3 := hk3.blk HX1.out (noB_not _)
        have hA3 := (HA.out.no hk1).no hk3
        go_upto_region 5 with fail
        have c1 := blk_cell hA3.ptr (i := 1) rfl
        have x0 := blk_cell hX3 (i := 0) rfl
        have x1 := blk_cell hX3 (i := 1) rfl
        have x2 := blk_cell hX3 (i := 2) rfl
        have x3 := blk_cell hX3 (i := 3) rfl
        have HA3 := Lib.hid hA3
        have hK := fun wd => key_c h ⟨0, pg, o, b⟩ wd
        simp only at hK
        clear hA3 hX3 hrr hc
        go_region_with (go_at_call 93; refine (hK _).mono ?_; rintro e w2 ⟨rfl, hk2⟩; have hkk : Keeps noB w3 w2 := Keeps.trans_no (by first | exact Keeps.refl _ _ | exact (Keeps.refl _ _).drew | exact (Keeps.refl _ _).drew.drew | exact (Keeps.refl _ _).drewN _) hk2; have c11 := blk_cell (hkk.blk HA3.out.ptr (noB_not _)) (i := 1) rfl; obtain ⟨es1, k1, hU1, hM1⟩ := update_l (HA3.out.calls.keep hkk (noB_not _)) h pg o b false; obtain ⟨es2, k2, hU2, hM2⟩ := update_l ((HA3.out.calls.keep hkk (noB_not _)).keep ((Keeps.refl noB w2).drew) (noB_not _)) h pg o b false)
        all_goals
          go_wp2_with fail
          go_ret
          first
            | (obtain ⟨q1, q2⟩ := HA3.out.map hkk hM1
               exact ⟨⟨rfl, (((hkA.trans_no hk1).trans_no hk3).of_no).trans q2 (fun _ _ h => h)⟩, q1⟩)
            | (obtain ⟨q1, q2⟩ := HA3.out.map hkk.drew hM2
               exact ⟨⟨rfl, (((hkA.trans_no hk1).trans_no hk3).of_no).trans q2 (fun _ _ h => h)⟩, q1⟩)
    · have e1 : (decide (0 ≤ h) && decide (h < 4)) = false := by simp; omega
      have e2 : decide (0 ≤ h ∧ h < 4) = false := decide_eq_false h1
      rw [e2, Bool.false_and] at hco
      subst hco
      simp only [Bool.false_eq_true, if_false]
      clear e2 h1
      go_enter Try.func49, Try.ntmps49
      go_wp2_with fail
      refine hC.mono ?_
      rintro e w1 ⟨rfl, hk1⟩
      have hc := client_c h w1
      rw [e1] at hc
      clear hC
      go_wp2_with fail
      refine hc.mono ?_
      rintro e w2 ⟨rfl, rfl⟩
      go_wp2_with fail
      go_ret
      exact ⟨⟨rfl, (hkA.trans_no hk1).of_no⟩, HA.out.no hk1⟩
end Go.Proofs.Ytlpimkmkcfbddaa
