/- The queue: its changes, and who owns the slice of wants. Printed by mk_quek.py out of QueA, QueC, QueF, QueH, QueI. No condition. -/
import Derived.Test.YtlpimkmkcfbddaaQueI
import Derived.Test.YtlpimkmkcfbddaaQueD
import Derived.ArgAppend
namespace Go.Proofs.Ytlpimkmkcfbddaa
open Go.RowKit

/-- The slice of wants is a row of its own, or full. -/
def QF (w : World) (S : Nat → Prop) (v : Value) (ws : List Wt) : Prop := QOwn w S v ws ∨ ∃ a, v = .slice (some a) ws.length ws.length
theorem QF.no {w w1 : World} {S : Nat → Prop} {v : Value} {ws : List Wt} (h : QF w S v ws) (hk : Keeps noB w w1) : QF w1 S v ws := h.imp (fun h => ⟨own_keep_no h.1 hk, h.2⟩) id
theorem QF.mono {w : World} {S S' : Nat → Prop} {v : Value} {ws : List Wt} (h : QF w S v ws) (hS : ∀ x, S x → S' x) : QF w S' v ws := h.imp (fun h => ⟨h.1, fun k hk => hS k (h.2 k hk)⟩) id
theorem QF.map {w w1 : World} {S : Nat → Prop} {v : Value} {ws : List Wt} {r : Nat} {l : List (Kc × Bool)} (h : QF w S v ws) (hk : Keeps (oneB r) w w1) (hm : MapAt w r l) : QF w1 S v ws := by
  rcases h with h | h
  · refine .inl ⟨own_keep h.1 hk (fun k _ _ e hF => ?_), h.2⟩
    unfold oneB at hF; subst hF
    obtain ⟨cs, hc⟩ := own_blk h.1 e
    obtain ⟨es, c, hmr, _⟩ := hm
    rw [hmr] at hc; simp at hc
  · exact .inr h
theorem QAt.mapK {w w1 : World} {S : Nat → Prop} {p r : Nat} {v : Value} {ws : List Wt} {l l' : List (Kc × Bool)} (h : QAt w S p r v ws l) (hk : Keeps noB w w1) {o : Obj} (hm : MapAt (putObj w1 r o) r l') : QAt (putObj w1 r o) S p r v ws l' ∧ Keeps (oneB r) w (putObj w1 r o) :=
  ⟨(h.map hk hm).1, (hk.of_no).putObj r o (.inl rfl)⟩
set_option maxRecDepth 100000 in
set_option maxHeartbeats 8000000 in
theorem busy_k {w : World} {S : Nat → Prop} {p r : Nat} {v : Value} {ws : List Wt} {l : List (Kc × Bool)} (hq : QAt w S p r v ws l) (h : Int) (x : Wt) :
    Calls Try.prog 51 #[.pointer (some ⟨p, 0, none⟩), .int .i64 h, .agg #[.int .i64 x.c, .int .i64 x.p, .int .i64 x.o, .bool x.w]] w fun e w' => RetK (oneB r) (.bool (kget (keyOf h x) l).isSome) w e w' ∧ QAt w' S p r v ws (if (kget (keyOf h x) l).isSome then kput (keyOf h x) true l else l) := by
  obtain ⟨c, pg, o, b⟩ := x
  have hkA : Keeps noB w (w.alloc (.cells #[.int .i64 c, .int .i64 pg, .int .i64 o, .bool b] 73)) := (Keeps.refl _ _).alloc _
  have hA := hq.no hkA
  have hX := heap_alloc_new w (.cells #[.int .i64 c, .int .i64 pg, .int .i64 o, .bool b] 73)
  have hC := called_c hA h ⟨c, pg, o, b⟩
  simp only [keyOf] at hC ⊢
  clear hq
  have HX := Lib.hid hX
  have HA := Lib.hid hA
  clear hX hA
  by_cases hg : (kget ⟨h, pg, o, b⟩ l).isSome = true
  rotate_left
  · have hg2 : (kget ⟨h, pg, o, b⟩ l).isSome = false := by simpa using hg
    simp only [hg2] at hC
    simp only [hg2, Bool.false_eq_true, if_false]
    clear hg hg2
    go_enter Try.func51, Try.ntmps51
    go_wp2_with fail
    refine hC.mono ?_
    rintro e w1 ⟨rfl, hk1⟩
    go_wp2_with fail
    go_ret
    exact ⟨⟨rfl, (hkA.trans_no hk1).of_no⟩, HA.out.no hk1⟩
  · simp only [hg] at hC
    simp only [hg, if_true]
    clear hg
    go_enter Try.func51, Try.ntmps51
    go_wp2_with fail
    refine hC.mono ?_
    rintro e w1 ⟨rfl, hk1⟩
    have hX1 := hk1.blk HX.out (noB_not _)
    have hA1 := HA.out.no hk1
    go_upto_region 3 with fail
    have c1 := blk_cell hA1.ptr (i := 1) rfl
    have x0 := blk_cell hX1 (i := 0) rfl
    have x1 := blk_cell hX1 (i := 1) rfl
    have x2 := blk_cell hX1 (i := 2) rfl
    have x3 := blk_cell hX1 (i := 3) rfl
    have HA1 := Lib.hid hA1
    have hK := fun wd => key_c h ⟨c, pg, o, b⟩ wd
    simp only at hK
    clear hA1 hX1 hC
    go_region_with (go_at_call 93; refine (hK _).mono ?_; rintro e w2 ⟨rfl, hk2⟩; have hkk : Keeps noB w1 w2 := Keeps.trans_no (by first | exact Keeps.refl _ _ | exact (Keeps.refl _ _).drew | exact (Keeps.refl _ _).drew.drew | exact (Keeps.refl _ _).drewN _) hk2; have c11 := blk_cell (hkk.blk HA1.out.ptr (noB_not _)) (i := 1) rfl; obtain ⟨es1, k1, hU1, hM1⟩ := update_l (HA1.out.calls.keep hkk (noB_not _)) h pg o b true; obtain ⟨es2, k2, hU2, hM2⟩ := update_l ((HA1.out.calls.keep hkk (noB_not _)).keep ((Keeps.refl noB w2).drew) (noB_not _)) h pg o b true)
    all_goals
      go_wp2_with fail
      go_ret
      first
        | (obtain ⟨q1, q2⟩ := HA1.out.mapK hkk hM1
           exact ⟨⟨rfl, ((hkA.trans_no hk1).of_no).trans q2 (fun _ _ h => h)⟩, q1⟩)
        | (obtain ⟨q1, q2⟩ := HA1.out.mapK hkk.drew hM2
           exact ⟨⟨rfl, ((hkA.trans_no hk1).of_no).trans q2 (fun _ _ h => h)⟩, q1⟩)

set_option maxRecDepth 100000 in
set_option maxHeartbeats 8000000 in
theorem call_k {w : World} {S : Nat → Prop} {p r : Nat} {v : Value} {ws : List Wt} {l : List (Kc × Bool)} (hq : QAt w S p r v ws l) (h : Int) (x : Wt) :
    Calls Try.prog 49 #[.pointer (some ⟨p, 0, none⟩), .int .i64 h, .agg #[.int .i64 x.c, .int .i64 x.p, .int .i64 x.o, .bool x.w]] w fun e w' => RetK (oneB r) (.bool (callOk h x l)) w e w' ∧ QAt w' S p r v ws (if callOk h x l then kput (keyOf h x) false l else l) := by
  obtain ⟨c, pg, o, b⟩ := x
  have hkA : Keeps noB w (w.alloc (.cells #[.int .i64 0, .int .i64 pg, .int .i64 o, .bool b] 73)) := (Keeps.refl _ _).alloc _
  have hA := hq.no hkA
  have hX := heap_alloc_new w (.cells #[.int .i64 0, .int .i64 pg, .int .i64 o, .bool b] 73)
  have hC := called_c hA h ⟨0, pg, o, b⟩
  simp only [keyOf] at hC
  clear hq
  have HX := Lib.hid hX
  have HA := Lib.hid hA
  clear hX hA
  have hco : callOk h ⟨c, pg, o, b⟩ l = (!(kget ⟨h, pg, o, b⟩ l).isSome && (decide (0 ≤ h ∧ h < 4) && rightB ⟨0, pg, o, b⟩)) := rfl
  generalize callOk h ⟨c, pg, o, b⟩ l = co at *
  by_cases hg : (kget ⟨h, pg, o, b⟩ l).isSome = true
  · simp only [hg, Bool.not_true, Bool.false_and] at hC hco
    subst hco
    simp only [Bool.false_eq_true, if_false]
    clear hg
    go_enter Try.func49, Try.ntmps49
    go_wp2_with fail
    refine hC.mono ?_
    rintro e w1 ⟨rfl, hk1⟩
    go_wp2_with fail
    go_ret
    exact ⟨⟨rfl, (hkA.trans_no hk1).of_no⟩, HA.out.no hk1⟩
  · have hg2 : (kget ⟨h, pg, o, b⟩ l).isSome = false := by simpa using hg
    simp only [hg2, Bool.not_false, Bool.true_and] at hC hco
    clear hg hg2
    by_cases h1 : 0 ≤ h ∧ h < 4
    · have e1 : (decide (0 ≤ h) && decide (h < 4)) = true := by simp [h1]
      have e2 : decide (0 ≤ h ∧ h < 4) = true := decide_eq_true h1
      rw [e2, Bool.true_and] at hco
      clear e2 h1
      cases hr : rightB ⟨0, pg, o, b⟩
      · rw [hr] at hco
        subst hco
        simp only [Bool.false_eq_true, if_false]
        go_enter Try.func49, Try.ntmps49
        go_wp2_with fail
        refine hC.mono ?_
        rintro e w1 ⟨rfl, hk1⟩
        have hX1 := hk1.blk HX.out (noB_not _)
        have x0 := blk_cell hX1 (i := 0) rfl
        have x1 := blk_cell hX1 (i := 1) rfl
        have x2 := blk_cell hX1 (i := 2) rfl
        have x3 := blk_cell hX1 (i := 3) rfl
        have hc := client_c h w1
        rw [e1] at hc
        have hrr := right_c ⟨0, pg, o, b⟩ w1
        rw [hr] at hrr
        simp only at hrr
        clear hX1 hC
        go_wp2_with fail
        refine hc.mono ?_
        rintro e w2 ⟨rfl, rfl⟩
        go_wp2_with fail
        refine hrr.mono ?_
        rintro e w3 ⟨rfl, hk3⟩
        go_wp2_with fail
        go_ret
        exact ⟨⟨rfl, ((hkA.trans_no hk1).trans_no hk3).of_no⟩, (HA.out.no hk1).no hk3⟩
      · rw [hr] at hco
        subst hco
        simp only [if_true]
        go_enter Try.func49, Try.ntmps49
        go_wp2_with fail
        refine hC.mono ?_
        rintro e w1 ⟨rfl, hk1⟩
        have hX1 := hk1.blk HX.out (noB_not _)
        have x0 := blk_cell hX1 (i := 0) rfl
        have x1 := blk_cell hX1 (i := 1) rfl
        have x2 := blk_cell hX1 (i := 2) rfl
        have x3 := blk_cell hX1 (i := 3) rfl
        have hc := client_c h w1
        rw [e1] at hc
        have hrr := right_c ⟨0, pg, o, b⟩ w1
        rw [hr] at hrr
        simp only at hrr
        have HX1 := Lib.hid hX1
        clear hX1 hC
        go_wp2_with fail
        refine hc.mono ?_
        rintro e w2 ⟨rfl, rfl⟩
        go_wp2_with fail
        refine hrr.mono ?_
        rintro e w3 ⟨rfl, hk3⟩
        clear x0 x1 x2 x3
        have hX3 := hk3.blk HX1.out (noB_not _)
        have hA3 := (HA.out.no hk1).no hk3
        go_upto_region 5 with fail
        have c1 := blk_cell hA3.ptr (i := 1) rfl
        have x0 := blk_cell hX3 (i := 0) rfl
        have x1 := blk_cell hX3 (i := 1) rfl
        have x2 := blk_cell hX3 (i := 2) rfl
        have x3 := blk_cell hX3 (i := 3) rfl
        have HA3 := Lib.hid hA3
        have hK := fun wd => key_c h ⟨0, pg, o, b⟩ wd
        simp only at hK
        clear hA3 hX3 hrr hc
        go_region_with (go_at_call 93; refine (hK _).mono ?_; rintro e w2 ⟨rfl, hk2⟩; have hkk : Keeps noB w3 w2 := Keeps.trans_no (by first | exact Keeps.refl _ _ | exact (Keeps.refl _ _).drew | exact (Keeps.refl _ _).drew.drew | exact (Keeps.refl _ _).drewN _) hk2; have c11 := blk_cell (hkk.blk HA3.out.ptr (noB_not _)) (i := 1) rfl; obtain ⟨es1, k1, hU1, hM1⟩ := update_l (HA3.out.calls.keep hkk (noB_not _)) h pg o b false; obtain ⟨es2, k2, hU2, hM2⟩ := update_l ((HA3.out.calls.keep hkk (noB_not _)).keep ((Keeps.refl noB w2).drew) (noB_not _)) h pg o b false)
        all_goals
          go_wp2_with fail
          go_ret
          first
            | (obtain ⟨q1, q2⟩ := HA3.out.mapK hkk hM1
               exact ⟨⟨rfl, (((hkA.trans_no hk1).trans_no hk3).of_no).trans q2 (fun _ _ h => h)⟩, q1⟩)
            | (obtain ⟨q1, q2⟩ := HA3.out.mapK hkk.drew hM2
               exact ⟨⟨rfl, (((hkA.trans_no hk1).trans_no hk3).of_no).trans q2 (fun _ _ h => h)⟩, q1⟩)
    · have e1 : (decide (0 ≤ h) && decide (h < 4)) = false := by simp; omega
      have e2 : decide (0 ≤ h ∧ h < 4) = false := decide_eq_false h1
      rw [e2, Bool.false_and] at hco
      subst hco
      simp only [Bool.false_eq_true, if_false]
      clear e2 h1
      go_enter Try.func49, Try.ntmps49
      go_wp2_with fail
      refine hC.mono ?_
      rintro e w1 ⟨rfl, hk1⟩
      have hc := client_c h w1
      rw [e1] at hc
      clear hC
      go_wp2_with fail
      refine hc.mono ?_
      rintro e w2 ⟨rfl, rfl⟩
      go_wp2_with fail
      go_ret
      exact ⟨⟨rfl, (hkA.trans_no hk1).of_no⟩, HA.out.no hk1⟩
set_option maxRecDepth 100000 in
set_option maxHeartbeats 8000000 in
theorem answer_k {w : World} {S : Nat → Prop} {p r : Nat} {v : Value} {ws : List Wt} {l : List (Kc × Bool)} (hq : QAt w S p r v ws l) (h pg o : Int) (b : Bool) :
    Calls Try.prog 59 #[.pointer (some ⟨p, 0, none⟩), .int .i64 h, .int .i64 pg, .int .i64 o, .bool b] w fun e w' => RetK (oneB r) (.tuple #[]) w e w' ∧ QAt w' S p r v ws (kdel ⟨h, pg, o, b⟩ l) := by
  obtain ⟨es, c, hd, hm⟩ := delete_l hq.calls h pg o b
  have c1 := blk_cell hq.ptr (i := 1) rfl
  have HQ := Lib.hid hq
  have HM := Lib.hid hm
  clear hq hm
  go_enter Try.func59, Try.ntmps59
  go_wp2_with fail
  go_end0
  obtain ⟨q1, q2⟩ := HQ.out.mapK (Keeps.refl _ _) HM.out
  exact ⟨⟨rfl, q2⟩, q1⟩
theorem step_rm_k {w : World} {ops : Array Oper} {o : Oper} {a : Act} {K : Act → World → Prop} {Q : Exit → Act → World → Prop} {E : Prop} (hg : o.guard = none) (s x : Operand)
    (ho : o.op = Op.call { callee := Callee.builtin Builtin.append, args := #[s, x], argTypes := #[69, 69] }) (S : Nat → Prop) (ws : List Wt) (hl : ws.length ≤ 1000) (i : Nat) (hi : i < ws.length) (g off n m cx : Nat)
    (hs : a.eval s = .slice (some ⟨g, off, none⟩) i i) (hm : m = ws.length - (i + 1)) (ax : Addr) (hax : m ≠ 0 → ax = ⟨g, off + (i + 1) * 4, none⟩) (hx : a.eval x = .slice (some ax) m cx) (hW : WtR w S (.slice (some ⟨g, off, none⟩) ws.length n) ws)
    (h : ∀ (v' : Value) (w' : World), WtR w' (fun y => S y ∨ w.heap.size ≤ y) v' (ws.take i ++ ws.drop (i + 1)) → Keeps noB w w' → ((∃ a, v' = .slice (some a) (ws.take i ++ ws.drop (i + 1)).length (ws.take i ++ ws.drop (i + 1)).length) ∨ w'.ownsRow w.heap.size 73 4 v' (ws.take i ++ ws.drop (i + 1)).length (wcells (ws.take i ++ ws.drop (i + 1)))) → K (a.put o.dst v') w') : if Region.wanted o (yielded ops a.tmps) = true then Oper.wp Try.prog o a w K Q else E := by
  have hw : Region.wanted o (yielded ops a.tmps) = true := by simp [Region.wanted, hg]
  rw [if_pos hw]
  obtain ⟨i1, hi1, hz0, hz1, hz2⟩ := info_parts info73
  have hT := hW.take i (by omega)
  have hD := hW.drop (i + 1) (ws.length - (i + 1)) (Nat.le_refl _) (by unfold maxLen; omega)
  subst hm
  by_cases h0 : ws.length - (i + 1) = 0
  · have hf := run_firstCells_some (P := Try.prog) w i1.size 0 ax 0 cx [] (by simp) (by simp)
    have hrun : (Builtin.append_ #[69, 69] o.type #[.slice (some ⟨g, off, none⟩) i i, .slice (some ax) 0 cx]).run Try.prog w = .ok (.slice (some ⟨g, off, none⟩) i i) w := by
      simp [Builtin.append_, run_underlying Try.underlying69, sizeOf, typeInfo, hi1, Builtin.lenOf, hf, storeCells]
    rw [h0] at hx
    have hdr : ws.drop (i + 1) = [] := List.drop_eq_nil_iff.2 (by omega)
    have hfin := h (.slice (some ⟨g, off, none⟩) i i) w (by rw [hdr, List.append_nil]; exact hT.mono (fun y hy _ => .inl hy)) (Keeps.refl _ _) (.inl ⟨_, by rw [hdr, List.append_nil, List.length_take, Nat.min_eq_left (by omega)]⟩)
    unfold Oper.wp execOp
    simp only [ho, resolve, invoke, builtin, Sem.run_bind, Sem.run_pure, Result.andThen_ok, List.map_toArray, List.map_cons, List.map_nil, hs, hx, hrun]
    exact hfin
  · have hax' := hax h0
    subst hax'
    have hlt : (ws.take i).length = i := by rw [List.length_take]; omega
    have hld : (ws.drop (i + 1)).length = ws.length - (i + 1) := List.length_drop
    obtain ⟨v', w', hr, h2, h3⟩ := run_append_arg_grows (P := Try.prog) w 69 o.type 73 i1 (.agg #[.int .i64 0, .int .i64 0, .int .i64 0, .bool false]) 4 32 Try.underlying69 hi1 hz0 hz1 hz2 rfl (by decide) ⟨g, off, none⟩ i i (wcells (ws.take i)) (by rw [wcells_len, hlt]) hT.news
      ⟨g, off + (i + 1) * 4, none⟩ (ws.length - (i + 1)) cx (wcells (ws.drop (i + 1))) (by rw [wcells_len, hld]) hD.news (by omega) (by unfold maxLen; omega) (by omega)
    have hk : Keeps noB w w' := (Keeps.refl noB w).grown h3 (fun k hk => by cases hk)
    have hR := WtR.of_own (B := w.heap.size) (w := w') (v := v') (ws := ws.take i ++ ws.drop (i + 1)) (by rw [wcells_append, List.length_append, hlt, hld]; exact h2)
    have hfin := h v' w' (hR.mono (fun y hy _ => .inr ((h2.lt y hy).1))) hk (.inr (by rw [wcells_append, List.length_append, hlt, hld]; exact h2))
    unfold Oper.wp execOp
    simp only [ho, resolve, invoke, builtin, Sem.run_bind, Sem.run_pure, Result.andThen_ok, List.map_toArray, List.map_cons, List.map_nil, hs, hx, hr]
    exact hfin
set_option maxRecDepth 100000 in
set_option maxHeartbeats 8000000 in
theorem remove_k {w : World} {S : Nat → Prop} {p r : Nat} {v : Value} {ws : List Wt} {l : List (Kc × Bool)} (hq : QAt w S p r v ws l) (hf : QF w S v ws) (hl : ws.length ≤ 1000) (c : Int) :
    Calls Try.prog 50 #[.pointer (some ⟨p, 0, none⟩), .int .i64 c] w fun e w' => RetK S (.bool (decide (0 ≤ ofW c ws))) w e w' ∧ ∃ S', (∀ y, S y → S' y) ∧ (∀ y, S' y → S y ∨ w.heap.size ≤ y) ∧ ∃ v', QAt w' S' p r v' (rmW c ws) l ∧ QF w' S' v' (rmW c ws) := by
  have HF := Lib.hid hf
  clear hf
  have hof := of_c hq (by omega) c
  have hlw := ofW_lt (c := c) (ws := ws)
  have HQ := Lib.hid hq
  clear hq
  by_cases h0 : 0 ≤ ofW c ws
  · obtain ⟨i, hi⟩ : ∃ i : Nat, ofW c ws = i := ⟨(ofW c ws).toNat, by omega⟩
    have hrm : rmW c ws = ws.take i ++ ws.drop (i + 1) := by unfold rmW; rw [if_pos h0, hi]; rfl
    have hil : i < ws.length := by omega
    rw [hrm, decide_eq_true h0]
    rw [hi] at hof
    have HI := Lib.hid hi
    clear h0 hi hrm hlw
    go_enter Try.func50, Try.ntmps50
    go_wp2_with fail
    refine hof.mono ?_
    rintro e w1 ⟨rfl, hk1⟩
    have hq1 := HQ.out.no hk1
    obtain ⟨av, nv, hav⟩ := hq1.wants.slice
    subst hav
    obtain ⟨g9, off9, ha9, _⟩ := hq1.wants.at_ hil
    obtain ⟨a9, n9, e9, hn1, hn2, _⟩ := hq1.wants
    simp at e9
    obtain ⟨rfl, rfl⟩ := e9
    subst ha9
    have c0 := blk_cell hq1.ptr (i := 0) rfl
    have f0 := blk_free hq1.ptr 0
    unfold maxLen at hn2
    have HQ1 := Lib.hid hq1
    clear hq1 hof
    have hinv : i ≤ nv := by omega
    have hwr : IntKind.i64.wrap ((i : Int) + 1) = (i : Int) + 1 := by rw [IntKind.wrap_i64]; omega
    have htn : ((i : Int) + 1).toNat = i + 1 := by omega
    have hb1 : (0 : Int) ≤ (i : Int) + 1 := by omega
    have hb2 : (i : Int) + 1 ≤ ws.length := by omega
    have hb3 : (i : Int) ≤ (i : Int) + 1 := by omega
    have hinw : i + 1 ≤ nv := by omega
    by_cases hcap : nv = i + 1
    · subst hcap
      have hT1 := HQ1.out.wants.take i (by omega)
      have hdr : ws.take i ++ ws.drop (i + 1) = ws.take i := by rw [List.drop_eq_nil_iff.2 (by omega), List.append_nil]
      have HDR := Lib.hid hdr
      have HT1 := Lib.hid hT1
      clear hT1 hdr
      go_upto_region 3 with fail
      go_region_law (fail)
      all_goals
        go_wp2_with fail
        go_ret
        rw [HDR.out]
        have q := HQ1.out.setW (v2 := .slice (some ⟨g9, off9, none⟩) i i) (Keeps.refl noB w1) HT1.out
        first
          | exact ⟨⟨rfl, (hk1.of_no).trans q.2 (fun _ _ h => h)⟩, S, fun _ h => h, fun _ h => .inl h, _, q.1, .inr ⟨_, by rw [List.length_take, Nat.min_eq_left (by omega)]⟩⟩
          | exact ⟨⟨rfl, (hk1.of_no).trans q.2.drew (fun _ _ h => h)⟩, S, fun _ h => h, fun _ h => .inl h, _, q.1.no ((Keeps.refl noB _).drew), .inr ⟨_, by rw [List.length_take, Nat.min_eq_left (by omega)]⟩⟩
          | exact ⟨⟨rfl, (hk1.of_no).trans q.2.drew.drew (fun _ _ h => h)⟩, S, fun _ h => h, fun _ h => .inl h, _, q.1.no ((Keeps.refl noB _).drew.drew), .inr ⟨_, by rw [List.length_take, Nat.min_eq_left (by omega)]⟩⟩
    · have hcap2 : ¬ (nv = i + 1) := hcap
      go_upto_region 3 with fail
      go_region_law (first
        | (refine step_rm_k rfl _ _ rfl S ws hl i hil g9 off9 _ (ws.length - (i + 1)) _ rfl rfl _ (fun _ => rfl) rfl (by first | exact HQ1.out.wants | exact HQ1.out.wants.no ((Keeps.refl noB _).drew) | exact HQ1.out.wants.no (((Keeps.refl noB _).drew).drew)) ?_; intro v' w2 g1 g2 g5; have HG5 := Lib.hid g5; clear g5; have hk2 : Keeps noB w1 w2 := (by first | exact g2 | exact ((Keeps.refl noB w1).drew).trans_no g2 | exact (((Keeps.refl noB w1).drew).drew).trans_no g2); clear g2; obtain ⟨a4, n4, rfl⟩ := g1.slice; obtain ⟨mm, hmm⟩ : ∃ mm, mm = (ws.take i ++ ws.drop (i + 1)).length := ⟨_, rfl⟩; rw [← hmm] at g1 ⊢; have HMM := Lib.hid hmm; clear hmm; have HG1 := Lib.hid g1; clear g1; have hp2 := hk2.blk HQ1.out.ptr (noB_not _); have m0 := blk_cell hp2 (i := 0) rfl; have f2 := blk_free hp2 0)
        | fail)
      all_goals
        go_wp2_with fail
        go_ret
        have hq1 := HQ1.out
        have hk3 := (Keeps.refl (oneB p) w2).set1 0 (.slice a4 mm n4)
        have s1 := hk1.size
        have s2 := hk2.size
        obtain ⟨es, cl, hmr, hme⟩ := hq1.calls
        refine ⟨⟨rfl, ?_⟩, fun y => S y ∨ (w.heap.size ≤ y ∧ y < w2.heap.size), fun y hy => .inl hy, fun y hy => hy.imp id (fun h => h.1), .slice a4 mm n4, ⟨.inl hq1.inp, .inl hq1.inr, fun y hy => ?_, heap_setCell_same _ _ _ _ hp2, ?_, ?_⟩, ?_⟩
        · exact ((hk1.trans_no hk2).of_no).trans hk3 (fun y _ hy => by unfold oneB at hy; subst hy; exact hq1.inp)
        · rw [setCell_size]
          rcases hy with hy | hy
          · have := hq1.lt y hy; omega
          · exact hy.2
        · refine (HG1.out.mono (fun y hy hy2 => ?_)).keep hk3 (fun y hy _ cs hc => by unfold oneB at hy; subst hy; rw [hp2] at hc; simp at hc)
          rcases hy with hy | hy
          · exact .inl hy
          · have h' : w1.heap.size ≤ y := hy
            exact .inr ⟨by omega, hy2⟩
        · refine (hq1.calls.keep hk2 (noB_not _)).keep hk3 (fun hy => ?_)
          unfold oneB at hy; subst hy
          rw [hq1.ptr] at hmr; simp at hmr
        · have hmm := HMM.out
          subst hmm
          rcases HG5.out with g5 | g5
          · exact .inr g5
          · refine .inl ⟨own_keep (own_lower g5 (Nat.zero_le _)) hk3 (fun k _ _ e hF => ?_), fun k hk => .inr ?_⟩
            · unfold oneB at hF; subst hF
              obtain ⟨cs, hc⟩ := own_blk (own_lower g5 (Nat.zero_le _)) e
              rw [hp2] at hc; simp at hc
            · have g6 := g5.lt k hk
              exact ⟨Nat.le_trans s1 g6.1, g6.2⟩
  · have hrm : rmW c ws = ws := by unfold rmW; rw [if_neg h0]
    have hge := ofW_ge (c := c) (ws := ws)
    have he : ofW c ws = -1 := by omega
    rw [hrm, decide_eq_false h0]
    rw [he] at hof
    clear h0 hge hlw hrm he
    go_enter Try.func50, Try.ntmps50
    go_wp2_with fail
    refine hof.mono ?_
    rintro e w1 ⟨rfl, hk1⟩
    go_wp2_with fail
    go_ret
    exact ⟨⟨rfl, hk1.of_no⟩, S, fun _ h => h, fun _ h => .inl h, v, HQ.out.no hk1, HF.out.no hk1⟩
set_option maxRecDepth 100000 in
set_option maxHeartbeats 8000000 in
theorem gone_k {w : World} {S : Nat → Prop} {p r : Nat} {v : Value} {ws : List Wt} {l : List (Kc × Bool)} (hq : QAt w S p r v ws l) (hf : QF w S v ws) (hl : ws.length ≤ 1000) (hn : (l.map (·.1)).Nodup) (c : Int) :
    Calls Try.prog 61 #[.pointer (some ⟨p, 0, none⟩), .int .i64 c] w fun e w' => RetK S (.tuple #[]) w e w' ∧ ∃ S', (∀ y, S y → S' y) ∧ (∀ y, S' y → S y ∨ w.heap.size ≤ y) ∧ ∃ v', QAt w' S' p r v' (rmW c ws) (kgone c l) ∧ QF w' S' v' (rmW c ws) := by
  have hrm := remove_k hq hf hl c
  clear hq hf
  go_enter Try.func61, Try.ntmps61
  go_wp2_with fail
  refine hrm.mono ?_
  rintro e w1 ⟨⟨rfl, hk1⟩, S', hS1, hS2, v', hq1, hf1⟩
  clear hrm
  obtain ⟨es, c0, hrun, hrg⟩ := range_c hq1.calls
  have c1 := blk_cell hq1.ptr (i := 1) rfl
  have hI0 : GoneI w1 (w1.alloc (.mapIter (some r) c0 #[] c0)) w1.heap.size r c l es #[] l := ⟨hrg, (Keeps.refl _ _).alloc _, hn, rfl, fun e _ hs => by simp at hs⟩
  have HI0 := Lib.hid hI0
  have HQ1 := Lib.hid hq1
  have HF1 := Lib.hid hf1
  clear hf1
  have HN := Lib.hid hn
  clear hrg hq1 hI0 hn
  go_wp2_with fail
  go_loopw [13] (fun _ wr => ∃ es seen l', GoneI w1 wr w1.heap.size r c l es seen l')
    (fun _ wr => wr.rangeLeft r w1.heap.size)
  case atStart => exact ⟨_, _, _, HI0.out⟩
  case round =>
    clear c1 hrun HI0
    obtain ⟨es, seen, l', hI⟩ := hrel
    have HI := Lib.hid hI
    have hle := hI.rng.left_eq
    have HLE := Lib.hid hle
    clear hle
    rcases next_c hI.rng with ⟨hall, hnx⟩ | ⟨i, hi, e, w2, hie, hnx, hen, hrg2, hk2, hlt⟩
    · have hdone := hI.done hall
      have HD := Lib.hid hdone
      clear hall hI hdone
      go_wp2_with fail
      go_end0
      obtain ⟨q1, q2⟩ := HQ1.out.map' HI.out.kp HI.out.rng.map
      rw [HD.out] at q1
      refine ⟨⟨rfl, hk1.trans q2 (fun y hy hs => ?_)⟩, S', hS1, hS2, v', q1, HF1.out.map HI.out.kp HQ1.out.calls⟩
      rcases hS2 y hs with h | h
      · exact h
      · omega
    · clear hI
      obtain ⟨x, hx⟩ : ∃ x, x = l'[i] := ⟨_, rfl⟩
      rw [← hx] at hnx hen
      have HX := Lib.hid hx
      obtain ⟨⟨kh, kp, ko, kw⟩, kb⟩ := x
      simp only [Kc.val] at hnx hen
      have hle2 := hrg2.left_eq
      have HRG := Lib.hid hrg2
      have HIE := Lib.hid hie
      have HLT := Lib.hid hlt
      have hkB : Keeps noB w2 (w2.alloc (.cells #[.int .i64 kh, .int .i64 kp, .int .i64 ko, .bool kw] 140)) := (Keeps.refl _ _).alloc _
      clear hx hrg2 hie hlt hle2
      cases e1 : (kh == c)
      · have hmeas : (w2.alloc (.cells #[.int .i64 kh, .int .i64 kp, .int .i64 ko, .bool kw] 140)).rangeLeft r w1.heap.size < wr.rangeLeft r w1.heap.size := by
          rw [HLE.out, (HRG.out.keep hkB (noB_not _) (noB_not _)).left_eq]; exact HLT.out
        have HME := Lib.hid hmeas
        clear hmeas
        have hst := (HI.out.stays hi HIE.out HRG.out hk2 (Nat.le_refl _) (by rw [← HX.out]; show (!(kh == c)) = true; rw [e1]; rfl)).keep hkB
        have HST := Lib.hid hst
        clear hst
        go_wp2_with fail
        go_roundw
        case rel => exact ⟨_, _, _, HST.out⟩
        case measure => exact HME.out
      · have hqB := ((HQ1.out.map' HI.out.kp HI.out.rng.map).1.keep hk2 (fun y hy e => by have := HQ1.out.lt y hy; unfold oneB at e; omega)).no hkB
        have hrgB := HRG.out.keep hkB (noB_not _) (noB_not _)
        have hXb := heap_alloc_new w2 (.cells #[.int .i64 kh, .int .i64 kp, .int .i64 ko, .bool kw] 140)
        have HQB := Lib.hid hqB.ptr
        have HRB := Lib.hid hrgB
        have HXB := Lib.hid hXb
        have HKB := Lib.hid hkB
        have HK2 := Lib.hid hk2
        clear hqB hrgB hXb hkB hk2
        go_upto_region 5 with fail
        obtain ⟨sx, hsx⟩ : ∃ sx, sx = w2.heap.size := ⟨_, rfl⟩
        rw [← hsx] at HXB ⊢
        generalize w2.alloc (.cells #[.int .i64 kh, .int .i64 kp, .int .i64 ko, .bool kw] 140) = wB at *
        have c1 := blk_cell HQB.out (i := 1) rfl
        have x0 := blk_cell HXB.out (i := 0) rfl
        have x1 := blk_cell HXB.out (i := 1) rfl
        have x2 := blk_cell HXB.out (i := 2) rfl
        have x3 := blk_cell HXB.out (i := 3) rfl
        have hrgD := HRB.out.keep ((Keeps.refl noB wB).drew) (noB_not _) (noB_not _)
        obtain ⟨es', c', hd, hrg3, hsub⟩ := hrgD.del ⟨kh, kp, ko, kw⟩
        simp only [Kc.val] at hd
        have hk3 : Keeps (oneB r) wB.drew (putObj wB.drew r (.map es' c')) := (Keeps.refl _ _).putObj r _ (.inl rfl)
        have hgo := HI.out.goes hi HIE.out HRG.out HK2.out (HKB.out.drew) hk3 (Nat.le_refl _) (by rw [← HX.out]; exact e1) (by rw [← HX.out]; exact hrg3) (fun x hx => hsub.subset hx)
        have hmeas : (putObj wB.drew r (.map es' c')).rangeLeft r w1.heap.size < wr.rangeLeft r w1.heap.size := by
          rw [HLE.out, hrg3.left_eq]; exact Nat.lt_of_le_of_lt (left_sub hsub _) HLT.out
        have HME := Lib.hid hmeas
        have HST := Lib.hid hgo
        clear hmeas hgo hrg3 hsub hrgD hk3 hsx e1
        go_region_with fail
        all_goals
          go_wp2_with fail
          first
            | exact ⟨⟨_, _, _, HST.out⟩, HME.out⟩
            | (go_roundw; · exact ⟨_, _, _, HST.out⟩; · exact HME.out)
theorem step_append_f {w : World} {ops : Array Oper} {o : Oper} {a : Act} {K : Act → World → Prop} {Q : Exit → Act → World → Prop} {E : Prop} (hg : o.guard = none) (s x : Operand)
    (ho : o.op = Op.call { callee := Callee.builtin Builtin.append, args := #[s, x], argTypes := #[69, 69] }) (S : Nat → Prop) (ws : List Wt) (hL : ws.length ≤ 1000) (ad : Addr) (hv : a.eval s = .slice (some ad) ws.length ws.length) (hW : WtR w S (.slice (some ad) ws.length ws.length) ws)
    (gn cn : Nat) (t : Wt) (hx : a.eval x = Value.slice (some ⟨gn, 0, none⟩) 1 cn) (fr : Nat × Nat) (hu : w.heap[gn]? = some (.cells #[.int .i64 t.c, .int .i64 t.p, .int .i64 t.o, .bool t.w] 73 fr))
    (h : ∀ (v' : Value) (w' : World), w'.ownsRow w.heap.size 73 4 v' (ws.length + 1) (wcells (ws ++ [t])) → Keeps noB w w' → K (a.put o.dst v') w') : if Region.wanted o (yielded ops a.tmps) = true then Oper.wp Try.prog o a w K Q else E := by
  have hw : Region.wanted o (yielded ops a.tmps) = true := by simp [Region.wanted, hg]
  rw [if_pos hw]
  obtain ⟨i1, hi, hz0, hz1, hz2⟩ := info_parts info73
  obtain ⟨v', w', hr, h2, h3⟩ := run_append_arg_grows (P := Try.prog) w 69 o.type 73 i1 (.agg #[.int .i64 0, .int .i64 0, .int .i64 0, .bool false]) 4 32 Try.underlying69 hi hz0 hz1 hz2 rfl (by decide) ad ws.length ws.length (wcells ws) (wcells_len ws) hW.news
    ⟨gn, 0, none⟩ 1 cn [.int .i64 t.c, .int .i64 t.p, .int .i64 t.o, .bool t.w] rfl
    (fun j u hj => by
      have hadd : (⟨gn, 0, none⟩ : Addr).add j = ⟨gn, j, none⟩ := by unfold Addr.add; split <;> simp_all
      rw [hadd]
      exact blk_cell hu (by simpa using hj)) (by omega) (by unfold maxLen; omega) (by omega)
  have hfin := h v' w' (by rw [wcells_append]; exact h2) ((Keeps.refl noB w).grown h3 (fun k hk => by cases hk))
  unfold Oper.wp execOp
  simp only [ho, resolve, invoke, builtin, Sem.run_bind, Sem.run_pure, Result.andThen_ok, List.map_toArray, List.map_cons, List.map_nil, hv, hx, hr]
  exact hfin
set_option maxRecDepth 100000 in
set_option maxHeartbeats 8000000 in
theorem add_f {w : World} {S : Nat → Prop} {p r : Nat} {v : Value} {ws : List Wt} {l : List (Kc × Bool)} (hq : QAt w S p r v ws l) (ho : ∃ ad, v = .slice (some ad) ws.length ws.length) (hl : ws.length ≤ 1000) (x : Wt) :
    Calls Try.prog 48 #[.pointer (some ⟨p, 0, none⟩), .agg #[.int .i64 x.c, .int .i64 x.p, .int .i64 x.o, .bool x.w]] w fun e w' => RetK S (.bool (addOk x ws)) w e w' ∧
      ∃ S', (∀ y, S y → S' y) ∧ (∀ y, S' y → S y ∨ w.heap.size ≤ y) ∧ ∃ v', QAt w' S' p r v' (if addOk x ws then ws ++ [x] else ws) l ∧ QF w' S' v' (if addOk x ws then ws ++ [x] else ws) := by
  obtain ⟨ad, rfl⟩ := ho
  obtain ⟨c, pg, o, b⟩ := x
  have hkA : Keeps noB w (w.alloc (.cells #[.int .i64 c, .int .i64 pg, .int .i64 o, .bool b] 73)) := (Keeps.refl _ _).alloc _
  have hA := hq.no hkA
  have hX := heap_alloc_new w (.cells #[.int .i64 c, .int .i64 pg, .int .i64 o, .bool b] 73)
  have x0 := blk_cell hX (i := 0) rfl
  have x1 := blk_cell hX (i := 1) rfl
  have x2 := blk_cell hX (i := 2) rfl
  have x3 := blk_cell hX (i := 3) rfl
  have hR := right_c ⟨c, pg, o, b⟩ (w.alloc (.cells #[.int .i64 c, .int .i64 pg, .int .i64 o, .bool b] 73))
  have hco : addOk ⟨c, pg, o, b⟩ ws = (rightB ⟨c, pg, o, b⟩ && decide (ofW c ws < 0)) := rfl
  simp only at hR
  generalize addOk ⟨c, pg, o, b⟩ ws = co at *
  have HX := Lib.hid hX
  have HA := Lib.hid hA
  clear hX hA hq
  cases hr : rightB ⟨c, pg, o, b⟩
  · rw [hr] at hR hco
    subst hco
    simp only [Bool.false_and, Bool.false_eq_true, if_false]
    go_enter Try.func48, Try.ntmps48
    go_wp2_with fail
    refine hR.mono ?_
    rintro e w1 ⟨rfl, hk1⟩
    go_wp2_with fail
    go_ret
    exact ⟨⟨rfl, (hkA.trans_no hk1).of_no⟩, S, fun _ h => h, fun _ h => .inl h, _, HA.out.no hk1, .inr ⟨_, rfl⟩⟩
  · rw [hr, Bool.true_and] at hco
    rw [hr] at hR
    clear hr
    by_cases h1 : 0 ≤ ofW c ws
    · have d1 : decide (ofW c ws ≥ 0) = true := decide_eq_true h1
      rw [decide_eq_false (by omega)] at hco
      subst hco
      simp only [Bool.false_eq_true, if_false]
      go_enter Try.func48, Try.ntmps48
      go_wp2_with fail
      refine hR.mono ?_
      rintro e w1 ⟨rfl, hk1⟩
      clear x0 x1 x2 x3
      have hX1 := hk1.blk HX.out (noB_not _)
      have x0 := blk_cell hX1 (i := 0) rfl
      have hof := of_c (HA.out.no hk1) (by omega) c
      clear hX1 hR
      go_wp2_with fail
      refine hof.mono ?_
      rintro e w2 ⟨rfl, hk2⟩
      go_wp2_with fail
      go_ret
      exact ⟨⟨rfl, ((hkA.trans_no hk1).trans_no hk2).of_no⟩, S, fun _ h => h, fun _ h => .inl h, _, (HA.out.no hk1).no hk2, .inr ⟨_, rfl⟩⟩
    · have d1 : decide (ofW c ws ≥ 0) = false := decide_eq_false (by omega)
      rw [decide_eq_true (by omega)] at hco
      subst hco
      simp only [if_true]
      go_enter Try.func48, Try.ntmps48
      go_wp2_with fail
      refine hR.mono ?_
      rintro e w1 ⟨rfl, hk1⟩
      clear x0 x1 x2 x3
      have hX1 := hk1.blk HX.out (noB_not _)
      have x0 := blk_cell hX1 (i := 0) rfl
      have hof := of_c (HA.out.no hk1) (by omega) c
      have HX1 := Lib.hid hX1
      clear hX1 hR
      go_wp2_with fail
      refine hof.mono ?_
      rintro e w3 ⟨rfl, hk3⟩
      have hk13 := hk1.trans_no hk3
      have hA3 := HA.out.no hk13
      have hX3 := hk3.blk HX1.out (noB_not _)
      go_upto_region 3 with fail
      clear x0
      have x0 := blk_cell hX3 (i := 0) rfl
      have x1 := blk_cell hX3 (i := 1) rfl
      have x2 := blk_cell hX3 (i := 2) rfl
      have x3 := blk_cell hX3 (i := 3) rfl
      have c0 := blk_cell hA3.ptr (i := 0) rfl
      have c0A := blk_cell ((hA3.no ((Keeps.refl noB w3).alloc (.cells #[.int .i64 c, .int .i64 pg, .int .i64 o, .bool b] 73))).ptr) (i := 0) rfl
      have HA3 := Lib.hid hA3
      clear hA3 hX3 hof
      go_region_law (first
        | (refine step_append_f rfl _ _ rfl S ws hl ad rfl (by first | exact HA3.out.wants.no ((Keeps.refl noB w3).alloc _) | exact HA3.out.wants.no (((Keeps.refl noB w3).alloc _).drew) | exact HA3.out.wants.no (((Keeps.refl noB w3).drew).alloc _) | exact HA3.out.wants.no ((((Keeps.refl noB w3).drew).alloc _).drew)) w3.heap.size 1 ⟨c, pg, o, b⟩ rfl (0, 0) (by first | exact heap_alloc_new w3 _ | exact heap_alloc_new w3.drew _) ?_; intro v' w4 g1 g2; have hk4 : Keeps noB w3 w4 := Keeps.trans_no (by first | exact (Keeps.refl noB w3).alloc _ | exact ((Keeps.refl noB w3).alloc _).drew | exact ((Keeps.refl noB w3).drew).alloc _ | exact (((Keeps.refl noB w3).drew).alloc _).drew) g2; clear g2; have g6 : w4.ownsRow w3.heap.size 73 4 v' (ws.length + 1) (wcells (ws ++ [⟨c, pg, o, b⟩])) := own_lower g1 (by first | exact ((Keeps.refl noB w3).alloc _).size | exact (((Keeps.refl noB w3).drew).alloc _).size); clear g1; have hp4 := hk4.blk HA3.out.ptr (noB_not _); have hW4 := WtR.of_own (B := w3.heap.size) (ws := ws ++ [⟨c, pg, o, b⟩]) (by simpa using g6); obtain ⟨a4, n4, rfl⟩ := hW4.slice; have m0 : w4.cell? ⟨p, 0, none⟩ = some (.slice (some ad) ws.length ws.length) := blk_cell hp4 rfl; have f0 := blk_free hp4 0)
        | fail)
      all_goals
        go_wp2_with fail
        go_ret
        simp only [List.length_append, List.length_singleton] at hW4 g6
        have hA3 := HA3.out
        have hk5 := (Keeps.refl (oneB p) w4).set1 0 (.slice a4 (ws.length + 1) n4)
        have s1 := hkA.size
        have s2 := hk13.size
        have s4 := hk4.size
        obtain ⟨es, cl, hmr, hme⟩ := hA3.calls
        refine ⟨⟨rfl, ?_⟩, fun y => S y ∨ (w.heap.size ≤ y ∧ y < w4.heap.size), fun y hy => .inl hy, fun y hy => hy.imp id (fun h => h.1), .slice a4 (ws.length + 1) n4, ⟨.inl hA3.inp, .inl hA3.inr, fun y hy => ?_, heap_setCell_same _ _ _ _ hp4, ?_, ?_⟩, .inl ⟨?_, fun y hy => ?_⟩⟩
        · exact (((hkA.trans_no hk13).trans_no hk4).of_no).trans hk5 (fun y _ hy => by unfold oneB at hy; subst hy; exact hA3.inp)
        · rw [setCell_size]
          rcases hy with hy | hy
          · have := hA3.lt y hy; omega
          · exact hy.2
        · refine (hW4.mono (fun y hy hy4 => ?_)).keep hk5 (fun y hy _ cs hc => by unfold oneB at hy; subst hy; rw [hp4] at hc; simp at hc)
          have := (g6.lt y hy).1
          exact .inr ⟨by omega, hy4⟩
        · refine (hA3.calls.keep hk4 (noB_not _)).keep hk5 (fun hy => ?_)
          unfold oneB at hy; subst hy
          rw [hA3.ptr] at hmr; simp at hmr
        · have hlen : (ws ++ [(⟨c, pg, o, b⟩ : Wt)]).length = ws.length + 1 := by simp
          rw [hlen]
          exact own_keep (own_lower g6 (Nat.zero_le _)) hk5 (fun k _ _ hk h => by
            unfold oneB at h; subst h
            obtain ⟨cs, hc⟩ := own_blk (own_lower g6 (Nat.zero_le _)) hk
            rw [hp4] at hc; simp at hc)
        · have := g6.lt y hy
          exact .inr ⟨by omega, this.2⟩
theorem add_k {w : World} {S : Nat → Prop} {p r : Nat} {v : Value} {ws : List Wt} {l : List (Kc × Bool)} (hq : QAt w S p r v ws l) (ho : QF w S v ws) (hl : ws.length ≤ 1000) (x : Wt) :
    Calls Try.prog 48 #[.pointer (some ⟨p, 0, none⟩), .agg #[.int .i64 x.c, .int .i64 x.p, .int .i64 x.o, .bool x.w]] w fun e w' => RetK S (.bool (addOk x ws)) w e w' ∧
      ∃ S', (∀ y, S y → S' y) ∧ (∀ y, S' y → S y ∨ w.heap.size ≤ y) ∧ ∃ v', QAt w' S' p r v' (if addOk x ws then ws ++ [x] else ws) l ∧ QF w' S' v' (if addOk x ws then ws ++ [x] else ws) := by
  rcases ho with ho | ho
  · refine (add_c hq ho hl x).mono ?_
    rintro e w' ⟨h1, S', h2, h3, v', h4, h5⟩
    exact ⟨h1, S', h2, h3, v', h4, .inl h5⟩
  · exact add_f hq ho hl x
end Go.Proofs.Ytlpimkmkcfbddaa
