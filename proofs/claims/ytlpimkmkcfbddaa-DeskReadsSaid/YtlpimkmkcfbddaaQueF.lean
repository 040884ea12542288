/- The queue: Remove. No condition. -/
import Derived.Test.YtlpimkmkcfbddaaQueE
import Derived.ArgAppend
namespace Go.Proofs.Ytlpimkmkcfbddaa
open Go.RowKit

theorem WtR.take {w : World} {S : Nat → Prop} {g off n : Nat} {ws : List Wt} (h : WtR w S (.slice (some ⟨g, off, none⟩) ws.length n) ws) (i : Nat) (hi : i ≤ ws.length) : WtR w S (.slice (some ⟨g, off, none⟩) i i) (ws.take i) := by
  obtain ⟨a, n', e, _, _, h⟩ := h
  simp at e
  obtain ⟨rfl, rfl⟩ := e
  have hl : (ws.take i).length = i := by rw [List.length_take]; omega
  refine ⟨_, i, by rw [hl], by omega, by omega, fun k hk => ?_⟩
  rw [hl] at hk
  obtain ⟨g', off', cs, ha, hS, hb, h0, h1, h2, h3⟩ := h k (by omega)
  refine ⟨g', off', cs, ha, hS, hb, ?_⟩
  rw [List.getElem_take]
  exact ⟨h0, h1, h2, h3⟩
theorem WtR.drop {w : World} {S : Nat → Prop} {g off n : Nat} {ws : List Wt} (h : WtR w S (.slice (some ⟨g, off, none⟩) ws.length n) ws) (i : Nat) (cx : Nat) (hc : ws.length - i ≤ cx) (hm : cx ≤ maxLen) : WtR w S (.slice (some ⟨g, off + i * 4, none⟩) (ws.length - i) cx) (ws.drop i) := by
  obtain ⟨a, n', e, _, _, h⟩ := h
  simp at e
  obtain ⟨rfl, rfl⟩ := e
  refine ⟨_, cx, by rw [List.length_drop], by rw [List.length_drop]; exact hc, hm, fun k hk => ?_⟩
  rw [List.length_drop] at hk
  obtain ⟨g', off', cs, ha, hS, hb, h0, h1, h2, h3⟩ := h (i + k) (by omega)
  simp at ha
  obtain ⟨rfl, rfl⟩ := ha
  refine ⟨g, off + i * 4, cs, rfl, hS, hb, ?_⟩
  rw [List.getElem_drop, show off + i * 4 + k * 4 = off + (i + k) * 4 by omega]
  exact ⟨h0, h1, h2, h3⟩
theorem step_rm_w {w : World} {ops : Array Oper} {o : Oper} {a : Act} {K : Act → World → Prop} {Q : Exit → Act → World → Prop} {E : Prop} (hg : o.guard = none) (s x : Operand)
    (ho : o.op = Op.call { callee := Callee.builtin Builtin.append, args := #[s, x], argTypes := #[69, 69] }) (S : Nat → Prop) (ws : List Wt) (hl : ws.length ≤ 1000) (i : Nat) (hi : i < ws.length) (g off n m cx : Nat)
    (hs : a.eval s = .slice (some ⟨g, off, none⟩) i i) (hm : m = ws.length - (i + 1)) (ax : Addr) (hax : m ≠ 0 → ax = ⟨g, off + (i + 1) * 4, none⟩) (hx : a.eval x = .slice (some ax) m cx) (hW : WtR w S (.slice (some ⟨g, off, none⟩) ws.length n) ws)
    (h : ∀ (v' : Value) (w' : World), WtR w' (fun y => S y ∨ w.heap.size ≤ y) v' (ws.take i ++ ws.drop (i + 1)) → Keeps noB w w' → K (a.put o.dst v') w') : if Region.wanted o (yielded ops a.tmps) = true then Oper.wp Try.prog o a w K Q else E := by
  have hw : Region.wanted o (yielded ops a.tmps) = true := by simp [Region.wanted, hg]
  rw [if_pos hw]
  obtain ⟨i1, hi1, hz0, hz1, hz2⟩ := info_parts info73
  have hT := hW.take i (by omega)
  have hD := hW.drop (i + 1) (ws.length - (i + 1)) (Nat.le_refl _) (by unfold maxLen; omega)
  subst hm
  by_cases h0 : ws.length - (i + 1) = 0
  · have hf := run_firstCells_some (P := Try.prog) w i1.size 0 ax 0 cx [] (by simp) (by simp)
    have hrun : (Builtin.append_ #[69, 69] o.type #[.slice (some ⟨g, off, none⟩) i i, .slice (some ax) 0 cx]).run Try.prog w = .ok (.slice (some ⟨g, off, none⟩) i i) w := by
      simp [Builtin.append_, run_underlying Try.underlying69, sizeOf, typeInfo, hi1, Builtin.lenOf, hf, storeCells]
    rw [h0] at hx
    have hdr : ws.drop (i + 1) = [] := List.drop_eq_nil_iff.2 (by omega)
    have hfin := h (.slice (some ⟨g, off, none⟩) i i) w (by rw [hdr, List.append_nil]; exact hT.mono (fun y hy _ => .inl hy)) (Keeps.refl _ _)
    unfold Oper.wp execOp
    simp only [ho, resolve, invoke, builtin, Sem.run_bind, Sem.run_pure, Result.andThen_ok, List.map_toArray, List.map_cons, List.map_nil, hs, hx, hrun]
    exact hfin
  · have hax' := hax h0
    subst hax'
    have hlt : (ws.take i).length = i := by rw [List.length_take]; omega
    have hld : (ws.drop (i + 1)).length = ws.length - (i + 1) := List.length_drop
    obtain ⟨v', w', hr, h2, h3⟩ := run_append_arg_grows (P := Try.prog) w 69 o.type 73 i1 (.agg #[.int .i64 0, .int .i64 0, .int .i64 0, .bool false]) 4 32 Try.underlying69 hi1 hz0 hz1 hz2 rfl (by decide) ⟨g, off, none⟩ i i (wcells (ws.take i)) (by rw [wcells_len, hlt]) hT.news
      ⟨g, off + (i + 1) * 4, none⟩ (ws.length - (i + 1)) cx (wcells (ws.drop (i + 1))) (by rw [wcells_len, hld]) hD.news (by omega) (by unfold maxLen; omega) (by omega)
    have hk : Keeps noB w w' := (Keeps.refl noB w).grown h3 (fun k hk => by cases hk)
    have hR := WtR.of_own (B := w.heap.size) (w := w') (v := v') (ws := ws.take i ++ ws.drop (i + 1)) (by rw [wcells_append, List.length_append, hlt, hld]; exact h2)
    have hfin := h v' w' (hR.mono (fun y hy _ => .inr ((h2.lt y hy).1))) hk
    unfold Oper.wp execOp
    simp only [ho, resolve, invoke, builtin, Sem.run_bind, Sem.run_pure, Result.andThen_ok, List.map_toArray, List.map_cons, List.map_nil, hs, hx, hr]
    exact hfin
theorem QAt.setW {w1 w2 : World} {S : Nat → Prop} {p r : Nat} {v v2 : Value} {ws ws2 : List Wt} {l : List (Kc × Bool)} (h : QAt w1 S p r v ws l) (hk2 : Keeps noB w1 w2) (hW : WtR w2 S v2 ws2) :
    QAt (w2.setCell ⟨p, 0, none⟩ v2) S p r v2 ws2 l ∧ Keeps S w1 (w2.setCell ⟨p, 0, none⟩ v2) := by
  have hp2 := hk2.blk h.ptr (noB_not _)
  have hk3 := (Keeps.refl (oneB p) w2).set1 0 v2
  obtain ⟨es, cl, hmr, hme⟩ := h.calls
  refine ⟨⟨h.inp, h.inr, fun y hy => ?_, heap_setCell_same _ _ _ _ hp2, hW.keep hk3 (fun y hy _ cs hc => by unfold oneB at hy; subst hy; rw [hp2] at hc; simp at hc), (h.calls.keep hk2 (noB_not _)).keep hk3 (fun hy => ?_)⟩, (hk2.of_no).trans hk3 (fun y _ hy => by unfold oneB at hy; subst hy; exact h.inp)⟩
  · have := h.lt y hy; have := hk2.size; rw [setCell_size]; omega
  · unfold oneB at hy; subst hy
    rw [h.ptr] at hmr; simp at hmr
def rmW (c : Int) (ws : List Wt) : List Wt := if 0 ≤ ofW c ws then ws.take (ofW c ws).toNat ++ ws.drop ((ofW c ws).toNat + 1) else ws

set_option maxRecDepth 100000 in
set_option maxHeartbeats 8000000 in
theorem remove_c {w : World} {S : Nat → Prop} {p r : Nat} {v : Value} {ws : List Wt} {l : List (Kc × Bool)} (hq : QAt w S p r v ws l) (hl : ws.length ≤ 1000) (c : Int) :
    Calls Try.prog 50 #[.pointer (some ⟨p, 0, none⟩), .int .i64 c] w fun e w' => RetK S (.bool (decide (0 ≤ ofW c ws))) w e w' ∧ ∃ S', (∀ y, S y → S' y) ∧ (∀ y, S' y → S y ∨ w.heap.size ≤ y) ∧ ∃ v', QAt w' S' p r v' (rmW c ws) l := by
  have hof := of_c hq (by omega) c
  have hlw := ofW_lt (c := c) (ws := ws)
  have HQ := Lib.hid hq
  clear hq
  by_cases h0 : 0 ≤ ofW c ws
  · obtain ⟨i, hi⟩ : ∃ i : Nat, ofW c ws = i := ⟨(ofW c ws).toNat, by omega⟩
    have hrm : rmW c ws = ws.take i ++ ws.drop (i + 1) := by unfold rmW; rw [if_pos h0, hi]; rfl
    have hil : i < ws.length := by omega
    rw [hrm, decide_eq_true h0]
    rw [hi] at hof
    have HI := Lib.hid hi
    clear h0 hi hrm hlw
    go_enter Try.func50, Try.ntmps50
    go_wp2_with fail
    refine hof.mono ?_
    rintro e w1 ⟨rfl, hk1⟩
    have hq1 := HQ.out.no hk1
    obtain ⟨av, nv, hav⟩ := hq1.wants.slice
    subst hav
    obtain ⟨g9, off9, ha9, _⟩ := hq1.wants.at_ hil
    obtain ⟨a9, n9, e9, hn1, hn2, _⟩ := hq1.wants
    simp at e9
    obtain ⟨rfl, rfl⟩ := e9
    subst ha9
    have c0 := blk_cell hq1.ptr (i := 0) rfl
    have f0 := blk_free hq1.ptr 0
    unfold maxLen at hn2
    have HQ1 := Lib.hid hq1
    clear hq1 hof
    have hinv : i ≤ nv := by omega
    have hwr : IntKind.i64.wrap ((i : Int) + 1) = (i : Int) + 1 := by rw [IntKind.wrap_i64]; omega
    have htn : ((i : Int) + 1).toNat = i + 1 := by omega
    have hb1 : (0 : Int) ≤ (i : Int) + 1 := by omega
    have hb2 : (i : Int) + 1 ≤ ws.length := by omega
    have hb3 : (i : Int) ≤ (i : Int) + 1 := by omega
    have hinw : i + 1 ≤ nv := by omega
    by_cases hcap : nv = i + 1
    · subst hcap
      have hT1 := HQ1.out.wants.take i (by omega)
      have hdr : ws.take i ++ ws.drop (i + 1) = ws.take i := by rw [List.drop_eq_nil_iff.2 (by omega), List.append_nil]
      have HDR := Lib.hid hdr
      have HT1 := Lib.hid hT1
      clear hT1 hdr
      go_upto_region 3 with fail
      go_region_law (fail)
      all_goals
        go_wp2_with fail
        go_ret
        rw [HDR.out]
        have q := HQ1.out.setW (v2 := .slice (some ⟨g9, off9, none⟩) i i) (Keeps.refl noB w1) HT1.out
        first
          | exact ⟨⟨rfl, (hk1.of_no).trans q.2 (fun _ _ h => h)⟩, S, fun _ h => h, fun _ h => .inl h, _, q.1⟩
          | exact ⟨⟨rfl, (hk1.of_no).trans q.2.drew (fun _ _ h => h)⟩, S, fun _ h => h, fun _ h => .inl h, _, q.1.no ((Keeps.refl noB _).drew)⟩
          | exact ⟨⟨rfl, (hk1.of_no).trans q.2.drew.drew (fun _ _ h => h)⟩, S, fun _ h => h, fun _ h => .inl h, _, q.1.no ((Keeps.refl noB _).drew.drew)⟩
    · have hcap2 : ¬ (nv = i + 1) := hcap
      go_upto_region 3 with fail
      go_region_law (first
        | (refine step_rm_w rfl _ _ rfl S ws hl i hil g9 off9 _ (ws.length - (i + 1)) _ rfl rfl _ (fun _ => rfl) rfl (by first | exact HQ1.out.wants | exact HQ1.out.wants.no ((Keeps.refl noB _).drew) | exact HQ1.out.wants.no (((Keeps.refl noB _).drew).drew)) ?_; intro v' w2 g1 g2; have hk2 : Keeps noB w1 w2 := (by first | exact g2 | exact ((Keeps.refl noB w1).drew).trans_no g2 | exact (((Keeps.refl noB w1).drew).drew).trans_no g2); clear g2; obtain ⟨a4, n4, rfl⟩ := g1.slice; obtain ⟨mm, hmm⟩ : ∃ mm, mm = (ws.take i ++ ws.drop (i + 1)).length := ⟨_, rfl⟩; rw [← hmm] at g1 ⊢; clear hmm; have HG1 := Lib.hid g1; clear g1; have hp2 := hk2.blk HQ1.out.ptr (noB_not _); have m0 := blk_cell hp2 (i := 0) rfl; have f2 := blk_free hp2 0)
        | fail)
      all_goals
        go_wp2_with fail
        go_ret
        have hq1 := HQ1.out
        have hk3 := (Keeps.refl (oneB p) w2).set1 0 (.slice a4 mm n4)
        have s1 := hk1.size
        have s2 := hk2.size
        obtain ⟨es, cl, hmr, hme⟩ := hq1.calls
        refine ⟨⟨rfl, ?_⟩, fun y => S y ∨ (w.heap.size ≤ y ∧ y < w2.heap.size), fun y hy => .inl hy, fun y hy => hy.imp id (fun h => h.1), .slice a4 mm n4, ⟨.inl hq1.inp, .inl hq1.inr, fun y hy => ?_, heap_setCell_same _ _ _ _ hp2, ?_, ?_⟩⟩
        · exact ((hk1.trans_no hk2).of_no).trans hk3 (fun y _ hy => by unfold oneB at hy; subst hy; exact hq1.inp)
        · rw [setCell_size]
          rcases hy with hy | hy
          · have := hq1.lt y hy; omega
          · exact hy.2
        · refine (HG1.out.mono (fun y hy hy2 => ?_)).keep hk3 (fun y hy _ cs hc => by unfold oneB at hy; subst hy; rw [hp2] at hc; simp at hc)
          rcases hy with hy | hy
          · exact .inl hy
          · have h' : w1.heap.size ≤ y := hy
            exact .inr ⟨by omega, hy2⟩
        · refine (hq1.calls.keep hk2 (noB_not _)).keep hk3 (fun hy => ?_)
          unfold oneB at hy; subst hy
          rw [hq1.ptr] at hmr; simp at hmr
  · have hrm : rmW c ws = ws := by unfold rmW; rw [if_neg h0]
    have hge := ofW_ge (c := c) (ws := ws)
    have he : ofW c ws = -1 := by omega
    rw [hrm, decide_eq_false h0]
    rw [he] at hof
    clear h0 hge hlw hrm he
    go_enter Try.func50, Try.ntmps50
    go_wp2_with fail
    refine hof.mono ?_
    rintro e w1 ⟨rfl, hk1⟩
    go_wp2_with fail
    go_ret
    exact ⟨⟨rfl, hk1.of_no⟩, S, fun _ h => h, fun _ h => .inl h, v, HQ.out.no hk1⟩
end Go.Proofs.Ytlpimkmkcfbddaa
