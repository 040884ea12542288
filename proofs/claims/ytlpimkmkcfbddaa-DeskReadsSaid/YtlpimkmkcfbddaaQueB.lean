/- The queue: All, Add. No condition. -/
import Derived.Test.YtlpimkmkcfbddaaQueA
import Derived.Maps.AppendAt
import Derived.Deep.RegionLaw
namespace Go.Proofs.Ytlpimkmkcfbddaa
open Go.RowKit

theorem info73 : (Try.prog.info? 73).map (fun i => (i.zero, i.size, i.bytes)) = some (some (.agg #[.int .i64 0, .int .i64 0, .int .i64 0, .bool false]), 4, 32) := by kernel_rfl
theorem WtR.news {w : World} {S : Nat → Prop} {ad : Addr} {m n : Nat} {ws : List Wt} (h : WtR w S (.slice (some ad) m n) ws) : ∀ j u, (wcells ws)[j]? = some u → w.cell? (ad.add j) = some u := by
  intro j u hj
  have hjl : j < ws.length * 4 := by have := (List.getElem?_eq_some_iff.1 hj).1; rw [wcells_len] at this; exact this
  obtain ⟨a1, n1, e, _, _, h⟩ := h
  simp at e
  obtain ⟨rfl, _, rfl⟩ := e
  obtain ⟨g, off, cs, ha, _, hb, h0, h1, h2, h3⟩ := h (j / 4) (by omega)
  simp at ha
  subst ha
  have hadd : (⟨g, off, none⟩ : Addr).add j = ⟨g, off + j, none⟩ := by unfold Addr.add; split <;> simp_all
  obtain ⟨g0, g1, g2, g3⟩ := wcells_at ws (j / 4) (by omega)
  rw [hadd]
  refine blk_cell hb ?_
  have hm : j % 4 = 0 ∨ j % 4 = 1 ∨ j % 4 = 2 ∨ j % 4 = 3 := by omega
  rcases hm with hm | hm | hm | hm
  · rw [show j / 4 * 4 = j by omega] at g0
    rw [show off + j = off + j / 4 * 4 by omega, h0, ← hj, g0]
  · rw [show j / 4 * 4 + 1 = j by omega] at g1
    rw [show off + j = off + j / 4 * 4 + 1 by omega, h1, ← hj, g1]
  · rw [show j / 4 * 4 + 2 = j by omega] at g2
    rw [show off + j = off + j / 4 * 4 + 2 by omega, h2, ← hj, g2]
  · rw [show j / 4 * 4 + 3 = j by omega] at g3
    rw [show off + j = off + j / 4 * 4 + 3 by omega, h3, ← hj, g3]
theorem own_wants0 (w : World) : (w.alloc (.cells #[] 73)).ownsRow w.heap.size 73 4 (.slice (some ⟨w.heap.size, 0, none⟩) 0 0) 0 [] :=
  ⟨rfl, .inr ⟨w.heap.size, 0, #[], rfl, Nat.le_refl _, heap_alloc_new _ _, Nat.le_refl _, Nat.zero_le _, rfl, rfl⟩⟩
set_option maxRecDepth 100000 in
set_option maxHeartbeats 4000000 in
theorem cloneW_c {w : World} {S : Nat → Prop} {v : Value} {ws : List Wt} (h : WtR w S v ws) (hl : ws.length ≤ 1000000) :
    Calls Try.prog 89 #[v] w fun e w' => ∃ v', RetK noB v' w e w' ∧ WtR w' (fun x => w.heap.size ≤ x) v' ws := by
  have qT : ∀ (w : World) (a : Option Addr) (n c n' c' : Nat), (binOp .eql 69 (.slice a n c) (.slice none n' c')).run Try.prog w = .ok (.bool a.isNone) w := fun w a n c n' c' => Lib.run_eql_slice_nil w _ _ a n c n' c' Try.underlying69
  obtain ⟨a, n, rfl⟩ := h.slice
  cases a with
  | none =>
    have hws : ws = [] := by
      cases ws with
      | nil => rfl
      | cons x r => obtain ⟨_, _, e, _⟩ := h.at_ (i := 0) (by simp); simp at e
    subst hws
    go_enter Try.func89, Try.ntmps89
    go_wp2_with fail
    go_ret
    exact ⟨_, ⟨rfl, Keeps.refl _ _⟩, none, 0, rfl, Nat.le_refl _, Nat.zero_le _, fun i hi => absurd hi (by simp)⟩
  | some ad =>
    obtain ⟨i1, hi, hz0, hz1, hz2⟩ := info_parts info73
    have hown := own_wants0 w
    have hnews := (h.no ((Keeps.refl noB w).alloc (.cells #[] 73))).news
    clear h
    go_enter Try.func89, Try.ntmps89
    go_wp2_with (at_builtin; refine wpList_append_own _ rfl _ _ 69 rfl w.heap.size 73 i1 _ 4 32 Try.underlying69 hi hz0 hz1 hz2 rfl (by decide) _ _ _ rfl hown ad ws.length n (wcells ws) rfl (wcells_len ws) hnews (wcells_one ws) ?c1 ?c2 ?c3 ?_)
    case c1 => unfold maxLen; omega
    case c2 => omega
    case c3 => rw [alloc_size]; omega
    · intro v' w1 h1 h2 h3
      have hk1 : Keeps noB w w1 := ((Keeps.refl noB w).alloc _).own hown (Nat.le_refl _) h2
      have hR := WtR.of_own (B := w.heap.size) (ws := ws) (by simpa using h1)
      have hbk : ∀ k, v'.ownBlock = some k → w.heap.size ≤ k := fun k hk => (h1.lt k hk).1
      obtain ⟨a', n', rfl⟩ := hR.slice
      clear h1 h2 h3 hown hnews qT
      go_wp2_with fail
      go_ret
      exact ⟨_, ⟨rfl, hk1⟩, hR.mono (fun x hx _ => hbk x hx)⟩
theorem all_c {w : World} {S : Nat → Prop} {p r : Nat} {v : Value} {ws : List Wt} {l : List (Kc × Bool)} (h : QAt w S p r v ws l) (hl : ws.length ≤ 1000000) :
    Calls Try.prog 47 #[.pointer (some ⟨p, 0, none⟩)] w fun e w' => ∃ v', RetK noB v' w e w' ∧ WtR w' (fun x => w.heap.size ≤ x) v' ws := by
  have hC := cloneW_c h.wants hl
  have c0 := blk_cell h.ptr (i := 0) rfl
  obtain ⟨a, n, rfl⟩ := h.wants.slice
  clear h
  go_enter Try.func47, Try.ntmps47
  go_wp2_with fail
  refine hC.mono ?_
  rintro e w1 ⟨v', ⟨rfl, hk1⟩, hR⟩
  obtain ⟨a', n', rfl⟩ := hR.slice
  go_wp2_with fail
  go_ret
  exact ⟨_, ⟨rfl, hk1⟩, hR⟩

/-- What waits lies in a row of its own (or nil). -/
def QOwn (w : World) (S : Nat → Prop) (v : Value) (ws : List Wt) : Prop := w.ownsRow 0 73 4 v ws.length (wcells ws) ∧ ∀ k, v.ownBlock = some k → S k
theorem own_blk {w : World} {v : Value} {n : Nat} {xs : List Value} (h : w.ownsRow 0 73 4 v n xs) {k : Nat} (hk : v.ownBlock = some k) : ∃ cs, w.heap[k]? = some (.cells cs 73 (0, 0)) := by
  obtain ⟨_, h⟩ := h
  rcases h with ⟨rfl, _⟩ | ⟨g, c, cs, rfl, _, hb, _⟩
  · simp [Value.ownBlock] at hk
  · simp [Value.ownBlock] at hk
    subst hk
    exact ⟨cs, hb⟩
theorem step_append_w {w : World} {ops : Array Oper} {o : Oper} {a : Act} {K : Act → World → Prop} {Q : Exit → Act → World → Prop} {E : Prop} (hg : o.guard = none) (s x : Operand)
    (ho : o.op = Op.call { callee := Callee.builtin Builtin.append, args := #[s, x], argTypes := #[69, 69] }) (v : Value) (ws : List Wt) (hv : a.eval s = v) (hown : w.ownsRow 0 73 4 v ws.length (wcells ws)) (hL : ws.length ≤ 100000)
    (gn cn : Nat) (t : Wt) (hx : a.eval x = Value.slice (some ⟨gn, 0, none⟩) 1 cn) (fr : Nat × Nat) (hu : w.heap[gn]? = some (.cells #[.int .i64 t.c, .int .i64 t.p, .int .i64 t.o, .bool t.w] 73 fr))
    (h : ∀ (v' : Value) (w' : World), w'.ownsRow 0 73 4 v' (ws.length + 1) (wcells (ws ++ [t])) → w.grownBy w' v.ownBlock → (v'.ownBlock = v.ownBlock ∨ v'.ownBlock = some w.heap.size) → K (a.put o.dst v') w') : if Region.wanted o (yielded ops a.tmps) = true then Oper.wp Try.prog o a w K Q else E := by
  have hw : Region.wanted o (yielded ops a.tmps) = true := by simp [Region.wanted, hg]
  rw [if_pos hw]
  obtain ⟨i1, hi, hz0, hz1, hz2⟩ := info_parts info73
  obtain ⟨v', w', hr, h2, h3, _, h5⟩ := run_append_own_at (P := Try.prog) w 0 69 o.type 73 i1 (.agg #[.int .i64 0, .int .i64 0, .int .i64 0, .bool false]) 4 32 Try.underlying69 hi hz0 hz1 hz2 rfl (by decide) v ws.length (wcells ws) hown ⟨gn, 0, none⟩ 1 cn [.int .i64 t.c, .int .i64 t.p, .int .i64 t.o, .bool t.w] rfl
    (fun j u hj => by
      have hadd : (⟨gn, 0, none⟩ : Addr).add j = ⟨gn, j, none⟩ := by unfold Addr.add; split <;> simp_all
      rw [hadd]
      exact blk_cell hu (by simpa using hj))
    (fun u hu' => by simp at hu'; rcases hu' with rfl | rfl | rfl | rfl <;> rfl) (by unfold maxLen; omega) (by omega) (Nat.zero_le _)
  have hfin := h v' w' (by rw [wcells_append]; exact h2) h3 h5
  unfold Oper.wp execOp
  simp only [ho, resolve, invoke, builtin, Sem.run_bind, Sem.run_pure, Result.andThen_ok, List.map_toArray, List.map_cons, List.map_nil, hv, hx, hr]
  exact hfin
end Go.Proofs.Ytlpimkmkcfbddaa
