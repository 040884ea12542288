/- The document's queue: its rows; who waits, who was called. No condition. -/
import Derived.Test.YtlpimkmkcfbddaaQueK
import Derived.Test.YtlpimkmkcfbddaaQueG
import Derived.Test.YtlpimkmkcfbddaaRes
namespace Go.Proofs.Ytlpimkmkcfbddaa
open Go.RowKit

theorem info146 : (Try.prog.info? 146).map (fun i => (i.zero, i.size, i.bytes)) = some (some (.agg #[.int .i64 0, .int .i64 0, .int .i64 0, .bool false, .bool false]), 5, 32) := by kernel_rfl
def cl5 (e : Kc × Bool) : List Value := [.int .i64 e.1.h, .int .i64 e.1.p, .int .i64 e.1.o, .bool e.1.w, .bool e.2]
def ccells (l : List (Kc × Bool)) : List Value := l.flatMap cl5
theorem ccells_len (l : List (Kc × Bool)) : (ccells l).length = l.length * 5 := by
  induction l with
  | nil => rfl
  | cons e t ih => simp [ccells, cl5] at ih ⊢; omega
theorem ccells_append (l m : List (Kc × Bool)) : ccells (l ++ m) = ccells l ++ ccells m := by simp [ccells]
theorem ccells_at : ∀ (l : List (Kc × Bool)) (k : Nat) (h : k < l.length) (j : Nat), j < 5 → (ccells l)[k * 5 + j]? = (cl5 l[k])[j]?
  | [], k, h, _, _ => absurd h (Nat.not_lt_zero _)
  | e :: t, 0, _, j, hj => by
    show (cl5 e ++ ccells t)[0 * 5 + j]? = (cl5 e)[j]?
    rw [List.getElem?_append_left (by simp [cl5]; omega)]
    congr 1; omega
  | e :: t, k + 1, h, j, hj => by
    have hkt : k < t.length := by simpa using h
    have := ccells_at t k hkt j hj
    show (cl5 e ++ ccells t)[(k + 1) * 5 + j]? = (cl5 t[k])[j]?
    rw [List.getElem?_append_right (by simp [cl5]; omega), ← this]
    congr 1
    simp [cl5]; omega
theorem ccells_one (l : List (Kc × Bool)) : ∀ u ∈ ccells l, u.oneCell' = true := by
  intro u hu
  unfold ccells at hu
  rw [List.mem_flatMap] at hu
  obtain ⟨e, _, he⟩ := hu
  simp [cl5] at he
  rcases he with rfl | rfl | rfl | rfl | rfl <;> rfl
/-- The document's queue, by value: two rows. -/
def RQ (w : World) (va vb : Value) (ws : List Wt) (l : List (Kc × Bool)) : Prop := w.ownsRow 0 73 4 va ws.length (wcells ws) ∧ w.ownsRow 0 146 5 vb l.length (ccells l)
/-- A row of now lies in what was held before, or in something new. -/
def Fr (w : World) (v v' : Value) : Prop := ∀ k, v'.ownBlock = some k → v.ownBlock = some k ∨ w.heap.size ≤ k
theorem Fr.own {w w1 : World} {B e sz n : Nat} {v v' : Value} {xs : List Value} (h : w1.ownsRow B e sz v' n xs) (hB : w.heap.size ≤ B) : Fr w v v' := by
  intro k hk
  obtain ⟨_, h⟩ := h
  rcases h with ⟨rfl, _⟩ | ⟨g, c, cs, rfl, hb, _⟩
  · simp [Value.ownBlock] at hk
  · simp [Value.ownBlock] at hk
    subst hk
    exact .inr (Nat.le_trans hB hb)
theorem Fr.up {w w0 : World} {v v' : Value} (h : Fr w0 v v') (hw : w.heap.size ≤ w0.heap.size) : Fr w v v' := fun k hk => (h k hk).imp id (fun h => Nat.le_trans hw h)
theorem RQ.no {w w1 : World} {va vb : Value} {ws : List Wt} {l : List (Kc × Bool)} (h : RQ w va vb ws l) (hk : Keeps noB w w1) : RQ w1 va vb ws l := ⟨own_keep_no h.1 hk, own_keep_no h.2 hk⟩
theorem row_slice {w : World} {B e sz n : Nat} {v : Value} {xs : List Value} (h : w.ownsRow B e sz v n xs) : ∃ a c, v = .slice a n c := by
  obtain ⟨_, h⟩ := h
  rcases h with ⟨rfl, h0⟩ | ⟨g, cap, cur, rfl, _⟩
  · exact ⟨none, 0, by rw [h0]⟩
  · exact ⟨_, _, rfl⟩
theorem RQ.slices {w : World} {va vb : Value} {ws : List Wt} {l : List (Kc × Bool)} (h : RQ w va vb ws l) : ∃ a c b d, va = .slice a ws.length c ∧ vb = .slice b l.length d := by
  obtain ⟨a, c, e⟩ := row_slice h.1
  obtain ⟨b, d, e2⟩ := row_slice h.2
  exact ⟨a, c, b, d, e, e2⟩
theorem RQ.wants {w : World} {va vb : Value} {ws : List Wt} {l : List (Kc × Bool)} (h : RQ w va vb ws l) : WtC w va ws := (WtR.of_own h.1).read
theorem RQ.wat {w : World} {a : Option Addr} {n c : Nat} {vb : Value} {ws : List Wt} {l : List (Kc × Bool)} (h : RQ w (.slice a n c) vb ws l) {i : Nat} (hi : i < ws.length) :
    ∃ g, a = some ⟨g, 0, none⟩ ∧ w.cell? ⟨g, i * 4, none⟩ = some (.int .i64 ws[i].c) ∧ w.cell? ⟨g, i * 4 + 1, none⟩ = some (.int .i64 ws[i].p) ∧ w.cell? ⟨g, i * 4 + 2, none⟩ = some (.int .i64 ws[i].o) ∧ w.cell? ⟨g, i * 4 + 3, none⟩ = some (.bool ws[i].w) := by
  obtain ⟨_, h⟩ := h.1
  rcases h with ⟨_, h0⟩ | ⟨g, cap, cur, e, _, hg, _, _, _, ht⟩
  · omega
  simp at e
  obtain ⟨rfl, _, rfl⟩ := e
  obtain ⟨g1, g2, g3, g4⟩ := wcells_at ws i hi
  rw [← ht, List.getElem?_take, if_pos (by omega), Array.getElem?_toList] at g1 g2 g3 g4
  exact ⟨g, rfl, blk_cell hg g1, blk_cell hg g2, blk_cell hg g3, blk_cell hg g4⟩
theorem RQ.cat {w : World} {b : Option Addr} {n c : Nat} {va : Value} {ws : List Wt} {l : List (Kc × Bool)} (h : RQ w va (.slice b n c) ws l) {i : Nat} (hi : i < l.length) :
    ∃ g, b = some ⟨g, 0, none⟩ ∧ w.cell? ⟨g, i * 5, none⟩ = some (.int .i64 l[i].1.h) ∧ w.cell? ⟨g, i * 5 + 1, none⟩ = some (.int .i64 l[i].1.p) ∧ w.cell? ⟨g, i * 5 + 2, none⟩ = some (.int .i64 l[i].1.o) ∧ w.cell? ⟨g, i * 5 + 3, none⟩ = some (.bool l[i].1.w) ∧ w.cell? ⟨g, i * 5 + 4, none⟩ = some (.bool l[i].2) := by
  obtain ⟨_, h⟩ := h.2
  rcases h with ⟨_, h0⟩ | ⟨g, cap, cur, e, _, hg, _, _, _, ht⟩
  · omega
  simp at e
  obtain ⟨rfl, _, rfl⟩ := e
  have hc : ∀ j, j < 5 → w.cell? ⟨g, i * 5 + j, none⟩ = (cl5 l[i])[j]? := fun j hj => by
    have g1 := ccells_at l i hi j hj
    rw [← ht, List.getElem?_take, if_pos (by omega), Array.getElem?_toList] at g1
    rw [cell_of_row w g _ cur 146 (0, 0) hg, g1]
  exact ⟨g, rfl, hc 0 (by omega), hc 1 (by omega), hc 2 (by omega), hc 3 (by omega), hc 4 (by omega)⟩
theorem right_q (x : Wt) (w : World) : Calls Try.prog 95 #[.agg #[.int .i64 x.c, .int .i64 x.p, .int .i64 x.o, .bool x.w]] w (RetK noB (.bool (rightB x)) w) := by
  obtain ⟨c, p, o, b⟩ := x
  have hkA : Keeps noB w (w.alloc (.cells #[.int .i64 c, .int .i64 p, .int .i64 o, .bool b] 73)) := (Keeps.refl _ _).alloc _
  unfold rightB
  simp only
  go_enter Try.func95, Try.ntmps95
  go_wp2_with fail
  all_goals go_ret
  all_goals exact retk_b (by rw [Bool.eq_iff_iff]; simp <;> omega) hkA
theorem take_mem {α : Type} {l : List α} {k : Nat} {x : α} (h : x ∈ l.take k) : ∃ i, ∃ hi : i < l.length, i < k ∧ l[i] = x := by
  rw [List.mem_take_iff_getElem] at h
  obtain ⟨i, hi, e⟩ := h
  exact ⟨i, by omega, by omega, e⟩
set_option maxRecDepth 100000 in
set_option maxHeartbeats 4000000 in
theorem waits_q {w : World} {va vb : Value} {ws : List Wt} {l : List (Kc × Bool)} (h : RQ w va vb ws l) (hl : ws.length ≤ 1000) (c : Int) : Calls Try.prog 96 #[.agg #[va, vb], .int .i64 c] w (RetK noB (.bool (decide (0 ≤ ofW c ws))) w) := by
  obtain ⟨a, n, b, d, rfl, rfl⟩ := h.slices
  have hk0 : Keeps noB w (w.alloc (.cells #[.slice a ws.length n, .slice b l.length d] 85)) := (Keeps.refl _ _).alloc _
  have H := Lib.hid (And.intro h hk0)
  clear h hk0
  obtain ⟨res, hres⟩ : ∃ r, r = decide (0 ≤ ofW c ws) := ⟨_, rfl⟩
  rw [← hres]
  have HR := Lib.hid hres
  clear hres
  go_enter Try.func96, Try.ntmps96
  go_wp2_with fail
  go_loopw [10] (fun i wr => ∃ k : Nat, k ≤ ws.length ∧ i = .int .i64 k ∧ Keeps noB w wr ∧ ∀ i (hi : i < ws.length), i < k → (ws[i].c == c) = false) (fun i _ => ws.length - (intOf i).toNat)
  case atStart => exact ⟨0, by omega, rfl, H.out.2, fun i hi h => by omega⟩
  case round =>
    obtain ⟨k, hk, rfl, hkp, hall⟩ := hrel
    have HA := Lib.hid hall
    clear hall
    by_cases hlt : k < ws.length
    · obtain ⟨g, rfl, c0, c1, c2, c3⟩ := (H.out.1.no hkp).wat hlt
      have HW := Lib.hid (rfl : ws[k].c = ws[k].c)
      obtain ⟨x, hx⟩ : ∃ x, x = ws[k] := ⟨_, rfl⟩
      rw [← hx] at c0 c1 c2 c3
      have HX := Lib.hid hx
      clear hx HW
      obtain ⟨xc, xp, xo, xw⟩ := x
      simp only at c0 c1 c2 c3
      cases e : (xc == c)
      · go_wp2_with fail
        refine ⟨⟨k + 1, by omega, by go_num, hkp.alloc _, fun i hi h => ?_⟩, by simp [intOf]; omega⟩
        by_cases e2 : i = k
        · subst e2; rw [← HX.out]; exact e
        · exact HA.out i hi (by omega)
      · go_wp2_with fail
        go_ret
        refine ⟨?_, hkp.alloc _⟩
        have : ofW c ws = k := ofW_some hlt (fun x hx => by
          obtain ⟨i, hi, h1, rfl⟩ := take_mem hx
          exact HA.out i hi h1) (by rw [← HX.out]; exact e)
        rw [HR.out, this]
        rw [decide_eq_true (by omega)]; rfl
    · have : k = ws.length := by omega
      have HK := Lib.hid this
      clear this
      go_wp2_with fail
      go_ret
      refine ⟨?_, hkp⟩
      have : ofW c ws = -1 := ofW_none (fun x hx => by
        obtain ⟨i, hi, rfl⟩ := List.getElem_of_mem hx
        exact HA.out i hi (by omega))
      rw [HR.out, this]; rfl
/-- The place of a call; -1: there is none. -/
def kidx (k : Kc) (l : List (Kc × Bool)) : Int := match kfind k l 0 with | some x => (x.1 : Int) | none => -1
theorem kfind_hit {key : Kc} : ∀ {l : List (Kc × Bool)} {k : Nat} (i : Nat) (hk : k < l.length), (∀ j (hj : j < l.length), j < k → ¬ l[j].1 = key) → l[k].1 = key → kfind key l i = some (i + k, l[k].2)
  | x :: r, 0, i, _, _, he => by unfold kfind; rw [if_pos (by simpa using he.symm)]; rfl
  | x :: r, k + 1, i, hk, hno, he => by
    unfold kfind
    rw [if_neg (fun e => hno 0 (by simp) (by omega) (by simpa using e.symm))]
    rw [kfind_hit (i + 1) (by simpa using hk) (fun j hj h => by have := hno (j + 1) (by simpa using hj) (by omega); simpa using this) (by simpa using he)]
    simp; omega
theorem kfind_miss {key : Kc} : ∀ {l : List (Kc × Bool)} (i : Nat), (∀ j (hj : j < l.length), ¬ l[j].1 = key) → kfind key l i = none
  | [], _, _ => rfl
  | x :: r, i, hno => by
    unfold kfind
    rw [if_neg (fun e => hno 0 (by simp) (by simpa using e.symm))]
    exact kfind_miss (i + 1) (fun j hj => by have := hno (j + 1) (by simpa using hj); simpa using this)
theorem kidx_hit {key : Kc} {l : List (Kc × Bool)} {k : Nat} (hk : k < l.length) (h : ∀ j (hj : j < l.length), j < k → ¬ l[j].1 = key) (he : l[k].1 = key) : kidx key l = k := by
  unfold kidx; rw [kfind_hit 0 hk h he]; simp
theorem kidx_miss {key : Kc} {l : List (Kc × Bool)} (h : ∀ j (hj : j < l.length), ¬ l[j].1 = key) : kidx key l = -1 := by
  unfold kidx; rw [kfind_miss 0 h]
set_option maxRecDepth 100000 in
set_option maxHeartbeats 4000000 in
theorem find_q {w : World} {va vb : Value} {ws : List Wt} {l : List (Kc × Bool)} (h : RQ w va vb ws l) (hl : l.length ≤ 1000) (hh pp oo : Int) (bb : Bool) : Calls Try.prog 97 #[.agg #[va, vb], .int .i64 hh, .int .i64 pp, .int .i64 oo, .bool bb] w (RetK noB (.int .i64 (kidx ⟨hh, pp, oo, bb⟩ l)) w) := by
  obtain ⟨a, n, b, d, rfl, rfl⟩ := h.slices
  have hk0 : Keeps noB w (w.alloc (.cells #[.slice a ws.length n, .slice b l.length d] 85)) := (Keeps.refl _ _).alloc _
  have H := Lib.hid (And.intro h hk0)
  clear h hk0
  obtain ⟨res, hres⟩ : ∃ r, r = kidx ⟨hh, pp, oo, bb⟩ l := ⟨_, rfl⟩
  rw [← hres]
  have HR := Lib.hid hres
  clear hres
  go_enter Try.func97, Try.ntmps97
  go_wp2_with fail
  go_loopw [16] (fun i wr => ∃ k : Nat, k ≤ l.length ∧ i = .int .i64 k ∧ Keeps noB w wr ∧ ∀ j (hj : j < l.length), j < k → ¬ l[j].1 = ⟨hh, pp, oo, bb⟩) (fun i _ => l.length - (intOf i).toNat)
  case atStart => exact ⟨0, by omega, rfl, H.out.2, fun i hi h => by omega⟩
  case round =>
    obtain ⟨k, hk, rfl, hkp, hall⟩ := hrel
    have HA := Lib.hid hall
    clear hall
    by_cases hlt : k < l.length
    · obtain ⟨g, rfl, c0, c1, c2, c3, c4⟩ := (H.out.1.no hkp).cat hlt
      obtain ⟨x, hx⟩ : ∃ x, x = l[k] := ⟨_, rfl⟩
      rw [← hx] at c0 c1 c2 c3 c4
      have HX := Lib.hid hx
      clear hx
      obtain ⟨⟨xh, xp, xo, xw⟩, xb⟩ := x
      simp only at c0 c1 c2 c3 c4
      have hnext : ¬ (⟨xh, xp, xo, xw⟩ : Kc) = ⟨hh, pp, oo, bb⟩ → ∀ j (hj : j < l.length), j < k + 1 → ¬ l[j].1 = ⟨hh, pp, oo, bb⟩ := fun hne j hj hlt2 => by
        by_cases e2 : j = k
        · subst e2; rw [← HX.out]; exact hne
        · exact HA.out j hj (by omega)
      have HNX := Lib.hid hnext
      clear hnext
      cases e1 : (xh == hh)
      · go_wp2_with fail
        exact ⟨⟨k + 1, by omega, by go_num, hkp.alloc _, HNX.out (fun e => by injection e with e2; subst e2; simp at e1)⟩, by simp [intOf]; omega⟩
      · cases e2 : (xp == pp)
        · go_wp2_with fail
          exact ⟨⟨k + 1, by omega, by go_num, hkp.alloc _, HNX.out (fun e => by injection e with _ e3; subst e3; simp at e2)⟩, by simp [intOf]; omega⟩
        · cases e3 : (xo == oo)
          · go_wp2_with fail
            exact ⟨⟨k + 1, by omega, by go_num, hkp.alloc _, HNX.out (fun e => by injection e with _ _ e4; subst e4; simp at e3)⟩, by simp [intOf]; omega⟩
          · cases e4 : (xw == bb)
            · go_wp2_with fail
              exact ⟨⟨k + 1, by omega, by go_num, hkp.alloc _, HNX.out (fun e => by injection e with _ _ _ e5; subst e5; simp at e4)⟩, by simp [intOf]; omega⟩
            · have hkey : (⟨xh, xp, xo, xw⟩ : Kc) = ⟨hh, pp, oo, bb⟩ := by
                rw [beq_iff_eq.1 e1, beq_iff_eq.1 e2, beq_iff_eq.1 e3, beq_iff_eq.1 e4]
              have HKY := Lib.hid hkey
              clear hkey
              go_wp2_with fail
              go_ret
              refine ⟨?_, hkp.alloc _⟩
              have : kidx ⟨hh, pp, oo, bb⟩ l = k := kidx_hit hlt (fun j hj h => HA.out j hj h) (by rw [← HX.out]; exact HKY.out)
              rw [HR.out, this]; rfl
    · have : k = l.length := by omega
      have HK := Lib.hid this
      clear this
      go_wp2_with fail
      go_ret
      refine ⟨?_, hkp⟩
      have : kidx ⟨hh, pp, oo, bb⟩ l = -1 := kidx_miss (fun j hj => HA.out j hj (by omega))
      rw [HR.out, this]; rfl
theorem kidx_lt {key : Kc} {l : List (Kc × Bool)} : -1 ≤ kidx key l ∧ kidx key l < l.length := by
  unfold kidx
  cases e : kfind key l 0 with
  | none => simp; omega
  | some x =>
    obtain ⟨_, h1, _⟩ := kfind_some (i := 0) (j := x.1) (b := x.2) e
    simp
    have : x.1 - 0 < l.length := h1
    omega
theorem kfind_first {key : Kc} : ∀ {l : List (Kc × Bool)} {i : Nat} {x : Nat × Bool}, kfind key l i = some x → ∀ j (hj : j < l.length), i + j < x.1 → ¬ l[j].1 = key
  | [], i, x, h, j, hj, _, _ => absurd hj (by simp)
  | y :: r, i, x, h, j, hj, hlt, he => by
    unfold kfind at h
    by_cases e : key = y.1
    · rw [if_pos e] at h
      simp at h
      subst h
      simp at hlt
      omega
    · rw [if_neg e] at h
      cases j with
      | zero => exact e (by simpa using he.symm)
      | succ j => exact kfind_first h j (by simpa using hj) (by omega) (by simpa using he)
/-- What is found. -/
theorem kidx_some {key : Kc} {l : List (Kc × Bool)} {i : Nat} (h : kidx key l = i) : ∃ hi : i < l.length, l[i].1 = key ∧ kget key l = some l[i].2 ∧ kfind key l 0 = some (i, l[i].2) := by
  unfold kidx at h
  cases e : kfind key l 0 with
  | none => rw [e] at h; simp at h
  | some x =>
    rw [e] at h
    obtain ⟨_, h1, h2, _⟩ := kfind_some (i := 0) (j := x.1) (b := x.2) e
    simp only [Nat.sub_zero] at h1 h2
    have h' : x.1 = i := by have h3 : ((x.1 : Nat) : Int) = (i : Int) := h; omega
    subst h'
    have hh := kfind_hit (key := key) (l := l) (k := x.1) 0 h1
    have hx2 : x.2 = l[x.1].2 := by
      have hmin : ∀ j (hj : j < l.length), j < x.1 → ¬ l[j].1 = key := fun j hj hlt he => by
        exact kfind_first e j hj (by omega) he
      have := hh hmin h2
      rw [e] at this
      simp at this
      have := congrArg Prod.snd this
      simpa using this
    exact ⟨h1, h2, by unfold kget; rw [e]; simp [hx2], by rw [← hx2]⟩
theorem kidx_none {key : Kc} {l : List (Kc × Bool)} (h : kidx key l < 0) : kfind key l 0 = none ∧ kget key l = none := by
  unfold kidx at h
  cases e : kfind key l 0 with
  | none => exact ⟨rfl, by unfold kget; rw [e]; rfl⟩
  | some x => rw [e] at h; simp at h; omega
end Go.Proofs.Ytlpimkmkcfbddaa
