/- The document's queue: called, out; appends of rows. No condition. -/
import Derived.Test.YtlpimkmkcfbddaaQrA
import Derived.Laws.AppendOwnNone
namespace Go.Proofs.Ytlpimkmkcfbddaa
open Go.RowKit

set_option maxRecDepth 100000 in
set_option maxHeartbeats 4000000 in
theorem called_q {w : World} {va vb : Value} {ws : List Wt} {l : List (Kc × Bool)} (h : RQ w va vb ws l) (hl : l.length ≤ 1000) (hh : Int) (x : Wt) : Calls Try.prog 64 #[.agg #[va, vb], .int .i64 hh, .agg #[.int .i64 x.c, .int .i64 x.p, .int .i64 x.o, .bool x.w]] w (RetK noB (.tuple #[.bool (kget (keyOf hh x) l).isSome, .bool ((kget (keyOf hh x) l).getD false)]) w) := by
  obtain ⟨xc, xp, xo, xw⟩ := x
  simp only [keyOf]
  obtain ⟨a, n, b, d, rfl, rfl⟩ := h.slices
  have hk0 : Keeps noB w ((w.alloc (.cells #[.slice a ws.length n, .slice b l.length d] 85)).alloc (.cells #[.int .i64 xc, .int .i64 xp, .int .i64 xo, .bool xw] 73)) := ((Keeps.refl _ _).alloc _).alloc _
  have hF := find_q (h.no hk0) hl hh xp xo xw
  have hb := kidx_lt (key := ⟨hh, xp, xo, xw⟩) (l := l)
  have H := Lib.hid (And.intro h hk0)
  clear h hk0
  by_cases hneg : kidx ⟨hh, xp, xo, xw⟩ l < 0
  · obtain ⟨_, hg⟩ := kidx_none hneg
    have hi : kidx ⟨hh, xp, xo, xw⟩ l = -1 := by omega
    rw [hi] at hF
    rw [hg]
    clear hi hg hneg hb
    simp only [Option.isSome_none, Option.getD_none]
    go_enter Try.func64, Try.ntmps64
    go_wp2_with (go_at_call 97; refine hF.mono ?_; rintro e w1 ⟨rfl, hk1⟩)
    go_ret2
    exact ⟨rfl, H.out.2.trans_no hk1⟩
  · obtain ⟨i, hi⟩ : ∃ i : Nat, kidx ⟨hh, xp, xo, xw⟩ l = i := ⟨(kidx ⟨hh, xp, xo, xw⟩ l).toNat, by omega⟩
    obtain ⟨hil, hkey, hg, hkf⟩ := kidx_some hi
    rw [hi] at hF
    rw [hg]
    simp only [Option.isSome_some, Option.getD_some]
    obtain ⟨u, hu⟩ : ∃ u, u = l[i].2 := ⟨_, rfl⟩
    rw [← hu]
    have HU := Lib.hid (And.intro hu hil)
    have i0 : (0 : Int) ≤ (i : Int) := by omega
    have i1 : (i : Int) < (l.length : Int) := by omega
    have d0 : decide ((i : Int) < 0) = false := decide_eq_false (by omega)
    clear hi hkey hg hneg hb hu hkf
    go_enter Try.func64, Try.ntmps64
    go_upto_region 4 with (go_at_call 97; refine hF.mono ?_; rintro e w1 ⟨rfl, hk1⟩)
    have hq := H.out.1.no (H.out.2.trans_no hk1)
    obtain ⟨g, rfl, _, _, _, _, c4⟩ := hq.cat HU.out.2
    rw [← HU.out.1] at c4
    have hB : w1.heap[w.heap.size]? = some (.cells #[.slice a ws.length n, .slice (some ⟨g, 0, none⟩) l.length d] 85 (0, 0)) := hk1.blk (((Keeps.refl noB _).alloc _).blk (heap_alloc_new w (.cells #[.slice a ws.length n, .slice (some ⟨g, 0, none⟩) l.length d] 85)) (noB_not _)) (noB_not _)
    have y1 := blk_cell hB (i := 1) rfl
    have HK := Lib.hid (H.out.2.trans_no hk1)
    clear hB hq hk1
    go_quiet (fail)
    go_wp2_with fail
    go_ret2
    exact ⟨rfl, HK.out.drewN _⟩
set_option maxRecDepth 100000 in
set_option maxHeartbeats 4000000 in
theorem out_q {w : World} {va vb : Value} {ws : List Wt} {l : List (Kc × Bool)} (h : RQ w va vb ws l) (hl : l.length ≤ 1000) (hh pp : Int) : Calls Try.prog 66 #[.agg #[va, vb], .int .i64 hh, .int .i64 pp] w (RetK noB (.bool (outB hh pp l)) w) := by
  obtain ⟨a, n, b, d, rfl, rfl⟩ := h.slices
  have hk0 : Keeps noB w (w.alloc (.cells #[.slice a ws.length n, .slice b l.length d] 85)) := (Keeps.refl _ _).alloc _
  have H := Lib.hid (And.intro h hk0)
  clear h hk0
  obtain ⟨res, hres⟩ : ∃ r, r = outB hh pp l := ⟨_, rfl⟩
  rw [← hres]
  have HR := Lib.hid hres
  clear hres
  go_enter Try.func66, Try.ntmps66
  go_wp2_with fail
  go_loopw [12] (fun i wr => ∃ k : Nat, k ≤ l.length ∧ i = .int .i64 k ∧ Keeps noB w wr ∧ ∀ j (hj : j < l.length), j < k → outP hh pp l[j] = false) (fun i _ => l.length - (intOf i).toNat)
  case atStart => exact ⟨0, by omega, rfl, H.out.2, fun i hi h => by omega⟩
  case round =>
    obtain ⟨k, hk, rfl, hkp, hall⟩ := hrel
    have HA := Lib.hid hall
    clear hall
    by_cases hlt : k < l.length
    · obtain ⟨g, rfl, c0, c1, c2, c3, c4⟩ := (H.out.1.no hkp).cat hlt
      obtain ⟨x, hx⟩ : ∃ x, x = l[k] := ⟨_, rfl⟩
      rw [← hx] at c0 c1 c2 c3 c4
      have HX := Lib.hid hx
      clear hx
      obtain ⟨⟨xh, xp, xo, xw⟩, xb⟩ := x
      simp only at c0 c1 c2 c3 c4
      have hnext : outP hh pp (⟨xh, xp, xo, xw⟩, xb) = false → ∀ j (hj : j < l.length), j < k + 1 → outP hh pp l[j] = false := fun hne j hj hlt2 => by
        by_cases e2 : j = k
        · subst e2; rw [← HX.out]; exact hne
        · exact HA.out j hj (by omega)
      have HNX := Lib.hid hnext
      clear hnext
      cases e1 : (xh == hh)
      · go_wp2_with fail
        exact ⟨⟨k + 1, by omega, by go_num, hkp.alloc _, HNX.out (by show (xh == hh && (xp == pp && !xb)) = false; rw [e1]; rfl)⟩, by simp [intOf]; omega⟩
      · cases e2 : (xp == pp)
        · go_wp2_with fail
          exact ⟨⟨k + 1, by omega, by go_num, hkp.alloc _, HNX.out (by show (xh == hh && (xp == pp && !xb)) = false; rw [e1, e2]; rfl)⟩, by simp [intOf]; omega⟩
        · cases xb
          · have hp : outP hh pp l[k] = true := by rw [← HX.out]; show (xh == hh && (xp == pp && !false)) = true; rw [e1, e2]; rfl
            have HP := Lib.hid hp
            clear hp
            go_wp2_with fail
            go_ret
            refine ⟨?_, hkp.alloc _⟩
            have : outB hh pp l = true := List.any_eq_true.2 ⟨_, List.getElem_mem hlt, HP.out⟩
            rw [HR.out, this]; rfl
          · go_wp2_with fail
            exact ⟨⟨k + 1, by omega, by go_num, hkp.alloc _, HNX.out (by show (xh == hh && (xp == pp && !true)) = false; rw [e1, e2]; rfl)⟩, by simp [intOf]; omega⟩
    · have : k = l.length := by omega
      have HK := Lib.hid this
      clear this
      go_wp2_with fail
      go_ret
      refine ⟨?_, hkp⟩
      have : outB hh pp l = false := by
        unfold outB
        rw [List.any_eq_false]
        intro x hx
        obtain ⟨i, hi, rfl⟩ := List.getElem_of_mem hx
        rw [HA.out i hi (by omega)]
        decide
      rw [HR.out, this]; rfl
/-- What is appended: a row that may be read whole, or nothing. -/
def SrcR (w : World) (u : Value) (e : TypeId) (sz m : Nat) (ys : List Value) : Prop :=
  (u = .slice none 0 0 ∧ m = 0 ∧ ys = []) ∨ ∃ g off c cur fr, u = .slice (some ⟨g, off, none⟩) m c ∧ w.heap[g]? = some (.cells cur e fr) ∧ ys.length = m * sz ∧ ∀ j, j < m * sz → cur[off + j]? = ys[j]?
theorem SrcR.of_own {w : World} {B e sz n : Nat} {v : Value} {xs : List Value} (h : w.ownsRow B e sz v n xs) : SrcR w v e sz n xs := by
  obtain ⟨h0, h⟩ := h
  rcases h with ⟨rfl, rfl⟩ | ⟨g, cap, cur, rfl, _, hg, _, _, _, ht⟩
  · exact .inl ⟨rfl, rfl, List.length_eq_zero_iff.1 (by omega)⟩
  · refine .inr ⟨g, 0, cap, cur, _, rfl, hg, h0, fun j hj => ?_⟩
    rw [Nat.zero_add, ← ht, List.getElem?_take, if_pos (by omega), Array.getElem?_toList]
theorem SrcR.no {w w1 : World} {u : Value} {e sz m : Nat} {ys : List Value} (h : SrcR w u e sz m ys) (hk : Keeps noB w w1) : SrcR w1 u e sz m ys :=
  h.imp id (fun ⟨g, off, c, cur, fr, h1, h2, h3⟩ => ⟨g, off, c, cur, fr, h1, hk.blk h2 (noB_not _), h3⟩)
theorem run_append_src {w : World} (t ty e : TypeId) (i : TypeInfo) (z : Value) (sz bytes : Nat) (ht : Try.prog.underlying t = some (.slice e)) (hi : Try.prog.info? e = some i) (hz0 : i.zero = some z) (hz1 : i.size = sz) (hz2 : i.bytes = bytes) (hzs : z.cells.size = sz) (hpos : 0 < sz)
    {B n m : Nat} {v u : Value} {xs ys : List Value} (hown : w.ownsRow B e sz v n xs) (hs : SrcR w u e sz m ys) (hone : ∀ u ∈ ys, u.oneCell' = true) (hn : n + m ≤ 100000) (hb : bytes ≤ 1000) (hB : B ≤ w.heap.size) :
    ∃ v' w', (Builtin.append_ #[t, t] ty #[v, u]).run Try.prog w = .ok v' w' ∧ w'.ownsRow B e sz v' (n + m) (xs ++ ys) ∧ w.grownBy w' v.ownBlock ∧ (v'.ownBlock = v.ownBlock ∨ v'.ownBlock = some w.heap.size) := by
  rcases hs with ⟨rfl, rfl, rfl⟩ | ⟨g, off, c, cur, fr, rfl, hg, hl, hc⟩
  · have hrun : (Builtin.append_ #[t, t] ty #[v, .slice none 0 0]).run Try.prog w = .ok v w := by
      rcases hown.2 with ⟨rfl, rfl⟩ | ⟨g, cap, cur, rfl, _, _, hnc, _⟩
      · simp [Builtin.append_, run_underlying ht, sizeOf, typeInfo, hi, Builtin.lenOf, Builtin.firstCells]
      · simp [Builtin.append_, run_underlying ht, sizeOf, typeInfo, hi, Builtin.lenOf, Builtin.firstCells, hnc, storeCells]
    exact ⟨v, w, hrun, by simpa using hown, ⟨rfl, rfl, rfl, Nat.le_refl _, fun _ _ _ => rfl⟩, .inl rfl⟩
  · obtain ⟨v', w', hr, h1, h2, _, h5⟩ := run_append_own_at (P := Try.prog) w B t ty e i z sz bytes ht hi hz0 hz1 hz2 hzs hpos v n xs hown ⟨g, off, none⟩ m c ys hl
      (fun j u' hj => by
        have hadd : (⟨g, off, none⟩ : Addr).add j = ⟨g, off + j, none⟩ := by unfold Addr.add; split <;> simp_all
        have hjl := (List.getElem?_eq_some_iff.1 hj).1
        rw [hadd]
        exact blk_cell hg (by rw [← hj]; exact hc j (by omega)))
      hone (by unfold maxLen; omega) (by have := Nat.mul_le_mul hn hb; omega) hB
    exact ⟨v', w', hr, h1, h2, h5⟩
/-- An append by its run. -/
theorem wpList_append_run {w : World} {ops : Array Oper} {rest : List Oper} {o : Oper} {a : Act} {Q : Exit → Act → World → Prop} (hg : o.guard = none) (s x : Operand) (t ty : TypeId)
    (ho : o.op = Op.call { callee := Callee.builtin Builtin.append, args := #[s, x], argTypes := #[t, t] }) (hty : o.type = ty) (v u : Value) (hv : a.eval s = v) (hx : a.eval x = u) (v' : Value) (w' : World)
    (hr : (Builtin.append_ #[t, t] ty #[v, u]).run Try.prog w = .ok v' w') (h : wpList Try.prog ops Q rest (a.put o.dst v') w') : wpList Try.prog ops Q (o :: rest) a w := by
  refine wpList_plain hg fun K hK => ?_
  unfold Oper.wp execOp
  simp only [ho, hty, resolve, invoke, builtin, Sem.run_bind, Sem.run_pure, Result.andThen_ok, List.map_toArray, List.map_cons, List.map_nil, hv, hx, hr]
  exact hK _ _ h
end Go.Proofs.Ytlpimkmkcfbddaa
