/- Packets of one end go to the other: plain law. No condition. -/
import Derived.Test.YtoeikgaikdbpbaaLkRel
namespace Go.Proofs.Ytoeikgaikdbpbaa
open Go.RowKit

theorem step_append_byg {w : World} {ops : Array Oper} {o : Oper} {a : Act} {K : Act → World → Prop} {Q : Exit → Act → World → Prop} {E : Prop} (hw : Region.wanted o (yielded ops a.tmps) = true) (s x : Operand)
    (ho : o.op = Op.call { callee := Callee.builtin Builtin.append, args := #[s, x], argTypes := #[22, 22] }) (base : Nat) (v : Value) (n : Nat) (xs : List Value) (hv : a.eval s = v) (hown : w.ownsRow base 5 1 v n xs)
    (b : Option Addr) (m : List Int) (c : Nat) (D : Nat → Prop) (hx : a.eval x = Value.slice b m.length c) (he : ByR w D b m) (hn : n + m.length ≤ 140737488351232) (hbase : base ≤ w.heap.size)
    (h : ∀ (v' : Value) (w' : World), w'.ownsRow base 5 1 v' (n + m.length) (xs ++ bcells m) → w.grownBy w' v.ownBlock → K (a.put o.dst v') w') : if Region.wanted o (yielded ops a.tmps) = true then Oper.wp Try.prog o a w K Q else E := by
  rw [if_pos hw]
  obtain ⟨i1, hi, hz0, hz1, hz2⟩ := info_parts info5
  cases b with
  | none =>
    have := he.nil
    subst this
    have hrun : (Builtin.append_ #[22, 22] o.type #[v, .slice none 0 c]).run Try.prog w = .ok v w := by
      rcases hown.2 with ⟨rfl, rfl⟩ | ⟨g, cap, cur, rfl, _, _, hnc, _⟩
      · simp [Builtin.append_, run_underlying Try.underlying22, sizeOf, typeInfo, hi, Builtin.lenOf, Builtin.firstCells]
      · simp [Builtin.append_, run_underlying Try.underlying22, sizeOf, typeInfo, hi, Builtin.lenOf, Builtin.firstCells, hnc, storeCells]
    simp only [List.length_nil] at hx
    have h' := h v w (by simpa [bcells] using hown) ⟨rfl, rfl, rfl, Nat.le_refl _, fun _ _ _ => rfl⟩
    unfold Oper.wp
    simp [execOp, ho, resolve, invoke, builtin, hv, hx, hrun, Result.andThen]
    exact h'
  | some ad =>
    refine wp_append_own w s x 22 ho base 5 i1 (.int .u8 0) 1 1 Try.underlying22 hi hz0 hz1 hz2 rfl (by decide) v n xs hv hown ad m.length c (bcells m) hx (bcells_len m) he.news (bcells_one m) ?_ ?_ hbase ?_
    · unfold maxLen; omega
    · omega
    · intro v' w' h1 h2 _
      exact h v' w' h1 h2
/-- What x packs, as a packet. -/
def exQ (X : Lk) (x : Int × List Int) : Pq := ⟨X.c, X.e, X.b, x.1, X.heard, X.v, x.2⟩
def exStep (X : Lk) (s : Lk × Int) (x : Int × List Int) : Lk × Int := (s.1.got (exQ X x), if s.1.takes (exQ X x) then s.2 + 1 else s.2)
def exRun (X : Lk) (Y : Lk) (n : Int) (ps : List (Int × List Int)) : Lk × Int := ps.foldl (exStep X) (Y, n)
theorem exRun_succ (X Y : Lk) (n : Int) (ps : List (Int × List Int)) (i : Nat) (h : i < ps.length) : exRun X Y n (ps.take (i + 1)) = exStep X (exRun X Y n (ps.take i)) ps[i] := by
  unfold exRun
  rw [List.take_succ_eq_append_getElem h, List.foldl_append]
  rfl
theorem exRun_n (X Y : Lk) (n : Int) (ps : List (Int × List Int)) : n ≤ (exRun X Y n ps).2 ∧ (exRun X Y n ps).2 ≤ n + ps.length := by
  unfold exRun
  induction ps generalizing Y n with
  | nil => simp
  | cons x r ih =>
    simp only [List.foldl_cons, List.length_cons]
    have hst : exStep X (Y, n) x = (Y.got (exQ X x), if Y.takes (exQ X x) then n + 1 else n) := rfl
    rw [hst]
    have := ih (Y.got (exQ X x)) (if Y.takes (exQ X x) then n + 1 else n)
    generalize (List.foldl (exStep X) (Y.got (exQ X x), if Y.takes (exQ X x) then n + 1 else n) r).2 = z at *
    by_cases e : Y.takes (exQ X x) = true
    · simp only [e, if_true] at this; omega
    · simp only [e] at this; simp at this; omega
/-- The numbers follow one another from h on. -/
def seqs (h : Int) : List (Int × List Int) → Prop
  | [] => True
  | x :: r => x.1 = h + 1 ∧ seqs (h + 1) r
/-- May packets of X come to Y, and is each the next one? -/
structure PassOK (X Y : Lk) : Prop where
  c : X.c = Y.c
  e : X.e = Y.e
  b : X.b = Y.b
  v : X.v ≠ Y.v
  ack : X.heard ≤ Y.sent
  sq : seqs Y.heard (X.L.map fun t => (t.s, t.l))
  h0 : 0 ≤ Y.heard
def Lk.pass (X Y : Lk) : Lk := { Y with L := kept X.heard Y.L, heard := Y.heard + X.L.length }
theorem kept_kept (c : Int) (L : List It) : kept c (kept c L) = kept c L := by simp [kept]
theorem mine_pass {X Y : Lk} (h : PassOK X Y) (L : List It) (hd : Int) (x : Int × List Int) : ({ Y with L := L, heard := hd } : Lk).mine (exQ X x) = true := by
  unfold Lk.mine mineB exQ
  simp only
  rw [h.c, h.e, h.b]
  have := h.ack
  have hv := h.v
  simp [this]
  exact hv
theorem exRun_seq {X Y : Lk} (h : PassOK X Y) : ∀ (ps : List (Int × List Int)) (hd : Int) (n : Int), 0 ≤ hd → seqs hd ps → exRun X { Y with L := kept X.heard Y.L, heard := hd } n ps = ({ Y with L := kept X.heard Y.L, heard := hd + ps.length }, n + ps.length)
  | [], hd, n, _, _ => by simp [exRun]
  | x :: r, hd, n, h0, hs => by
    have hm := mine_pass h (kept X.heard Y.L) hd x
    have e1 : ({ Y with L := kept X.heard Y.L, heard := hd } : Lk).got (exQ X x) = { Y with L := kept X.heard Y.L, heard := hd + 1 } := by
      unfold Lk.got
      rw [hm]
      have hx := hs.1
      simp only [if_true, exQ, kept_kept, hx]
      rw [if_pos (by omega)]
    have e2 : ({ Y with L := kept X.heard Y.L, heard := hd } : Lk).takes (exQ X x) = true := by
      unfold Lk.takes
      rw [hm]
      have hx := hs.1
      simp only [exQ, hx, Bool.true_and]
      exact decide_eq_true (by omega)
    have ih := exRun_seq h r (hd + 1) (n + 1) (by omega) hs.2
    unfold exRun at ih ⊢
    simp only [List.foldl_cons, List.length_cons]
    rw [show exStep X ({ Y with L := kept X.heard Y.L, heard := hd }, n) x = ({ Y with L := kept X.heard Y.L, heard := hd + 1 }, n + 1) by unfold exStep; simp only [e1, e2, if_true], ih]
    rw [show hd + 1 + (r.length : Int) = hd + ((r.length + 1 : Nat) : Int) by omega, show n + 1 + (r.length : Int) = n + ((r.length + 1 : Nat) : Int) by omega]
theorem exRun_pass {X Y : Lk} (h : PassOK X Y) (n : Int) : exRun X Y n X.pks = (X.pass Y, n + X.L.length) := by
  have hmY : ∀ x, Y.mine (exQ X x) = true := fun x => mine_pass h Y.L Y.heard x
  unfold Lk.pks
  by_cases e : X.L = []
  · rw [if_pos e]
    unfold exRun Lk.pass
    simp only [List.foldl_cons, List.foldl_nil, exStep, Lk.got, Lk.takes, hmY, if_true, e]
    simp [exQ]
  · rw [if_neg e]
    have hs := h.sq
    have hl : (X.L.map fun t => (t.s, t.l)).length = X.L.length := by simp
    generalize (X.L.map fun t => (t.s, t.l)) = ps at *
    match ps, hs, hl with
    | [], _, hl => exact absurd (List.length_eq_zero_iff.1 hl.symm) e
    | x :: r, hs, hl =>
      have e1 : Y.got (exQ X x) = { Y with L := kept X.heard Y.L, heard := Y.heard + 1 } := by
        unfold Lk.got
        rw [hmY]
        have hx := hs.1
        have h0 := h.h0
        simp only [if_true, exQ, hx]
        rw [if_pos (by omega)]
      have e2 : Y.takes (exQ X x) = true := by
        unfold Lk.takes
        rw [hmY]
        have hx := hs.1
        have h0 := h.h0
        simp only [exQ, hx, Bool.true_and]
        exact decide_eq_true (by omega)
      have ih := exRun_seq h r (Y.heard + 1) (n + 1) (by have := h.h0; omega) hs.2
      unfold exRun at ih ⊢
      simp only [List.foldl_cons]
      rw [show exStep X (Y, n) x = ({ Y with L := kept X.heard Y.L, heard := Y.heard + 1 }, n + 1) by unfold exStep; simp only [e1, e2, if_true], ih]
      unfold Lk.pass
      simp only [List.length_cons] at hl
      rw [show Y.heard + 1 + (r.length : Int) = Y.heard + (X.L.length : Int) by omega, show n + 1 + (r.length : Int) = n + (X.L.length : Int) by omega]

/-- Two ends of which all that was told is known. -/
structure Good (A B : Lk) (told sent : Int) : Prop where
  c : A.c = B.c
  e : A.e = B.e
  b : A.b = B.b
  va : A.v = false
  vb : B.v = true
  sa : seqs B.heard (A.L.map fun t => (t.s, t.l))
  sb : seqs A.heard (B.L.map fun t => (t.s, t.l))
  na : A.sent = B.heard + A.L.length
  nb : B.sent = A.heard + B.L.length
  ha : 0 ≤ A.heard
  hb : 0 ≤ B.heard
  told : told = A.heard + B.heard
  sent : sent = A.sent + B.sent
theorem seqs_keep : ∀ (ps : List (Int × List Int)) (h a : Int), seqs h ps → a ≤ h → ps.filter (fun x => decide (a < x.1)) = ps
  | [], _, _, _, _ => rfl
  | x :: r, h, a, hs, ha => by
    have := hs.1
    rw [List.filter_cons_of_pos (by simp; omega), seqs_keep r (h + 1) a hs.2 (by omega)]
theorem seqs_drop : ∀ (ps : List (Int × List Int)) (h a : Int), seqs h ps → h + ps.length ≤ a → ps.filter (fun x => decide (a < x.1)) = []
  | [], _, _, _, _ => rfl
  | x :: r, h, a, hs, ha => by
    have := hs.1
    simp only [List.length_cons] at ha
    rw [List.filter_cons_of_neg (by simp; omega), seqs_drop r (h + 1) a hs.2 (by omega)]
theorem kept_seq {h a : Int} {L : List It} (hs : seqs h (L.map fun t => (t.s, t.l))) (ha : a ≤ h) : kept a L = L := by
  have h1 := kept_map a L
  rw [seqs_keep _ _ _ hs ha] at h1
  have h2 := congrArg List.length h1
  simp only [List.length_map] at h2
  unfold kept at h2 ⊢
  exact List.filter_eq_self.2 (List.length_filter_eq_length_iff.1 h2)
theorem kept_none {h a : Int} {L : List It} (hs : seqs h (L.map fun t => (t.s, t.l))) (ha : h + L.length ≤ a) : kept a L = [] := by
  have h1 := kept_map a L
  rw [seqs_drop _ _ _ hs (by simpa using ha)] at h1
  exact List.map_eq_nil_iff.1 h1
def stg (A B : Lk) (n : Int) : Nat → Lk × Lk × Int
  | 0 => (A, B, n)
  | 1 => (A, A.pass B, n + A.L.length)
  | 2 => ((A.pass B).pass A, A.pass B, n + A.L.length + (A.pass B).L.length)
  | 3 => ((A.pass B).pass A, ((A.pass B).pass A).pass (A.pass B), n + A.L.length + (A.pass B).L.length + ((A.pass B).pass A).L.length)
  | _ => ((((A.pass B).pass A).pass (A.pass B)).pass ((A.pass B).pass A), ((A.pass B).pass A).pass (A.pass B), n + A.L.length + (A.pass B).L.length + ((A.pass B).pass A).L.length + (((A.pass B).pass A).pass (A.pass B)).L.length)
theorem Good.p0 {A B : Lk} {t s : Int} (h : Good A B t s) : PassOK A B := ⟨h.c, h.e, h.b, by rw [h.va, h.vb]; simp, by have := h.nb; omega, h.sa, h.hb⟩
theorem Good.e1 {A B : Lk} {t s : Int} (h : Good A B t s) : A.pass B = { B with heard := A.sent } := by
  unfold Lk.pass
  rw [kept_seq h.sb (Int.le_refl _), ← h.na]
theorem Good.p1 {A B : Lk} {t s : Int} (h : Good A B t s) : PassOK (A.pass B) A := by
  rw [h.e1]
  exact ⟨h.c.symm, h.e.symm, h.b.symm, by simp [h.va, h.vb], Int.le_refl _, h.sb, h.ha⟩
theorem Good.e2 {A B : Lk} {t s : Int} (h : Good A B t s) : (A.pass B).pass A = { A with L := [], heard := B.sent } := by
  rw [h.e1]
  unfold Lk.pass
  simp only
  rw [kept_none h.sa (by rw [← h.na]; exact Int.le_refl _), ← h.nb]
theorem Good.p2 {A B : Lk} {t s : Int} (h : Good A B t s) : PassOK ((A.pass B).pass A) (A.pass B) := by
  rw [h.e2, h.e1]
  exact ⟨h.c, h.e, h.b, by simp [h.va, h.vb], Int.le_refl _, trivial, by have := h.na; have := h.hb; show 0 ≤ A.sent; omega⟩
theorem Good.e3 {A B : Lk} {t s : Int} (h : Good A B t s) : ((A.pass B).pass A).pass (A.pass B) = { B with L := [], heard := A.sent } := by
  rw [h.e2, h.e1]
  unfold Lk.pass
  simp only
  rw [kept_none h.sb (by rw [← h.nb]; exact Int.le_refl _)]
  simp
theorem Good.p3 {A B : Lk} {t s : Int} (h : Good A B t s) : PassOK (((A.pass B).pass A).pass (A.pass B)) ((A.pass B).pass A) := by
  rw [h.e3, h.e2]
  exact ⟨h.c.symm, h.e.symm, h.b.symm, by simp [h.va, h.vb], Int.le_refl _, trivial, by have := h.nb; have := h.ha; show 0 ≤ B.sent; omega⟩
theorem Good.e4 {A B : Lk} {t s : Int} (h : Good A B t s) : (((A.pass B).pass A).pass (A.pass B)).pass ((A.pass B).pass A) = { A with L := [], heard := B.sent } := by
  rw [h.e3, h.e2]
  unfold Lk.pass
  simp [kept]
theorem Good.done {A B : Lk} {t s : Int} (h : Good A B t s) : Good (stg A B t 4).1 (stg A B t 4).2.1 (stg A B t 4).2.2 s ∧ (stg A B t 4).1.L = [] ∧ (stg A B t 4).2.1.L = [] ∧ (stg A B t 4).2.2 = s := by
  have hs : (stg A B t 4).2.2 = s := by
    show t + A.L.length + (A.pass B).L.length + ((A.pass B).pass A).L.length + (((A.pass B).pass A).pass (A.pass B)).L.length = s
    rw [h.e3, h.e2, h.e1]
    have h1 := h.told
    have h2 := h.sent
    have h3 := h.na
    have h4 := h.nb
    simp only [List.length_nil]
    omega
  refine ⟨?_, ?_, ?_, hs⟩
  · rw [hs]
    show Good ((((A.pass B).pass A).pass (A.pass B)).pass ((A.pass B).pass A)) (((A.pass B).pass A).pass (A.pass B)) s s
    rw [h.e4, h.e3]
    have h2 := h.sent
    have h3 := h.na
    have h4 := h.nb
    have h5 := h.ha
    have h6 := h.hb
    exact ⟨h.c, h.e, h.b, h.va, h.vb, trivial, trivial, by simp, by simp, by show 0 ≤ B.sent; omega, by show 0 ≤ A.sent; omega, by show s = B.sent + A.sent; omega, h2⟩
  · show ((((A.pass B).pass A).pass (A.pass B)).pass ((A.pass B).pass A)).L = []
    rw [h.e4]
  · show (((A.pass B).pass A).pass (A.pass B)).L = []
    rw [h.e3]
theorem Good.stg_bound {A B : Lk} {t s : Int} (h : Good A B t s) : (t ≤ (stg A B t 1).2.2 ∧ (stg A B t 1).2.2 ≤ s) ∧ (t ≤ (stg A B t 2).2.2 ∧ (stg A B t 2).2.2 ≤ s) ∧ (t ≤ (stg A B t 3).2.2 ∧ (stg A B t 3).2.2 ≤ s) ∧ t ≤ s := by
  have h4 := h.done.2.2.2
  have e4 : (stg A B t 4).2.2 = t + A.L.length + (A.pass B).L.length + ((A.pass B).pass A).L.length + (((A.pass B).pass A).pass (A.pass B)).L.length := rfl
  have e1 : (stg A B t 1).2.2 = t + A.L.length := rfl
  have e2 : (stg A B t 2).2.2 = t + A.L.length + (A.pass B).L.length := rfl
  have e3 : (stg A B t 3).2.2 = t + A.L.length + (A.pass B).L.length + ((A.pass B).pass A).L.length := rfl
  omega
theorem pks_bod {X : Lk} (h : ∀ t ∈ X.L, t.l.length ≤ 700) : ∀ x ∈ X.pks, x.2.length ≤ 700 := by
  intro x hx
  unfold Lk.pks at hx
  split at hx
  · simp at hx; subst hx; simp
  · obtain ⟨t, ht, rfl⟩ := List.mem_map.1 hx
    exact h t ht
theorem seqs_snoc : ∀ (ps : List (Int × List Int)) (h : Int) (x : Int × List Int), seqs h ps → x.1 = h + ps.length + 1 → seqs h (ps ++ [x])
  | [], h, x, _, hx => ⟨by simpa using hx, trivial⟩
  | y :: r, h, x, hs, hx => ⟨hs.1, seqs_snoc r (h + 1) x hs.2 (by simp only [List.length_cons] at hx; omega)⟩
theorem Good.pushA {A B : Lk} {t s : Int} (h : Good A B t s) (x : It) (hx : x.s = A.sent + 1) : Good (A.add x) B t (s + 1) := by
  have h3 := h.na
  refine ⟨h.c, h.e, h.b, h.va, h.vb, ?_, h.sb, ?_, h.nb, h.ha, h.hb, h.told, ?_⟩
  · show seqs B.heard ((A.L ++ [x]).map _)
    rw [List.map_append]
    exact seqs_snoc _ _ _ h.sa (by simp; omega)
  · show A.sent + 1 = B.heard + ((A.L ++ [x]).length : Int)
    simp; omega
  · show s + 1 = A.sent + 1 + B.sent
    have := h.sent; omega
theorem Good.pushB {A B : Lk} {t s : Int} (h : Good A B t s) (x : It) (hx : x.s = B.sent + 1) : Good A (B.add x) t (s + 1) := by
  have h3 := h.nb
  refine ⟨h.c, h.e, h.b, h.va, h.vb, h.sa, ?_, h.na, ?_, h.ha, h.hb, h.told, ?_⟩
  · show seqs A.heard ((B.L ++ [x]).map _)
    rw [List.map_append]
    exact seqs_snoc _ _ _ h.sb (by simp; omega)
  · show B.sent + 1 = A.heard + ((B.L ++ [x]).length : Int)
    simp; omega
  · show s + 1 = A.sent + (B.sent + 1)
    have := h.sent; omega
theorem Good.new (c e b : Int) : Good (newLk c e b false) (newLk c e b true) 0 0 := ⟨rfl, rfl, rfl, rfl, rfl, trivial, trivial, rfl, rfl, Int.le_refl _, Int.le_refl _, rfl, rfl⟩
theorem seqs_mem : ∀ (ps : List (Int × List Int)) (h : Int), seqs h ps → ∀ x ∈ ps, h < x.1 ∧ x.1 ≤ h + ps.length
  | [], _, _, x, hx => by simp at hx
  | y :: r, h, hs, x, hx => by
    simp only [List.length_cons]
    rcases List.mem_cons.1 hx with rfl | hx
    · have := hs.1; omega
    · have := seqs_mem r (h + 1) hs.2 x hx; omega
/-- The numbers of what is packed. -/
theorem PassOK.num {X Y : Lk} (h : PassOK X Y) (hX : Y.heard + X.L.length ≤ 1000000000) : ∀ x ∈ X.pks, -9223372036854775808 ≤ x.1 ∧ x.1 ≤ 9223372036854775807 := by
  intro x hx
  unfold Lk.pks at hx
  have := h.h0
  split at hx
  · simp at hx; subst hx; simp
  · have := seqs_mem _ _ h.sq x hx
    simp only [List.length_map] at this
    omega
end Go.Proofs.Ytoeikgaikdbpbaa
