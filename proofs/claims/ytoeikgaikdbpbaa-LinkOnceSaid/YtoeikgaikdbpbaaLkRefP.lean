/- The reference's link: Packets. No condition. -/
import Derived.Test.YtoeikgaikdbpbaaLkRefG
namespace Go.Proofs.Ytoeikgaikdbpbaa
open Go.RowKit

/-- A slice of packets in a block of its own; the bodies lie in D. -/
def PkD (w : World) (B : Nat) (D : Nat → Prop) (v : Value) (h : Hd) (ps : List (Int × List Int)) : Prop :=
  ∃ xs : List Value, w.ownsRow B 24 7 v ps.length xs ∧ ∀ i (_ : i < ps.length), ∃ a c, (∀ j, j < 7 → xs[i * 7 + j]? = (pk7 h ps[i].1 a ps[i].2.length c)[j]?) ∧ ByR w D a ps[i].2
theorem PkD.row {w : World} {B : Nat} {D : Nat → Prop} {v : Value} {h : Hd} {ps : List (Int × List Int)} (hp : PkD w B D v h ps) : PkR w (fun x => D x ∨ B ≤ x) v h ps := by
  obtain ⟨xs, ⟨hl, ho⟩, hx⟩ := hp
  rcases ho with ⟨rfl, h0⟩ | ⟨g, cap, cur, rfl, hb, hg, _, _, _, ht⟩
  · exact ⟨none, 0, by rw [h0], fun i hi => by omega⟩
  · refine ⟨_, cap, rfl, fun i hi => ?_⟩
    obtain ⟨a, c, h1, h2⟩ := hx i hi
    refine ⟨g, 0, rfl, lt_of_blk hg, .inr hb, a, c, fun j hj => ?_, h2.mono (fun _ _ => .inl)⟩
    rw [Nat.zero_add, cell_of_row w g _ cur 24 (0, 0) hg, ← h1 j hj, ← ht, List.getElem?_take, if_pos (by omega), Array.getElem?_toList]
theorem PkD.no {w w1 : World} {B : Nat} {D : Nat → Prop} {v : Value} {h : Hd} {ps : List (Int × List Int)} (hp : PkD w B D v h ps) (hk : Keeps noB w w1) : PkD w1 B D v h ps := by
  obtain ⟨xs, ho, hx⟩ := hp
  refine ⟨xs, own_keep_no ho hk, fun i hi => ?_⟩
  obtain ⟨a, c, h1, h2⟩ := hx i hi
  exact ⟨a, c, h1, h2.keep hk (fun b _ => noB_not b)⟩
theorem PkD.keep {w w1 : World} {B : Nat} {D F : Nat → Prop} {v : Value} {h : Hd} {ps : List (Int × List Int)} (hp : PkD w B D v h ps) (hk : Keeps F w w1) (hD : ∀ y, D y → ¬ F y) (hB : ∀ y, B ≤ y → y < w.heap.size → ¬ F y) : PkD w1 B D v h ps := by
  obtain ⟨xs, ho, hx⟩ := hp
  refine ⟨xs, own_keep ho hk (fun k h1 h2 _ => hB k h1 h2), fun i hi => ?_⟩
  obtain ⟨a, c, h1, h2⟩ := hx i hi
  exact ⟨a, c, h1, h2.keep hk hD⟩
theorem PkD.keep' {w w1 : World} {B : Nat} {D F : Nat → Prop} {v : Value} {h : Hd} {ps : List (Int × List Int)} (hp : PkD w B D v h ps) (hk : Keeps F w w1) (hD : ∀ y, D y → ¬ F y) (hB : ∀ y, v.ownBlock = some y → ¬ F y) : PkD w1 B D v h ps := by
  obtain ⟨xs, ho, hx⟩ := hp
  refine ⟨xs, own_keep ho hk (fun k _ _ h => hB k h), fun i hi => ?_⟩
  obtain ⟨a, c, h1, h2⟩ := hx i hi
  exact ⟨a, c, h1, h2.keep hk hD⟩
theorem PkD.slice {w : World} {B : Nat} {D : Nat → Prop} {v : Value} {h : Hd} {ps : List (Int × List Int)} (hp : PkD w B D v h ps) : ∃ a c, v = .slice a ps.length c := hp.row.slice
/-- 'append(out, p)'. -/
theorem wpList_append_pd {w : World} {ops : Array Oper} {rest : List Oper} {o : Oper} {a : Act} {Q : Exit → Act → World → Prop} (hg : o.guard = none) (s x : Operand)
    (ho : o.op = Op.call { callee := Callee.builtin Builtin.append, args := #[s, x], argTypes := #[32, 32] }) (B : Nat) (D : Nat → Prop) (v : Value) (hd : Hd) (ps : List (Int × List Int)) (n : Nat) (hn : n = ps.length) (hv : a.eval s = v) (hp : PkD w B D v hd ps)
    (gn cn : Nat) (sq : Int) (ab : Option Addr) (l : List Int) (cb : Nat) (fr : Nat × Nat) (hx : a.eval x = Value.slice (some ⟨gn, 0, none⟩) 1 cn) (hu : w.heap[gn]? = some (.cells (pk7 hd sq ab l.length cb) 24 fr)) (hO : ByR w D ab l) (hB : B ≤ w.heap.size) (hD : ∀ y, D y → y < B) (hlen : ps.length ≤ 1000000)
    (h : ∀ (v' : Value) (w' : World), PkD w' B D v' hd (ps ++ [(sq, l)]) → w.grownBy w' v.ownBlock → (∀ k, v.ownBlock = some k → B ≤ k) → (v'.ownBlock = v.ownBlock ∨ v'.ownBlock = some w.heap.size) → wpList Try.prog ops Q rest (a.put o.dst v') w') : wpList Try.prog ops Q (o :: rest) a w := by
  obtain ⟨i1, hi, hz0, hz1, hz2⟩ := info_parts info24
  obtain ⟨xs, hown, hxs⟩ := hp
  refine wpList_plain hg fun K hK => ?_
  obtain ⟨v', w', hr, h1, h2, _, h5⟩ := run_append_own_at (P := Try.prog) w B 32 o.type 24 i1 _ 7 72 Try.underlying32 hi hz0 hz1 hz2 rfl (by decide) v ps.length xs hown ⟨gn, 0, none⟩ 1 cn (pk7 hd sq ab l.length cb).toList rfl
    (fun j u hj => by
      have hadd : (⟨gn, 0, none⟩ : Addr).add j = ⟨gn, j, none⟩ := by unfold Addr.add; split <;> simp_all
      rw [hadd]
      exact blk_cell hu (by rw [← Array.getElem?_toList]; exact hj))
    (fun u hu' => by simp [pk7, pcells] at hu'; rcases hu' with rfl | rfl | rfl | rfl | rfl | rfl | rfl <;> rfl) (by unfold maxLen; omega) (by omega) hB
  have hfin : wpList Try.prog ops Q rest (a.put o.dst v') w' := by
    have hk : Keeps (fun y => B ≤ y) w w' := (Keeps.refl _ _).grown h2 (fun k hk => .inr (hown.lt k hk).1)
    refine h v' w' ⟨xs ++ (pk7 hd sq ab l.length cb).toList, by simpa using h1, fun i hi => ?_⟩ h2 (fun k hk => (hown.lt k hk).1) h5
    have hlx := hown.1
    by_cases e : i < ps.length
    · obtain ⟨a1, c1, g1, g2⟩ := hxs i e
      refine ⟨a1, c1, fun j hj => ?_, ?_⟩
      · rw [List.getElem?_append_left (by omega), List.getElem_append_left e]; exact g1 j hj
      · rw [List.getElem_append_left e]; exact g2.keep hk (fun b hb h => by have := hD b hb; omega)
    · have : i = ps.length := by simp at hi; omega
      subst this
      refine ⟨ab, cb, fun j hj => ?_, ?_⟩
      · rw [List.getElem?_append_right (by omega), hlx]
        simp [show ps.length * 7 + j - ps.length * 7 = j by omega]
      · simpa using hO.keep hk (fun b hb h => by have := hD b hb; omega)
  unfold Oper.wp execOp
  simp only [ho, resolve, invoke, builtin, Sem.run_bind, Sem.run_pure, Result.andThen_ok, List.map_toArray, List.map_cons, List.map_nil, hv, hx, hr]
  exact hK _ _ hfin
theorem own_pk0 (w : World) (D : Nat → Prop) (h : Hd) : PkD (w.alloc (.cells #[] 24)) w.heap.size D (.slice (some ⟨w.heap.size, 0, none⟩) 0 0) h [] :=
  ⟨[], ⟨rfl, .inr ⟨w.heap.size, 0, #[], rfl, Nat.le_refl _, heap_alloc_new _ _, Nat.le_refl _, Nat.zero_le _, rfl, rfl⟩⟩, fun i hi => by simp at hi⟩

theorem PkR.mono {w : World} {D E : Nat → Prop} {v : Value} {h : Hd} {ps : List (Int × List Int)} (hp : PkR w D v h ps) (hE : ∀ y, y < w.heap.size → D y → E y) : PkR w E v h ps := by
  obtain ⟨a, c, rfl, hx⟩ := hp
  refine ⟨a, c, rfl, fun i hi => ?_⟩
  obtain ⟨g, off, ha, hg, hD, a', c', h1, h3⟩ := hx i hi
  exact ⟨g, off, ha, hg, hE g hg hD, a', c', h1, h3.mono hE⟩
def Rl.hd (k : Rl) : Hd := ⟨k.c, k.e, k.b, k.heard, k.v⟩
/-- The first m of what is under way. -/
def rpks (bs : List (List Int)) (kn m : Nat) : List (Int × List Int) := (List.range m).map fun j => (((kn + j : Nat) : Int) + 1, bs.getD (kn + j) [])
theorem rpks_len (bs : List (List Int)) (kn m : Nat) : (rpks bs kn m).length = m := by simp [rpks]
theorem rpks_succ (bs : List (List Int)) (kn m : Nat) : rpks bs kn (m + 1) = rpks bs kn m ++ [(((kn + m : Nat) : Int) + 1, bs.getD (kn + m) [])] := by simp [rpks, List.range_succ]
def Rl.pks (k : Rl) (kn : Nat) : List (Int × List Int) := if k.bs.length = kn then [(0, [])] else rpks k.bs kn (k.bs.length - kn)

set_option maxRecDepth 100000 in
set_option maxHeartbeats 8000000 in
theorem rpackets_c {w : World} {D : Nat → Prop} {k : Rl} {vb : Value} (kn : Nat) (hkn : k.known = kn) (hle : kn ≤ k.bs.length) (h : BsR w D vb k.bs) (hD : ∀ y, D y → y < w.heap.size) (hbl : k.bs.length ≤ 1000000) :
    Calls Try.prog 20 #[k.val vb] w fun e w' => ∃ v, RetK noB v w e w' ∧ PkR w' (fun x => D x ∨ w.heap.size ≤ x) v k.hd (k.pks kn) := by
  obtain ⟨kc, ke, kb, kv, bs, known, kh⟩ := k
  simp only at hkn hle hbl h
  subst hkn
  obtain ⟨ab, cb, rfl⟩ := h.slice
  unfold Rl.val Rl.hd
  simp only
  have H := Lib.hid h
  clear h
  go_enter Try.func20, Try.ntmps20
  have hk0 : Keeps noB w (((w.alloc (.cells #[.int .i64 kc, .int .i64 ke, .int .i64 kb, .bool kv, .slice ab bs.length cb, .int .i64 kn, .int .i64 kh] 47)).alloc (.cells #[] 24)).alloc (.cells #[.int .i64 kc, .int .i64 ke, .int .i64 kb, .int .i64 0, .int .i64 kh, .bool kv, .slice none 0 0] 24)) := (((Keeps.refl _ _).alloc _).alloc _).alloc _
  have hk1 : Keeps noB ((w.alloc (.cells #[.int .i64 kc, .int .i64 ke, .int .i64 kb, .bool kv, .slice ab bs.length cb, .int .i64 kn, .int .i64 kh] 47)).alloc (.cells #[] 24)) (((w.alloc (.cells #[.int .i64 kc, .int .i64 ke, .int .i64 kb, .bool kv, .slice ab bs.length cb, .int .i64 kn, .int .i64 kh] 47)).alloc (.cells #[] 24)).alloc (.cells #[.int .i64 kc, .int .i64 ke, .int .i64 kb, .int .i64 0, .int .i64 kh, .bool kv, .slice none 0 0] 24)) := (Keeps.refl _ _).alloc _
  have hX0 := hk1.blk (heap_alloc2_old w (.cells #[.int .i64 kc, .int .i64 ke, .int .i64 kb, .bool kv, .slice ab bs.length cb, .int .i64 kn, .int .i64 kh] 47) (.cells #[] 24)) (noB_not _)
  have hP0 := heap_alloc3_new w (.cells #[.int .i64 kc, .int .i64 ke, .int .i64 kb, .bool kv, .slice ab bs.length cb, .int .i64 kn, .int .i64 kh] 47) (.cells #[] 24) (.cells #[.int .i64 kc, .int .i64 ke, .int .i64 kb, .int .i64 0, .int .i64 kh, .bool kv, .slice none 0 0] 24)
  have hO0 : PkD (((w.alloc (.cells #[.int .i64 kc, .int .i64 ke, .int .i64 kb, .bool kv, .slice ab bs.length cb, .int .i64 kn, .int .i64 kh] 47)).alloc (.cells #[] 24)).alloc (.cells #[.int .i64 kc, .int .i64 ke, .int .i64 kb, .int .i64 0, .int .i64 kh, .bool kv, .slice none 0 0] 24)) (w.heap.size + 1) D (.slice (some ⟨w.heap.size + 1, 0, none⟩) 0 0) ⟨kc, ke, kb, kh, kv⟩ (rpks bs kn 0) := by
    rw [← alloc_size w (.cells #[.int .i64 kc, .int .i64 ke, .int .i64 kb, .bool kv, .slice ab bs.length cb, .int .i64 kn, .int .i64 kh] 47)]
    exact (own_pk0 _ D _).no hk1
  have HI0 := Lib.hid (And.intro hk0 (And.intro hX0 (And.intro hP0 hO0)))
  clear hk0 hk1 hX0 hP0 hO0
  go_wp2_with fail
  generalize (((w.alloc (.cells #[.int .i64 kc, .int .i64 ke, .int .i64 kb, .bool kv, .slice ab bs.length cb, .int .i64 kn, .int .i64 kh] 47)).alloc (.cells #[] 24)).alloc (.cells #[.int .i64 kc, .int .i64 ke, .int .i64 kb, .int .i64 0, .int .i64 kh, .bool kv, .slice none 0 0] 24)) = wA at *
  obtain ⟨bp, hbp⟩ : ∃ bp, bp = w.heap.size + 1 + 1 := ⟨_, rfl⟩
  rw [← hbp]
  have HBP := Lib.hid hbp
  have hP0 := HI0.out.2.2.1
  rw [show w.heap.size + 2 = bp by omega] at hP0
  go_loopw [3, 5] (fun out i wr => ∃ m : Nat, m ≤ bs.length - kn ∧ ∃ x : Int, i = .int .i64 x ∧ x = (kn : Int) + m ∧ Keeps noB w wr ∧ wr.heap[w.heap.size]? = some (.cells #[.int .i64 kc, .int .i64 ke, .int .i64 kb, .bool kv, .slice ab bs.length cb, .int .i64 kn, .int .i64 kh] 47 (0, 0)) ∧
      PkD wr (w.heap.size + 1) D out ⟨kc, ke, kb, kh, kv⟩ (rpks bs kn m) ∧ out.ownBlock ≠ some bp ∧ ∃ sq pa pn pc, wr.heap[bp]? = some (.cells #[.int .i64 kc, .int .i64 ke, .int .i64 kb, .int .i64 sq, .int .i64 kh, .bool kv, .slice pa pn pc] 24 (0, 0)) ∧ (m = 0 → sq = 0 ∧ pa = none ∧ pn = 0 ∧ pc = 0))
    (fun _ i _ => bs.length - (intOf i).toNat)
  case atStart => exact ⟨0, by omega, _, rfl, by omega, HI0.out.1, HI0.out.2.1, HI0.out.2.2.2, by simp [Value.ownBlock]; omega, 0, none, 0, 0, hP0, fun _ => ⟨rfl, rfl, rfl, rfl⟩⟩
  case round =>
    clear hP0 HI0 hbp
    obtain ⟨m, hm, x, rfl, hx, hkp, hX, hO, hob, sq, pa, pn, pc, hP, hz⟩ := hrel
    have hsz := hkp.size
    have hszP := lt_of_blk hP
    obtain ⟨oa, oc, rfl⟩ := hO.slice
    have hpl := rpks_len bs kn m
    have HPL := Lib.hid hpl
    have HX := Lib.hid hx
    have x4 := blk_cell hX (i := 4) rfl
    have hbpw : bp = w.heap.size + 1 + 1 := HBP.out
    have HBW := Lib.hid hbpw
    clear hpl
    by_cases hlt : m < bs.length - kn
    · clear hz
      have hkm : kn + m < bs.length := by omega
      have hx0 : 0 ≤ x := by omega
      have hxl : x < (bs.length : Int) := by omega
      have hxn : x.toNat = kn + m := by omega
      have p3 := blk_cell hP (i := 3) rfl
      have f3 := blk_free hP 3
      have hkA := (Keeps.refl (oneB bp) wr).set1 3 (.int .i64 (x + 1))
      have hPA := heap_setCell_same wr bp 3 (.int .i64 (x + 1)) hP
      have hXA := hkA.blk hX (by unfold oneB; omega)
      have hbA := ((H.out.no hkp).keep hkA (fun b hb => by have := hD b hb; unfold oneB; omega)).at_ (i := kn + m) hkm
      obtain ⟨g, off, rfl, ba, bc, hbc, hbr⟩ := hbA
      have hlb : bs[kn + m] = bs.getD (kn + m) [] := by rw [List.getD_eq_getElem?_getD, List.getElem?_eq_getElem hkm]; rfl
      rw [hlb] at hbc hbr
      have HLB := rpks_succ bs kn m
      generalize bs.getD (kn + m) [] = lb at *
      rw [← hxn] at hbc
      have HLB := Lib.hid HLB
      clear hlb
      have hOA := hO.keep' hkA (fun b hb => by have := hD b hb; unfold oneB; omega) (fun y hy e => by unfold oneB at e; subst e; exact hob hy)
      have a4 := blk_cell hXA (i := 4) rfl
      have a6 := blk_cell hPA (i := 6) rfl
      have f6 := blk_free hPA 6
      have HR := Lib.hid (And.intro hkp (And.intro hOA (And.intro hXA (And.intro hPA (And.intro hbr (And.intro hsz (And.intro hob (And.intro hkm (And.intro hxn hszP)))))))))
      clear hkp hO hX hP hOA hXA hPA hbr hsz hx hbpw hob hkm hxn hszP
      go_upto_region 8 with fail
      obtain ⟨hkp, hOA, hXA, hPA, hbr, hsz, hob, hkm, hxn, hszP⟩ := HR.out
      have hkB := (Keeps.refl (oneB bp) (wr.setCell ⟨bp, 3, none⟩ (.int .i64 (x + 1)))).set1 6 (.slice ba lb.length bc)
      have hPB := heap_setCell_same (wr.setCell ⟨bp, 3, none⟩ (.int .i64 (x + 1))) bp 6 (.slice ba lb.length bc) hPA
      have hXB := hkB.blk hXA (by unfold oneB; have := HBW.out; omega)
      have hOB := hOA.keep' hkB (fun b hb => by have := hD b hb; have := HBW.out; unfold oneB; omega) (fun y hy e => by unfold oneB at e; subst e; exact hob hy)
      have hbB := hbr.keep hkB (fun b hb => by have := hD b hb; have := HBW.out; unfold oneB; omega)
      have hkw : Keeps noB w ((wr.setCell ⟨bp, 3, none⟩ (.int .i64 (x + 1))).setCell ⟨bp, 6, none⟩ (.slice ba lb.length bc)) := ((hkp.setCell ⟨bp, 3, none⟩ _ (.inr (by show w.heap.size ≤ bp; have := HBW.out; omega))).setCell ⟨bp, 6, none⟩ _ (.inr (by show w.heap.size ≤ bp; have := HBW.out; omega)))
      generalize (wr.setCell ⟨bp, 3, none⟩ (.int .i64 (x + 1))).setCell ⟨bp, 6, none⟩ (.slice ba lb.length bc) = wB at *
      have hk1 : Keeps noB wB (wB.alloc (.cells (pk7 ⟨kc, ke, kb, kh, kv⟩ (x + 1) ba lb.length bc) 24)) := (Keeps.refl _ _).alloc _
      have b0 := blk_cell hPB (i := 0) rfl
      have b1 := blk_cell hPB (i := 1) rfl
      have b2 := blk_cell hPB (i := 2) rfl
      have b3 := blk_cell hPB (i := 3) rfl
      have b4 := blk_cell hPB (i := 4) rfl
      have b5 := blk_cell hPB (i := 5) rfl
      have b6 := blk_cell hPB (i := 6) rfl
      have hszB := hkw.size
      have hml : (rpks bs kn m).length ≤ 1000000 := by rw [HPL.out]; omega
      have hOC := hOB.no hk1
      have hbC := hbB.keep hk1 (fun b _ => noB_not b)
      have hXC := hk1.blk hXB (noB_not _)
      have hPC := hk1.blk hPB (noB_not _)
      have HHH := Lib.hid (And.intro hkw (And.intro hXC (And.intro hPC (And.intro hszP hob))))
      have hszC : w.heap.size + 1 ≤ (wB.alloc (.cells (pk7 ⟨kc, ke, kb, kh, kv⟩ (x + 1) ba lb.length bc) 24)).heap.size := by rw [alloc_size]; omega
      have hbpC : bp < (wB.alloc (.cells (pk7 ⟨kc, ke, kb, kh, kv⟩ (x + 1) ba lb.length bc) 24)).heap.size := lt_of_blk hPC
      clear hkp hOA hXA hPA hbr hsz hob hkm hxn hszP hOB hbB hXB hPB hkB hkA HR hXC hPC hkw
      go_wp2_with (at_builtin; refine wpList_append_pd rfl _ _ rfl (w.heap.size + 1) D _ ⟨kc, ke, kb, kh, kv⟩ (rpks bs kn m) _ rfl rfl hOC wB.heap.size 1 (x + 1) ba lb bc (0, 0) rfl (heap_alloc_new _ _) hbC hszC (fun y hy => by have := hD y hy; omega) hml ?_)
      intro v' w3 g1 g2 g3 g4
      have hkv := (Keeps.refl (fun y => (Value.slice oa (rpks bs kn m).length oc).ownBlock = some y) (wB.alloc (.cells (pk7 ⟨kc, ke, kb, kh, kv⟩ (x + 1) ba lb.length bc) 24))).grown g2 (fun k hk => .inr hk)
      have HG := Lib.hid (And.intro g1 (And.intro g3 (And.intro g4 (And.intro hkv (And.intro hk1 hbpC)))))
      clear g1 g2 g3 g4 hkv hOC hbC b0 b1 b2 b3 b4 b5 b6 p3 f3 a4 a6 f6 hk1 hbpC hszC hszB
      go_wp2_with fail
      go_roundw
      case rel => 
        obtain ⟨g1, g3, g4, hkv, hk1, hbpC⟩ := HG.out
        obtain ⟨hkw, hXC, hPC, hszP, hob⟩ := HHH.out
        have hxx : x = ((kn + m : Nat) : Int) := by have := HX.out; omega
        refine ⟨m + 1, by omega, x + 1, by go_num, by have := HX.out; omega, (hkw.trans_no hk1).trans hkv (fun y hy h => by have := g3 y h; omega), hkv.blk hXC (fun h => by have := g3 _ h; omega), ?_, fun h => ?_, _, _, _, _, hkv.blk hPC hob, fun h => by omega⟩
        · rw [HLB.out, ← hxx]; exact g1
        · rcases g4 with g4 | g4
          · rw [g4] at h; exact hob h
          · rw [g4] at h; have h' := Option.some.inj h; rw [alloc_size] at hbpC; omega
      case measure => have := HX.out; simp [intOf]; omega
    · have hxe : x = (bs.length : Int) := by omega
      have d1 : decide (x < (bs.length : Int)) = false := decide_eq_false (by omega)
      by_cases hz0 : m = 0
      · obtain ⟨rfl, rfl, rfl, rfl⟩ := hz hz0
        subst hz0
        have hbk : bs.length = kn := by omega
        have hO' : PkD wr (w.heap.size + 1) D (.slice oa 0 oc) ⟨kc, ke, kb, kh, kv⟩ [] := hO
        have b0 := blk_cell hP (i := 0) rfl
        have b1 := blk_cell hP (i := 1) rfl
        have b2 := blk_cell hP (i := 2) rfl
        have b3 := blk_cell hP (i := 3) rfl
        have b4 := blk_cell hP (i := 4) rfl
        have b5 := blk_cell hP (i := 5) rfl
        have b6 := blk_cell hP (i := 6) rfl
        have hk1 : Keeps noB wr (wr.alloc (.cells (pk7 ⟨kc, ke, kb, kh, kv⟩ 0 none 0 0) 24)) := (Keeps.refl _ _).alloc _
        have hOC := hO'.no hk1
        have hkw := hkp.trans_no hk1
        have hszC : w.heap.size + 1 ≤ (wr.alloc (.cells (pk7 ⟨kc, ke, kb, kh, kv⟩ 0 none 0 0) 24)).heap.size := by rw [alloc_size]; omega
        have hl0 : (rpks bs kn 0).length = 0 := rfl
        rw [hl0]
        have HH := Lib.hid (And.intro hkw (And.intro hsz hbk))
        clear hO hO' hX hP hz hkw hk1 hkp hl0 hbk hxe HPL hbpw hx
        go_wp2_with (at_builtin; refine wpList_append_pd rfl _ _ rfl (w.heap.size + 1) D _ ⟨kc, ke, kb, kh, kv⟩ [] _ rfl rfl hOC wr.heap.size 1 0 none [] 0 (0, 0) rfl (heap_alloc_new _ _) (fun i hi => by simp at hi) hszC (fun y hy => by have := hD y hy; omega) (by simp) ?_)
        intro v' w3 g1 g2 g3 _
        have hkv := (Keeps.refl (fun y => (Value.slice oa 0 oc).ownBlock = some y) (wr.alloc (.cells (pk7 ⟨kc, ke, kb, kh, kv⟩ 0 none 0 0) 24))).grown g2 (fun k hk => .inr hk)
        go_wp2_with fail
        go_ret
        obtain ⟨hkw, hsz, hbk⟩ := HH.out
        refine ⟨_, ⟨rfl, hkw.trans hkv (fun y hy h => by have := g3 y h; omega)⟩, ?_⟩
        unfold Rl.pks
        rw [if_pos hbk]
        exact g1.row.mono (fun y _ hy => by rcases hy with hy | hy; exact .inl hy; exact .inr (by omega))
      · have hbk : ¬ bs.length = kn := by omega
        have hme : m = bs.length - kn := by omega
        have d2 : (((rpks bs kn m).length : Int) == 0) = false := by rw [HPL.out]; simp; omega
        have HH := Lib.hid (And.intro hkp (And.intro hO (And.intro hbk hme)))
        clear hkp hO hbk hme hz hX hP hz0 hxe hm hlt hx hbpw
        go_wp2_with fail
        go_ret
        obtain ⟨hkp, hO, hbk, hme⟩ := HH.out
        refine ⟨_, ⟨rfl, hkp⟩, ?_⟩
        unfold Rl.pks
        rw [if_neg hbk, ← hme]
        exact hO.row.mono (fun y _ hy => by rcases hy with hy | hy; exact .inl hy; exact .inr (by omega))
end Go.Proofs.Ytoeikgaikdbpbaa
