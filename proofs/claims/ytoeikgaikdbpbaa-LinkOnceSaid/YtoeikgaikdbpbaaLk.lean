/- The link in memory: New, Open, Sent, Heard, Push. No condition. -/
import Derived.Test.YtoeikgaikdbpbaaLkDel
import Derived.Maps.AppendAt
namespace Go.Proofs.Ytoeikgaikdbpbaa
open Go.RowKit

/-- A block of bytes in S (or nil). -/
def ByS (w : World) (S : Nat → Prop) (a : Option Addr) (c : Nat) (l : List Int) : Prop :=
  (a = none ∧ l = [] ∧ c = 0) ∨ ∃ g cs, a = some ⟨g, 0, none⟩ ∧ S g ∧ w.heap[g]? = some (.cells cs 5 (0, 0)) ∧ cs.size = c ∧ l.length ≤ c ∧ c ≤ maxLen ∧ ∀ k (h : k < l.length), cs[k]? = some (.int .u8 l[k])
theorem ByS.of_o {w : World} {B c : Nat} {a : Option Addr} {l : List Int} {S : Nat → Prop} (h : ByO w B a c l) (hS : ∀ x, B ≤ x → x < w.heap.size → S x) : ByS w S a c l := by
  rcases h with h | ⟨g, cs, rfl, hB, hb, h⟩
  · exact .inl h
  · exact .inr ⟨g, cs, rfl, hS g hB (lt_of_blk hb), hb, h⟩
theorem ByS.byr {w : World} {S : Nat → Prop} {a : Option Addr} {c : Nat} {l : List Int} (h : ByS w S a c l) : ByR w S a l := by
  intro k hk
  rcases h with ⟨_, rfl, _⟩ | ⟨g, cs, rfl, hB, hb, _, _, _, hc⟩
  · simp at hk
  · exact ⟨g, 0, rfl, hB, lt_of_blk hb, by rw [Nat.zero_add]; exact blk_cell hb (hc k hk)⟩
theorem ByS.mono {w : World} {S S' : Nat → Prop} {a : Option Addr} {c : Nat} {l : List Int} (h : ByS w S a c l) (hS : ∀ x, S x → x < w.heap.size → S' x) : ByS w S' a c l := by
  rcases h with h | ⟨g, cs, rfl, hB, hb, h⟩
  · exact .inl h
  · exact .inr ⟨g, cs, rfl, hS g hB (lt_of_blk hb), hb, h⟩
/-- Kept, where what may change are no blocks of bytes of S. -/
theorem ByS.keep {w w1 : World} {S : Nat → Prop} {a : Option Addr} {c : Nat} {l : List Int} {F : Nat → Prop} (h : ByS w S a c l) (hk : Keeps F w w1) (hF : ∀ x, F x → S x → ∀ cs, w.heap[x]? ≠ some (.cells cs 5 (0, 0))) : ByS w1 S a c l := by
  rcases h with h | ⟨g, cs, rfl, hB, hb, h⟩
  · exact .inl h
  · exact .inr ⟨g, cs, rfl, hB, hk.blk hb (fun hx => hF g hx hB cs hb), h⟩

/-- A link: its session, what is under way, the last numbers. -/
structure Lk where
  c : Int
  e : Int
  b : Int
  v : Bool
  L : List It
  sent : Int
  heard : Int
def lkrow (k : Lk) (vi : Value) : Array Value := #[.int .i64 k.c, .int .i64 k.e, .int .i64 k.b, .int .i64 0, .int .i64 0, .bool k.v, .slice none 0 0, vi, .int .i64 k.sent, .int .i64 k.heard]
structure LkAt (w : World) (S : Nat → Prop) (p : Nat) (k : Lk) (vi : Value) : Prop where
  inS : S p
  lt : ∀ x, S x → x < w.heap.size
  ptr : w.heap[p]? = some (.cells (lkrow k vi) 60 (0, 0))
  its : ItO w S vi k.L
  bods : ∀ t, t ∈ k.L → ByS w S t.a t.c t.l ∧ t.l.length ≤ 700
  few : k.L.length ≤ 8
  sb : 0 ≤ k.sent ∧ k.sent ≤ 16777215
  hb : 0 ≤ k.heard ∧ k.heard ≤ 9223372036854775807
theorem LkAt.keep {w w1 : World} {S : Nat → Prop} {p : Nat} {k : Lk} {vi : Value} {F : Nat → Prop} (h : LkAt w S p k vi) (hk : Keeps F w w1) (hF : ∀ x, S x → ¬ F x) : LkAt w1 S p k vi :=
  ⟨h.inS, fun x hx => Nat.lt_of_lt_of_le (h.lt x hx) hk.size, hk.blk h.ptr (hF p h.inS), h.its.keep hk hF, fun t ht => ⟨(h.bods t ht).1.keep hk (fun x h1 h2 => absurd h1 (hF x h2)), (h.bods t ht).2⟩, h.few, h.sb, h.hb⟩
theorem LkAt.no {w w1 : World} {S : Nat → Prop} {p : Nat} {k : Lk} {vi : Value} (h : LkAt w S p k vi) (hk : Keeps noB w w1) : LkAt w1 S p k vi := h.keep hk (fun x _ => noB_not x)

theorem LkAt.c0 {w : World} {S : Nat → Prop} {p : Nat} {k : Lk} {vi : Value} (h : LkAt w S p k vi) : w.cell? ⟨p, 0, none⟩ = some (.int .i64 k.c) := blk_cell h.ptr (i := 0) rfl
theorem LkAt.c1 {w : World} {S : Nat → Prop} {p : Nat} {k : Lk} {vi : Value} (h : LkAt w S p k vi) : w.cell? ⟨p, 1, none⟩ = some (.int .i64 k.e) := blk_cell h.ptr (i := 1) rfl
theorem LkAt.c2 {w : World} {S : Nat → Prop} {p : Nat} {k : Lk} {vi : Value} (h : LkAt w S p k vi) : w.cell? ⟨p, 2, none⟩ = some (.int .i64 k.b) := blk_cell h.ptr (i := 2) rfl
theorem LkAt.c3 {w : World} {S : Nat → Prop} {p : Nat} {k : Lk} {vi : Value} (h : LkAt w S p k vi) : w.cell? ⟨p, 3, none⟩ = some (.int .i64 0) := blk_cell h.ptr (i := 3) rfl
theorem LkAt.c4 {w : World} {S : Nat → Prop} {p : Nat} {k : Lk} {vi : Value} (h : LkAt w S p k vi) : w.cell? ⟨p, 4, none⟩ = some (.int .i64 0) := blk_cell h.ptr (i := 4) rfl
theorem LkAt.c5 {w : World} {S : Nat → Prop} {p : Nat} {k : Lk} {vi : Value} (h : LkAt w S p k vi) : w.cell? ⟨p, 5, none⟩ = some (.bool k.v) := blk_cell h.ptr (i := 5) rfl
theorem LkAt.c6 {w : World} {S : Nat → Prop} {p : Nat} {k : Lk} {vi : Value} (h : LkAt w S p k vi) : w.cell? ⟨p, 6, none⟩ = some (.slice none 0 0) := blk_cell h.ptr (i := 6) rfl
theorem LkAt.c7 {w : World} {S : Nat → Prop} {p : Nat} {k : Lk} {vi : Value} (h : LkAt w S p k vi) : w.cell? ⟨p, 7, none⟩ = some vi := blk_cell h.ptr (i := 7) rfl
theorem LkAt.c8 {w : World} {S : Nat → Prop} {p : Nat} {k : Lk} {vi : Value} (h : LkAt w S p k vi) : w.cell? ⟨p, 8, none⟩ = some (.int .i64 k.sent) := blk_cell h.ptr (i := 8) rfl
theorem LkAt.c9 {w : World} {S : Nat → Prop} {p : Nat} {k : Lk} {vi : Value} (h : LkAt w S p k vi) : w.cell? ⟨p, 9, none⟩ = some (.int .i64 k.heard) := blk_cell h.ptr (i := 9) rfl
theorem LkAt.fr {w : World} {S : Nat → Prop} {p : Nat} {k : Lk} {vi : Value} (h : LkAt w S p k vi) (i : Nat) : w.frozen? ⟨p, i, none⟩ = false := blk_free h.ptr i
def newLk (c e b : Int) (v : Bool) : Lk := ⟨c, e, b, v, [], 0, 0⟩
theorem new_c (cl ep bo : Int) (sv : Bool) (w : World) :
    Calls Try.prog 10 #[.int .i64 cl, .int .i64 ep, .int .i64 bo, .bool sv] w fun e w' => RetK noB (.pointer (some ⟨w.heap.size, 0, none⟩)) w e w' ∧ w'.heap.size = w.heap.size + 1 ∧ LkAt w' (oneB w.heap.size) w.heap.size (newLk cl ep bo sv) (.slice none 0 0) := by
  go_enter Try.func10, Try.ntmps10
  go_wp2_with fail
  go_ret
  refine ⟨⟨rfl, (Keeps.refl _ _).alloc _⟩, alloc_size _ _, ⟨rfl, fun x hx => by unfold oneB at hx; rw [alloc_size]; omega, heap_alloc_new _ _, .inl ⟨rfl, rfl⟩, fun t ht => by simp [newLk] at ht, by simp [newLk], by simp [newLk], by simp [newLk]⟩⟩
theorem open_c {w : World} {S : Nat → Prop} {p : Nat} {k : Lk} {vi : Value} (h : LkAt w S p k vi) : Calls Try.prog 14 #[.pointer (some ⟨p, 0, none⟩)] w (Ret (.int .i64 k.L.length) w) := by
  obtain ⟨a, c, rfl⟩ := h.its.slice
  have h7 := h.c7
  go_enter Try.func14, Try.ntmps14
  go_wp2_with fail
  go_ret
  exact ret_i rfl
theorem sent_c {w : World} {S : Nat → Prop} {p : Nat} {k : Lk} {vi : Value} (h : LkAt w S p k vi) : Calls Try.prog 17 #[.pointer (some ⟨p, 0, none⟩)] w (Ret (.int .i64 k.sent) w) := by
  have h8 := h.c8
  go_enter Try.func17, Try.ntmps17
  go_wp2_with fail
  go_ret
  exact ret_i rfl
theorem heard_c {w : World} {S : Nat → Prop} {p : Nat} {k : Lk} {vi : Value} (h : LkAt w S p k vi) : Calls Try.prog 15 #[.pointer (some ⟨p, 0, none⟩)] w (Ret (.int .i64 k.heard) w) := by
  have h9 := h.c9
  go_enter Try.func15, Try.ntmps15
  go_wp2_with fail
  go_ret
  exact ret_i rfl

theorem info63 : (Try.prog.info? 63).map (fun i => (i.zero, i.size, i.bytes)) = some (some (.agg #[.int .i64 0, .slice none 0 0]), 2, 32) := by kernel_rfl
theorem step_append_it {w : World} {ops : Array Oper} {o : Oper} {a : Act} {K : Act → World → Prop} {Q : Exit → Act → World → Prop} {E : Prop} (hg : o.guard = none) (s x : Operand)
    (ho : o.op = Op.call { callee := Callee.builtin Builtin.append, args := #[s, x], argTypes := #[58, 58] }) (S : Nat → Prop) (v : Value) (L : List It) (hv : a.eval s = v) (hown : ItO w S v L) (hL : L.length ≤ 100000)
    (gn cn : Nat) (t : It) (hx : a.eval x = Value.slice (some ⟨gn, 0, none⟩) 1 cn) (fr : Nat × Nat) (hu : w.heap[gn]? = some (.cells #[.int .i64 t.s, .slice t.a t.l.length t.c] 63 fr))
    (h : ∀ (v' : Value) (w' : World), ItO w' (fun x => v'.ownBlock = some x) v' (L ++ [t]) → w.grownBy w' v.ownBlock → (v'.ownBlock = v.ownBlock ∨ v'.ownBlock = some w.heap.size) → K (a.put o.dst v') w') : if Region.wanted o (yielded ops a.tmps) = true then Oper.wp Try.prog o a w K Q else E := by
  have hw : Region.wanted o (yielded ops a.tmps) = true := by simp [Region.wanted, hg]
  rw [if_pos hw]
  obtain ⟨i1, hi, hz0, hz1, hz2⟩ := info_parts info63
  obtain ⟨v', w', hr, h2, h3, _, h5⟩ := run_append_own_at (P := Try.prog) w 0 58 o.type 63 i1 (.agg #[.int .i64 0, .slice none 0 0]) 2 32 Try.underlying58 hi hz0 hz1 hz2 rfl (by decide) v L.length (icells L) hown.own ⟨gn, 0, none⟩ 1 cn [.int .i64 t.s, .slice t.a t.l.length t.c] rfl
    (fun j u hj => by
      have hadd : (⟨gn, 0, none⟩ : Addr).add j = ⟨gn, j, none⟩ := by unfold Addr.add; split <;> simp_all
      rw [hadd]
      exact blk_cell hu (by simpa using hj))
    (fun u hu' => by simp at hu'; rcases hu' with rfl | rfl <;> rfl) (by unfold maxLen; omega) (by omega) (Nat.zero_le _)
  have hfin := h v' w' (ItO.of_own (B := 0) (by simpa [icells_append, icells] using h2)) h3 h5
  unfold Oper.wp execOp
  simp only [ho, resolve, invoke, builtin, Sem.run_bind, Sem.run_pure, Result.andThen_ok, List.map_toArray, List.map_cons, List.map_nil, hv, hx, hr]
  exact hfin

theorem ItO.keepT {w w1 : World} {S : Nat → Prop} {v : Value} {L : List It} {F : Nat → Prop} (h : ItO w S v L) (hk : Keeps F w w1) (hF : ∀ x, F x → S x → ∀ cs, w.heap[x]? ≠ some (.cells cs 63 (0, 0))) : ItO w1 S v L := by
  rcases h with h | ⟨g, c, rfl, hS, hc, hb⟩
  · exact .inl h
  · refine .inr ⟨g, c, rfl, hS, hc, hb.keep hk (fun hx => ?_)⟩
    obtain ⟨cs, h1, _⟩ := hb
    exact hF g hx hS cs h1
/-- A link whose row was written. -/
theorem LkAt.row {w w1 : World} {S : Nat → Prop} {p : Nat} {k k' : Lk} {vi : Value} (h : LkAt w S p k vi) (hk : Keeps (oneB p) w w1) (hp : w1.heap[p]? = some (.cells (lkrow k' vi) 60 (0, 0))) (hL : k'.L = k.L) (hs : 0 ≤ k'.sent ∧ k'.sent ≤ 16777215) (hh : 0 ≤ k'.heard ∧ k'.heard ≤ 9223372036854775807) : LkAt w1 S p k' vi :=
  ⟨h.inS, fun x hx => Nat.lt_of_lt_of_le (h.lt x hx) hk.size, hp, by rw [hL]; exact h.its.keepT hk (fun x hx _ cs hc => by unfold oneB at hx; subst hx; rw [h.ptr] at hc; simp at hc), fun t ht => ⟨(h.bods t (hL ▸ ht)).1.keep hk (fun x hx _ cs hc => by unfold oneB at hx; subst hx; rw [h.ptr] at hc; simp at hc), (h.bods t (hL ▸ ht)).2⟩, by rw [hL]; exact h.few, hs, hh⟩
theorem lkrow_u8 {k : Lk} {a : Option Addr} {n c j : Nat} {z : Int} : (lkrow k (.slice a n c))[j]? ≠ some (.int .u8 z) := by
  intro h
  match j with
  | 0 => simp [lkrow] at h
  | 1 => simp [lkrow] at h
  | 2 => simp [lkrow] at h
  | 3 => simp [lkrow] at h
  | 4 => simp [lkrow] at h
  | 5 => simp [lkrow] at h
  | 6 => simp [lkrow] at h
  | 7 => simp [lkrow] at h
  | 8 => simp [lkrow] at h
  | 9 => simp [lkrow] at h
  | j + 10 => simp [lkrow] at h
theorem ByR.off {w : World} {E : Nat → Prop} {a : Option Addr} {l : List Int} {S : Nat → Prop} {p : Nat} {k : Lk} {vi : Value} (h : ByR w E a l) (hp : LkAt w S p k vi) : ByR w (fun x => E x ∧ x ≠ p) a l := by
  intro i hi
  obtain ⟨b, off, ha, hE, hlt, hc⟩ := h i hi
  refine ⟨b, off, ha, ⟨hE, fun e => ?_⟩, hlt, hc⟩
  subst e
  obtain ⟨va, vc, rfl⟩ := hp.its.slice
  rw [cell_of_row w b _ _ _ _ hp.ptr] at hc
  exact lkrow_u8 hc

theorem clone_d (l : List Int) (hl : l.length ≤ 1000000) (D : Nat → Prop) (a : Option Addr) (cap : Nat) (w wd : World) (hk : Keeps noB w wd) (hs : wd.heap.size = w.heap.size) (he : ByR w D a l) :
    Calls Try.prog 21 #[.slice a l.length cap] wd fun e w' => ∃ a' c', RetK noB (.slice a' l.length c') w e w' ∧ ByO w' w.heap.size a' c' l := by
  refine (clone_c l hl D a cap wd (he.keep hk (fun b _ => noB_not b))).mono ?_
  rintro e w' ⟨a', c', ⟨h1, h2⟩, h3⟩
  exact ⟨a', c', ⟨h1, hk.trans_no h2⟩, by rw [← hs]; exact h3⟩
theorem grownK {w W w3 : World} {v v' : Value} (hk : Keeps noB w W) (g : W.grownBy w3 v.ownBlock) (g3 : v'.ownBlock = v.ownBlock ∨ v'.ownBlock = some W.heap.size) :
    Keeps (fun x => v.ownBlock = some x) w w3 ∧ (v'.ownBlock = v.ownBlock ∨ ∃ x, v'.ownBlock = some x ∧ w.heap.size ≤ x) :=
  ⟨hk.of_no.grown g (fun _ hk => .inr hk), g3.imp id (fun h => ⟨_, h, hk.size⟩)⟩
theorem ItO.blk {w : World} {S : Nat → Prop} {v : Value} {L : List It} (h : ItO w S v L) {x : Nat} (hx : v.ownBlock = some x) : S x ∧ ∃ cs, w.heap[x]? = some (.cells cs 63 (0, 0)) := by
  rcases h with ⟨rfl, _⟩ | ⟨g, c, rfl, hS, _, cs, hb, _⟩
  · simp [Value.ownBlock] at hx
  · simp [Value.ownBlock] at hx
    subst hx
    exact ⟨hS, cs, hb⟩
/-- What Push answers. -/
def pushE (k : Lk) (l : List Int) : Int := if 700 < l.length then 101 else if 16777215 ≤ k.sent then 112 else if 8 ≤ k.L.length then 111 else 0
def Lk.add (k : Lk) (t : It) : Lk := { k with L := k.L ++ [t], sent := k.sent + 1 }

set_option maxRecDepth 100000 in
set_option maxHeartbeats 8000000 in
theorem push_c {w : World} {S : Nat → Prop} {p : Nat} {k : Lk} {vi : Value} (h : LkAt w S p k vi) (E : Nat → Prop) (a : Option Addr) (l : List Int) (cap : Nat) (hl : l.length ≤ 140737488351232) (hr : ByR w E a l) :
    Calls Try.prog 11 #[.pointer (some ⟨p, 0, none⟩), .slice a l.length cap] w fun e w' => RetK S (.int .i64 (pushE k l)) w e w' ∧
      ∃ S', (∀ x, S x → S' x) ∧ (∀ x, S' x → S x ∨ w.heap.size ≤ x) ∧ ∃ vi' t, t.s = k.sent + 1 ∧ t.l = l ∧ LkAt w' S' p (if pushE k l = 0 then k.add t else k) vi' := by
  have h8 := h.c8
  have f8 := h.fr 8
  obtain ⟨ia, ic, hvi⟩ := h.its.slice
  have hsb := h.sb
  have hfew := h.few
  by_cases h1 : 700 < l.length
  · have d1 : decide ((l.length : Int) > 700) = true := decide_eq_true (by omega)
    have hp : pushE k l = 101 := by unfold pushE; rw [if_pos h1]
    have HH := Lib.hid h
    clear h
    rw [hp]
    go_enter Try.func11, Try.ntmps11
    go_wp2_with fail
    go_ret
    exact ⟨⟨rfl, Keeps.refl _ _⟩, S, fun _ h => h, fun _ h => .inl h, _, ⟨k.sent + 1, none, 0, l⟩, rfl, rfl, HH.out⟩
  · have d1 : decide ((l.length : Int) > 700) = false := decide_eq_false (by omega)
    by_cases h2 : 16777215 ≤ k.sent
    · have d2 : decide (k.sent ≥ 16777215) = true := decide_eq_true h2
      have hp : pushE k l = 112 := by unfold pushE; rw [if_neg h1, if_pos h2]
      have HH := Lib.hid h
      clear h
      rw [hp]
      go_enter Try.func11, Try.ntmps11
      go_wp2_with fail
      go_ret
      exact ⟨⟨rfl, Keeps.refl _ _⟩, S, fun _ h => h, fun _ h => .inl h, _, ⟨k.sent + 1, none, 0, l⟩, rfl, rfl, HH.out⟩
    · have d2 : decide (k.sent ≥ 16777215) = false := decide_eq_false h2
      subst hvi
      have h7 := h.c7
      by_cases h3 : 8 ≤ k.L.length
      · have d3 : decide ((k.L.length : Int) ≥ 8) = true := decide_eq_true (by omega)
        have hp : pushE k l = 111 := by unfold pushE; rw [if_neg h1, if_neg h2, if_pos h3]
        have HH := Lib.hid h
        clear h
        rw [hp]
        go_enter Try.func11, Try.ntmps11
        go_wp2_with fail
        go_ret
        exact ⟨⟨rfl, Keeps.refl _ _⟩, S, fun _ h => h, fun _ h => .inl h, _, ⟨k.sent + 1, none, 0, l⟩, rfl, rfl, HH.out⟩
      · have d3 : decide ((k.L.length : Int) ≥ 8) = false := decide_eq_false (by omega)
        have hp : pushE k l = 0 := by unfold pushE; rw [if_neg h1, if_neg h2, if_neg h3]
        rw [hp]
        go_enter Try.func11, Try.ntmps11
        have hr0 := hr.off h
        have hl7 : l.length ≤ 700 := by omega
        have HH := Lib.hid h
        have HR := Lib.hid hr0
        clear h hr hr0
        go_upto_region 8 with fail
        have h := HH.out
        have hkA : Keeps (oneB p) w (w.setCell ⟨p, 8, none⟩ (.int .i64 (k.sent + 1))) := (Keeps.refl _ _).set1 _ _
        have hA : LkAt (w.setCell ⟨p, 8, none⟩ (.int .i64 (k.sent + 1))) S p { k with sent := k.sent + 1 } (.slice ia k.L.length ic) := h.row hkA (heap_setCell_same _ _ _ _ h.ptr) rfl ⟨by show 0 ≤ k.sent + 1; omega, by show k.sent + 1 ≤ 16777215; omega⟩ h.hb
        have hrA := HR.out.keep hkA (fun b hb h => hb.2 h)
        clear h h8 f8 h7
        generalize w.setCell ⟨p, 8, none⟩ (.int .i64 (k.sent + 1)) = wA at *
        have h7 := hA.c7
        have h8 := hA.c8
        have hC := clone_c l (by omega) _ a cap wA hrA
        have hC1 := clone_d l (by omega) _ a cap wA wA.drew ((Keeps.refl noB wA).drew) rfl hrA
        have hC2 := clone_d l (by omega) _ a cap wA wA.drew.drew ((Keeps.refl noB wA).drew.drew) rfl hrA
        have hsA := hkA.size
        have HA := Lib.hid hA
        clear hA
        go_region_law (first
          | (refine step_append_it rfl _ _ rfl S _ k.L rfl (by first | exact its2.keepT ((Keeps.refl noB w2).alloc _) (fun x hx => hx.elim) | exact its2.keepT (((Keeps.refl noB w2).alloc _).drew) (fun x hx => hx.elim) | exact its2.keepT (((Keeps.refl noB w2).drew).alloc _) (fun x hx => hx.elim) | exact its2.keepT ((((Keeps.refl noB w2).drew).alloc _).drew) (fun x hx => hx.elim)) (by omega) w2.heap.size 1 ⟨k.sent + 1, a2, c2, l⟩ rfl (0, 0) (by first | exact heap_alloc_new w2 _ | exact heap_alloc_new w2.drew _) ?_; intro v' w3 g1 g2 g3; obtain ⟨hk3, g4⟩ := grownK (w := w2) (by first | exact (Keeps.refl noB w2).alloc _ | exact ((Keeps.refl noB w2).alloc _).drew | exact ((Keeps.refl noB w2).drew).alloc _ | exact (((Keeps.refl noB w2).drew).alloc _).drew) g2 g3; clear g2 g3; have hp3 := hk3.blk hA2.ptr (fun hx => by obtain ⟨_, cs, hc⟩ := its2.blk hx; rw [hA2.ptr] at hc; simp at hc); obtain ⟨a3, c3, rfl⟩ := g1.slice; have m7 : w3.cell? ⟨p, 7, none⟩ = some (.slice ia k.L.length ic) := blk_cell hp3 rfl; have f7 := blk_free hp3 7)
          | (go_simp; go_at_call 21; (first | refine hC.mono ?_ | refine hC1.mono ?_ | refine hC2.mono ?_); rintro e w2 ⟨a2, c2, ⟨rfl, hk2⟩, hO2⟩; have hA2 := HA.out.no hk2; have its2 := hA2.its; have h72 := hA2.c7; have h82 := hA2.c8; have h73 := (hA2.no ((Keeps.refl noB w2).alloc (.cells #[.int .i64 (k.sent + 1), .slice a2 l.length c2] 63))).c7))
        all_goals
          go_wp2_with fail
          go_ret
          have hA := HA.out
          simp only [List.length_append, List.length_singleton] at g1 g4
          have hk4 := (Keeps.refl (oneB p) w3).set1 7 (.slice a3 (k.L.length + 1) c3)
          have s2 := hk2.size
          have s3 := hk3.size
          refine ⟨⟨rfl, ?_⟩, fun x => S x ∨ (w.heap.size ≤ x ∧ x < w3.heap.size), fun x hx => .inl hx, fun x hx => hx.imp id (fun h => h.1), .slice a3 (k.L.length + 1) c3, ⟨k.sent + 1, a2, c2, l⟩, rfl, rfl, ?_⟩
          · exact (((hkA.mono (fun x _ hx => by unfold oneB at hx; subst hx; exact hA.inS)).trans_no hk2).trans hk3 (fun x _ hx => (its2.blk hx).1)).trans hk4 (fun x _ hx => by unfold oneB at hx; subst hx; exact hA.inS)
          · refine ⟨.inl hA.inS, fun x hx => ?_, heap_setCell_same _ _ _ _ hp3, ?_, fun t ht => ?_, ?_, ?_, hA.hb⟩
            · rw [setCell_size]
              rcases hx with hx | hx
              · have := hA.lt x hx; omega
              · exact hx.2
            · refine (g1.mono (fun x hx hx3 => ?_)).keepT hk4 (fun x hx _ cs hc => by unfold oneB at hx; subst hx; rw [hp3] at hc; simp at hc)
              rcases g4 with g4 | ⟨y, g4, g5⟩
              · rw [g4] at hx; exact .inl (its2.blk hx).1
              · rw [g4] at hx; simp at hx; subst hx; exact .inr ⟨by omega, hx3⟩
            · have hk34 : Keeps (fun x => (Value.slice ia k.L.length ic).ownBlock = some x ∨ x = p) w2 (w3.setCell ⟨p, 7, none⟩ (.slice a3 (k.L.length + 1) c3)) := (hk3.mono (fun x _ hx => .inl hx)).trans hk4 (fun x _ hx => .inr hx)
              have hno : ∀ x, ((Value.slice ia k.L.length ic).ownBlock = some x ∨ x = p) → ∀ cs, w2.heap[x]? ≠ some (.cells cs 5 (0, 0)) := fun x hx cs hc => by
                rcases hx with hx | hx
                · obtain ⟨_, cs', hc'⟩ := its2.blk hx
                  rw [hc] at hc'; simp at hc'
                · subst hx
                  rw [hA2.ptr] at hc; simp at hc
              rcases List.mem_append.1 ht with ht | ht
              · obtain ⟨b1, b2⟩ := hA2.bods t ht
                exact ⟨(b1.keep hk34 (fun x hx _ => hno x hx)).mono (fun x hx _ => .inl hx), b2⟩
              · rw [List.mem_singleton] at ht
                subst ht
                refine ⟨((ByS.of_o (S := fun x => wA.heap.size ≤ x) hO2 (fun x hx _ => hx)).keep hk34 (fun x hx _ => hno x hx)).mono (fun x hx hx3 => .inr ⟨by omega, by rw [setCell_size] at hx3; exact hx3⟩), hl7⟩
            · show (k.L ++ [_]).length ≤ 8
              simp; omega
            · exact hA.sb
end Go.Proofs.Ytoeikgaikdbpbaa
