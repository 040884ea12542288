/- Got, whatever the packet's body. No condition. -/
import Derived.Test.YtoeikgaikdbpbaaLkSame
namespace Go.Proofs.Ytoeikgaikdbpbaa
open Go.RowKit

set_option maxRecDepth 100000 in
set_option maxHeartbeats 4000000 in
theorem clone_b (l : List Int) (hl : l.length ≤ 140737488351232) (D : Nat → Prop) (a : Option Addr) (cap : Nat) (w : World) (he : ByR w D a l) :
    Calls Try.prog 21 #[.slice a l.length cap] w fun e w' => ∃ a' c', RetK noB (.slice a' l.length c') w e w' ∧ ByO w' w.heap.size a' c' l := by
  have qT : ∀ (w : World) (a : Option Addr) (n c n' c' : Nat), (binOp .eql 22 (.slice a n c) (.slice none n' c')).run Try.prog w = .ok (.bool a.isNone) w := fun w a n c n' c' => Lib.run_eql_slice_nil w _ _ a n c n' c' Try.underlying22
  cases a with
  | none =>
    have := he.nil
    subst this
    go_enter Try.func21, Try.ntmps21
    go_wp2_with fail
    go_ret
    exact ⟨_, _, ⟨rfl, Keeps.refl _ _⟩, .inl ⟨rfl, rfl, rfl⟩⟩
  | some ad =>
    obtain ⟨i1, hi, hz0, hz1, hz2⟩ := info_parts info5
    have hown := own_bytes0 w
    have hnews := (he.keep ((Keeps.refl noB w).alloc (.cells #[] 5)) (fun b _ => noB_not b)).news
    go_enter Try.func21, Try.ntmps21
    go_wp2_with (at_builtin; refine wpList_append_own _ rfl _ _ 22 rfl w.heap.size 5 i1 (.int .u8 0) 1 1 Try.underlying22 hi hz0 hz1 hz2 rfl (by decide) _ _ _ rfl hown ad l.length cap (bcells l) rfl (bcells_len l) hnews (bcells_one l) ?c1 ?c2 ?c3 ?_)
    case c1 => unfold maxLen; omega
    case c2 => omega
    case c3 => rw [alloc_size]; omega
    · intro v' w1 h1 h2 h3
      have hk1 : Keeps noB w w1 := ((Keeps.refl noB w).alloc _).own hown (Nat.le_refl _) h2
      obtain ⟨g, c, rfl, hE⟩ := ByO.of_own (l := l) (by simpa using h1)
      clear h1 h2 h3 hown hnews he qT
      go_wp2_with fail
      go_ret
      exact ⟨_, _, ⟨rfl, hk1⟩, hE⟩
theorem clone_e (l : List Int) (hl : l.length ≤ 140737488351232) (D : Nat → Prop) (a : Option Addr) (cap : Nat) (w wd : World) (hk : Keeps noB w wd) (hs : wd.heap.size = w.heap.size) (he : ByR w D a l) :
    Calls Try.prog 21 #[.slice a l.length cap] wd fun e w' => ∃ a' c', RetK noB (.slice a' l.length c') w e w' ∧ ByO w' w.heap.size a' c' l := by
  refine (clone_b l hl D a cap wd (he.keep hk (fun b _ => noB_not b))).mono ?_
  rintro e w' ⟨a', c', ⟨h1, h2⟩, h3⟩
  exact ⟨a', c', ⟨h1, hk.trans_no h2⟩, by rw [← hs]; exact h3⟩
set_option maxRecDepth 100000 in
set_option maxHeartbeats 8000000 in
theorem got_b {w : World} {S : Nat → Prop} {p : Nat} {k : Lk} {vi : Value} (h : LkAt w S p k vi) (q : Pq) (E : Nat → Prop) (hE : ∀ x, E x → ¬ S x) (ab : Option Addr) (cb : Nat) (hl : q.l.length ≤ 140737488351232) (hr : ByR w E ab q.l) (hs : -9223372036854775808 ≤ q.s ∧ q.s ≤ 9223372036854775807) :
    Calls Try.prog 13 #[.pointer (some ⟨p, 0, none⟩), .agg #[.int .i64 q.c, .int .i64 q.e, .int .i64 q.b, .int .i64 q.s, .int .i64 q.k, .bool q.v, .slice ab q.l.length cb]] w fun e w' => ∃ a' c', RetK S (.tuple #[.slice a' (gotL k q).length c', .bool (k.takes q)]) w e w' ∧ (∃ vi', LkAt w' S p (k.got q) vi') ∧ ByO w' w.heap.size a' c' (gotL k q) := by
  have hkA : Keeps noB w (w.alloc (.cells #[.int .i64 q.c, .int .i64 q.e, .int .i64 q.b, .int .i64 q.s, .int .i64 q.k, .bool q.v, .slice ab q.l.length cb] 24)) := (Keeps.refl _ _).alloc _
  have hA := h.no hkA
  have hm := mine_c hA q.c q.e q.b q.s q.k q.v ab q.l.length cb
  have h5 := heap_alloc_new w (.cells #[.int .i64 q.c, .int .i64 q.e, .int .i64 q.b, .int .i64 q.s, .int .i64 q.k, .bool q.v, .slice ab q.l.length cb] 24)
  have hrA := hr.keep hkA (fun b _ => noB_not b)
  obtain ⟨ia, ic, hvi⟩ := h.its.slice
  subst hvi
  have hwl : ∀ x, S x → x < w.heap.size := h.lt
  have hsA := alloc_size w (.cells #[.int .i64 q.c, .int .i64 q.e, .int .i64 q.b, .int .i64 q.s, .int .i64 q.k, .bool q.v, .slice ab q.l.length cb] 24)
  have HA := Lib.hid hA
  have H5 := Lib.hid h5
  have HR := Lib.hid hrA
  clear hA h5 hrA h hr
  cases hmi : mineB k q.c q.e q.b q.k q.v
  · have ht : k.takes q = false := by unfold Lk.takes Lk.mine; rw [hmi]; rfl
    have hg : k.got q = k := by unfold Lk.got Lk.mine; rw [hmi]; rfl
    have hgl : gotL k q = [] := by unfold gotL; rw [ht]; rfl
    rw [hmi] at hm
    rw [ht, hg, hgl]
    clear ht hg hgl hmi
    go_enter Try.func13, Try.ntmps13
    go_wp2_with fail
    refine hm.mono ?_
    rintro e w1 ⟨rfl, hk1⟩
    go_wp2_with fail
    go_ret2
    exact ⟨none, 0, ⟨rfl, (hkA.trans_no hk1).of_no⟩, ⟨_, HA.out.no hk1⟩, .inl ⟨rfl, rfl, rfl⟩⟩
  · rw [hmi] at hm
    have hmq : k.mine q = true := hmi
    clear hmi
    go_enter Try.func13, Try.ntmps13
    go_wp2_with fail
    refine hm.mono ?_
    rintro e w1 ⟨rfl, hk1⟩
    have hA1 := HA.out.no hk1
    have h51 := hk1.blk H5.out (noB_not _)
    have h7 := hA1.c7
    have hD := delete_c hA1.its (by have := hA1.few; omega) w.heap.size q.k _ rfl h51
    have HA1 := Lib.hid hA1
    clear hA1 hm
    go_wp2_with fail
    refine hD.mono ?_
    rintro e w2 ⟨a2, c2, ⟨rfl, hk2⟩, hI2⟩
    clear hD
    have hA1 := HA1.out
    have hp2 : w2.heap[p]? = some (.cells (lkrow k (.slice ia k.L.length ic)) 60 (0, 0)) := hk2.blk hA1.ptr (fun hx => by
      obtain ⟨_, cs, hc⟩ := hA1.its.blk hx
      rw [hA1.ptr] at hc; simp at hc)
    have h72 : w2.cell? ⟨p, 7, none⟩ = some (.slice ia k.L.length ic) := blk_cell hp2 rfl
    have f72 := blk_free hp2 7
    have hk3 : Keeps (oneB p) w2 (w2.setCell ⟨p, 7, none⟩ (.slice a2 (kept q.k k.L).length c2)) := (Keeps.refl _ w2).set1 _ _
    have hpw : p < w.heap.size := hwl p hA1.inS
    have h52 : w2.heap[w.heap.size]? = some (.cells #[.int .i64 q.c, .int .i64 q.e, .int .i64 q.b, .int .i64 q.s, .int .i64 q.k, .bool q.v, .slice ab q.l.length cb] 24 (0, 0)) := hk2.blk h51 (fun hx => by
      have := hwl _ (hA1.its.blk hx).1
      omega)
    have h53 := hk3.blk h52 (fun hx => by unfold oneB at hx; omega)
    have hA3 : LkAt (w2.setCell ⟨p, 7, none⟩ (.slice a2 (kept q.k k.L).length c2)) S p { k with L := kept q.k k.L } (.slice a2 (kept q.k k.L).length c2) := by
      refine ⟨hA1.inS, fun x hx => ?_, heap_setCell_same _ _ _ _ hp2, ?_, fun t ht => ?_, ?_, hA1.sb, hA1.hb⟩
      · have := hA1.lt x hx; have := hk2.size; rw [setCell_size]; omega
      · exact hI2.keepT hk3 (fun x hx _ cs hc => by unfold oneB at hx; subst hx; rw [hp2] at hc; simp at hc)
      · obtain ⟨b1, b2⟩ := hA1.bods t (kept_mem ht)
        refine ⟨(b1.keep hk2 (fun x hx _ cs hc => ?_)).keep hk3 (fun x hx _ cs hc => ?_), b2⟩
        · obtain ⟨_, cs', hc'⟩ := hA1.its.blk hx
          rw [hc] at hc'; simp at hc'
        · unfold oneB at hx; subst hx; rw [hp2] at hc; simp at hc
      · have := kept_le q.k k.L; have := hA1.few; show (kept q.k k.L).length ≤ 8; omega
    have hkS : Keeps S w (w2.setCell ⟨p, 7, none⟩ (.slice a2 (kept q.k k.L).length c2)) := (((hkA.trans_no hk1).of_no).trans hk2 (fun x _ hx => (hA1.its.blk hx).1)).trans hk3 (fun x _ hx => by unfold oneB at hx; subst hx; exact hA1.inS)
    have hr3 : ByR (w2.setCell ⟨p, 7, none⟩ (.slice a2 (kept q.k k.L).length c2)) E ab q.l := ((HR.out.keep hk1 (fun b _ => noB_not b)).keep hk2 (fun b hb hx => hE b hb (hA1.its.blk hx).1)).keep hk3 (fun b hb hx => by unfold oneB at hx; subst hx; exact hE b hb hA1.inS)
    have hkp : k.got q = { k with L := kept q.k k.L, heard := if 1 ≤ q.s ∧ q.s - 1 = k.heard then q.s else k.heard } := by unfold Lk.got; rw [hmq]; rfl
    have htk : k.takes q = decide (1 ≤ q.s ∧ q.s - 1 = k.heard) := by unfold Lk.takes; rw [hmq]; rfl
    have hhb := hA1.hb
    clear hI2 h51 h52 hk1 hk2 hk3 hA1
    go_upto_region 4 with fail
    have q3 := blk_cell h53 (i := 3) rfl
    have q6 := blk_cell h53 (i := 6) rfl
    have c9 := hA3.c9
    have f9 := hA3.fr 9
    simp only at c9
    have H3 := Lib.hid hA3
    have H53 := Lib.hid h53
    have HK := Lib.hid hkp
    have HT := Lib.hid htk
    clear hA3 h53 hkp htk h72 f72
    generalize w2.setCell ⟨p, 7, none⟩ (.slice a2 (kept q.k k.L).length c2) = w3 at *
    by_cases h1 : q.s < 1
    · have d1 : decide (q.s < 1) = true := decide_eq_true h1
      go_quiet (fail)
      go_wp2_with fail
      go_ret2
      have hn : ¬ (1 ≤ q.s ∧ q.s - 1 = k.heard) := by omega
      have ht : k.takes q = false := by rw [HT.out]; exact decide_eq_false hn
      have hg : k.got q = { k with L := kept q.k k.L } := by rw [HK.out, if_neg hn]
      have hgl : gotL k q = [] := by unfold gotL; rw [ht]; rfl
      rw [ht, hg, hgl]
      exact ⟨none, 0, ⟨rfl, hkS.drewN _⟩, ⟨_, H3.out.no ((Keeps.refl noB _).drewN _)⟩, .inl ⟨rfl, rfl, rfl⟩⟩
    · have d1 : decide (q.s < 1) = false := decide_eq_false h1
      by_cases h2 : q.s - 1 = k.heard
      · have d2 : (q.s - 1 != k.heard) = false := by simp [h2]
        have hn : 1 ≤ q.s ∧ q.s - 1 = k.heard := ⟨by omega, h2⟩
        have ht : k.takes q = true := by rw [HT.out]; exact decide_eq_true hn
        have hg : k.got q = { k with L := kept q.k k.L, heard := q.s } := by rw [HK.out, if_pos hn]
        have hgl : gotL k q = q.l := by unfold gotL; rw [ht]; rfl
        have HG := Lib.hid (And.intro ht (And.intro hg hgl))
        have hq0 := hn.1
        clear h2 ht hg hgl hn
        go_quiet (fail)
        have hkB : Keeps (oneB p) w3 ((w3.drewN nq).setCell ⟨p, 9, none⟩ (.int .i64 q.s)) := ((Keeps.refl _ w3).drewN nq).set1 _ _
        have hB : LkAt ((w3.drewN nq).setCell ⟨p, 9, none⟩ (.int .i64 q.s)) S p { k with L := kept q.k k.L, heard := q.s } (.slice a2 (kept q.k k.L).length c2) := H3.out.row hkB (heap_setCell_same _ _ _ _ ((((Keeps.refl noB w3).drewN nq)).blk H3.out.ptr (noB_not _))) rfl H3.out.sb ⟨by show 0 ≤ q.s; omega, hs.2⟩
        have h5B := hkB.blk H53.out (fun hx => by unfold oneB at hx; omega)
        have q6B := blk_cell h5B (i := 6) rfl
        have hrB := hr3.keep hkB (fun b hb hx => by unfold oneB at hx; subst hx; exact hE b hb H3.out.inS)
        have hC := clone_b q.l hl E ab cb _ hrB
        have hsw := hkS.size
        have hkBS : Keeps S w3 ((w3.drewN nq).setCell ⟨p, 9, none⟩ (.int .i64 q.s)) := hkB.mono (fun x _ hx => by unfold oneB at hx; subst hx; exact H3.out.inS)
        have hsB := hkB.size
        have HB := Lib.hid hB
        have H5B := Lib.hid h5B
        clear hB h5B
        go_wp2_with fail
        refine hC.mono ?_
        rintro e w5 ⟨a5, c5, ⟨rfl, hk5⟩, hO5⟩
        clear hC
        go_wp2_with fail
        go_ret2
        obtain ⟨ht, hg, hgl⟩ := HG.out
        rw [ht, hg, hgl]
        refine ⟨a5, c5, ⟨rfl, (hkS.trans hkBS (fun _ _ h => h)).trans_no hk5⟩, ⟨_, HB.out.no hk5⟩, hO5.lower (by omega)⟩
      · have d2 : (q.s - 1 != k.heard) = true := by simp [h2]
        go_quiet (fail)
        go_wp2_with fail
        go_ret2
        have hn : ¬ (1 ≤ q.s ∧ q.s - 1 = k.heard) := by omega
        have ht : k.takes q = false := by rw [HT.out]; exact decide_eq_false hn
        have hg : k.got q = { k with L := kept q.k k.L } := by rw [HK.out, if_neg hn]
        have hgl : gotL k q = [] := by unfold gotL; rw [ht]; rfl
        rw [ht, hg, hgl]
        exact ⟨none, 0, ⟨rfl, hkS.drewN _⟩, ⟨_, H3.out.no ((Keeps.refl noB _).drewN _)⟩, .inl ⟨rfl, rfl, rfl⟩⟩
end Go.Proofs.Ytoeikgaikdbpbaa
