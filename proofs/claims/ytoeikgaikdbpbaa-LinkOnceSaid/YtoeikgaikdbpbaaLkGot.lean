/- Got: a packet comes. No condition. -/
import Derived.Test.YtoeikgaikdbpbaaLkG
namespace Go.Proofs.Ytoeikgaikdbpbaa
open Go.RowKit

theorem index0_c (bp : Nat) (w : World) : Calls Try.prog 27 #[.slice none 0 0, .func (.func 25) #[] #[.pointer (some ⟨bp, 0, none⟩)]] w (RetK noB (.int .i64 (-1)) w) := by
  go_enter Try.func27, Try.ntmps27
  go_wp2_with fail
  go_loopw [8] (fun i wr => i = .int .i64 0 ∧ Keeps noB w wr) (fun _ _ => 0)
  case atStart => exact ⟨rfl, Keeps.refl _ _⟩
  case round =>
    obtain ⟨rfl, hkp⟩ := hrel
    go_wp2_with fail
    go_ret
    exact ⟨rfl, hkp⟩
theorem delete0_c (bp : Nat) (w : World) : Calls Try.prog 24 #[.slice none 0 0, .func (.func 25) #[] #[.pointer (some ⟨bp, 0, none⟩)]] w (RetK noB (.slice none 0 0) w) := by
  go_enter Try.func24, Try.ntmps24
  go_wp2_with fail
  refine (index0_c bp w).mono ?_
  rintro e w1 ⟨rfl, hk1⟩
  go_wp2_with fail
  go_ret
  exact ⟨rfl, hk1⟩
theorem delete_c {w : World} {S : Nat → Prop} {v : Value} {L : List It} (h : ItO w S v L) (hl : L.length ≤ 1000) (bp : Nat) (ack : Int) (cs : Array Value) (hcs : cs[4]? = some (.int .i64 ack)) (hb : w.heap[bp]? = some (.cells cs 24 (0, 0))) :
    Calls Try.prog 24 #[v, .func (.func 25) #[] #[.pointer (some ⟨bp, 0, none⟩)]] w fun e w' => ∃ a' c', RetK (fun x => v.ownBlock = some x) (.slice a' (kept ack L).length c') w e w' ∧ ItO w' S (.slice a' (kept ack L).length c') (kept ack L) := by
  rcases h with ⟨rfl, rfl⟩ | ⟨g, c, rfl, hS, hc, hi⟩
  · refine (delete0_c bp w).mono ?_
    rintro e w' ⟨rfl, hk⟩
    exact ⟨none, 0, ⟨rfl, hk.of_no⟩, .inl ⟨rfl, rfl⟩⟩
  · have hne : bp ≠ g := fun e => by
      obtain ⟨cs', hg, _⟩ := hi
      rw [← e, hb] at hg
      simp at hg
    refine (deleteF_c L hl g c hc bp hne ack cs hcs w hi hb).mono ?_
    rintro e w' ⟨⟨rfl, hk⟩, hi'⟩
    exact ⟨_, _, ⟨rfl, hk.mono (fun x _ hx => by unfold oneB at hx; subst hx; rfl)⟩, .inr ⟨g, c, rfl, hS, hc, hi'⟩⟩

/-- A packet: session, numbers, end, bytes. -/
structure Pq where
  c : Int
  e : Int
  b : Int
  s : Int
  k : Int
  v : Bool
  l : List Int
def Lk.mine (k : Lk) (q : Pq) : Bool := mineB k q.c q.e q.b q.k q.v
def Lk.takes (k : Lk) (q : Pq) : Bool := k.mine q && decide (1 ≤ q.s ∧ q.s - 1 = k.heard)
def Lk.got (k : Lk) (q : Pq) : Lk := if k.mine q then { k with L := kept q.k k.L, heard := if 1 ≤ q.s ∧ q.s - 1 = k.heard then q.s else k.heard } else k
def gotL (k : Lk) (q : Pq) : List Int := if k.takes q then q.l else []
theorem kept_mem {c : Int} {L : List It} {t : It} (h : t ∈ kept c L) : t ∈ L := (List.mem_filter.1 h).1

set_option maxRecDepth 100000 in
set_option maxHeartbeats 8000000 in
theorem got_c {w : World} {S : Nat → Prop} {p : Nat} {k : Lk} {vi : Value} (h : LkAt w S p k vi) (q : Pq) (E : Nat → Prop) (hE : ∀ x, E x → ¬ S x) (ab : Option Addr) (cb : Nat) (hl : q.l.length ≤ 1000000) (hr : ByR w E ab q.l) (hs : -9223372036854775808 ≤ q.s ∧ q.s ≤ 9223372036854775807) :
    Calls Try.prog 13 #[.pointer (some ⟨p, 0, none⟩), .agg #[.int .i64 q.c, .int .i64 q.e, .int .i64 q.b, .int .i64 q.s, .int .i64 q.k, .bool q.v, .slice ab q.l.length cb]] w fun e w' => ∃ a' c', RetK S (.tuple #[.slice a' (gotL k q).length c', .bool (k.takes q)]) w e w' ∧ (∃ vi', LkAt w' S p (k.got q) vi') ∧ ByO w' w.heap.size a' c' (gotL k q) := by
  have hkA : Keeps noB w (w.alloc (.cells #[.int .i64 q.c, .int .i64 q.e, .int .i64 q.b, .int .i64 q.s, .int .i64 q.k, .bool q.v, .slice ab q.l.length cb] 24)) := (Keeps.refl _ _).alloc _
  have hA := h.no hkA
  have hm := mine_c hA q.c q.e q.b q.s q.k q.v ab q.l.length cb
  have h5 := heap_alloc_new w (.cells #[.int .i64 q.c, .int .i64 q.e, .int .i64 q.b, .int .i64 q.s, .int .i64 q.k, .bool q.v, .slice ab q.l.length cb] 24)
  have hrA := hr.keep hkA (fun b _ => noB_not b)
  obtain ⟨ia, ic, hvi⟩ := h.its.slice
  subst hvi
  have hwl : ∀ x, S x → x < w.heap.size := h.lt
  have hsA := alloc_size w (.cells #[.int .i64 q.c, .int .i64 q.e, .int .i64 q.b, .int .i64 q.s, .int .i64 q.k, .bool q.v, .slice ab q.l.length cb] 24)
  have HA := Lib.hid hA
  have H5 := Lib.hid h5
  have HR := Lib.hid hrA
  clear hA h5 hrA h hr
  cases hmi : mineB k q.c q.e q.b q.k q.v
  · have ht : k.takes q = false := by unfold Lk.takes Lk.mine; rw [hmi]; rfl
    have hg : k.got q = k := by unfold Lk.got Lk.mine; rw [hmi]; rfl
    have hgl : gotL k q = [] := by unfold gotL; rw [ht]; rfl
    rw [hmi] at hm
    rw [ht, hg, hgl]
    clear ht hg hgl hmi
    go_enter Try.func13, Try.ntmps13
    go_wp2_with fail
    refine hm.mono ?_
    rintro e w1 ⟨rfl, hk1⟩
    go_wp2_with fail
    go_ret2
    exact ⟨none, 0, ⟨rfl, (hkA.trans_no hk1).of_no⟩, ⟨_, HA.out.no hk1⟩, .inl ⟨rfl, rfl, rfl⟩⟩
  · rw [hmi] at hm
    have hmq : k.mine q = true := hmi
    clear hmi
    go_enter Try.func13, Try.ntmps13
    go_wp2_with fail
    refine hm.mono ?_
    rintro e w1 ⟨rfl, hk1⟩
    have hA1 := HA.out.no hk1
    have h51 := hk1.blk H5.out (noB_not _)
    have h7 := hA1.c7
    have hD := delete_c hA1.its (by have := hA1.few; omega) w.heap.size q.k _ rfl h51
    have HA1 := Lib.hid hA1
    clear hA1 hm
    go_wp2_with fail
    refine hD.mono ?_
    rintro e w2 ⟨a2, c2, ⟨rfl, hk2⟩, hI2⟩
    clear hD
    have hA1 := HA1.out
    have hp2 : w2.heap[p]? = some (.cells (lkrow k (.slice ia k.L.length ic)) 60 (0, 0)) := hk2.blk hA1.ptr (fun hx => by
      obtain ⟨_, cs, hc⟩ := hA1.its.blk hx
      rw [hA1.ptr] at hc; simp at hc)
    have h72 : w2.cell? ⟨p, 7, none⟩ = some (.slice ia k.L.length ic) := blk_cell hp2 rfl
    have f72 := blk_free hp2 7
    have hk3 : Keeps (oneB p) w2 (w2.setCell ⟨p, 7, none⟩ (.slice a2 (kept q.k k.L).length c2)) := (Keeps.refl _ w2).set1 _ _
    have hpw : p < w.heap.size := hwl p hA1.inS
    have h52 : w2.heap[w.heap.size]? = some (.cells #[.int .i64 q.c, .int .i64 q.e, .int .i64 q.b, .int .i64 q.s, .int .i64 q.k, .bool q.v, .slice ab q.l.length cb] 24 (0, 0)) := hk2.blk h51 (fun hx => by
      have := hwl _ (hA1.its.blk hx).1
      omega)
    have h53 := hk3.blk h52 (fun hx => by unfold oneB at hx; omega)
    have hA3 : LkAt (w2.setCell ⟨p, 7, none⟩ (.slice a2 (kept q.k k.L).length c2)) S p { k with L := kept q.k k.L } (.slice a2 (kept q.k k.L).length c2) := by
      refine ⟨hA1.inS, fun x hx => ?_, heap_setCell_same _ _ _ _ hp2, ?_, fun t ht => ?_, ?_, hA1.sb, hA1.hb⟩
      · have := hA1.lt x hx; have := hk2.size; rw [setCell_size]; omega
      · exact hI2.keepT hk3 (fun x hx _ cs hc => by unfold oneB at hx; subst hx; rw [hp2] at hc; simp at hc)
      · obtain ⟨b1, b2⟩ := hA1.bods t (kept_mem ht)
        refine ⟨(b1.keep hk2 (fun x hx _ cs hc => ?_)).keep hk3 (fun x hx _ cs hc => ?_), b2⟩
        · obtain ⟨_, cs', hc'⟩ := hA1.its.blk hx
          rw [hc] at hc'; simp at hc'
        · unfold oneB at hx; subst hx; rw [hp2] at hc; simp at hc
      · have := kept_le q.k k.L; have := hA1.few; show (kept q.k k.L).length ≤ 8; omega
    have hkS : Keeps S w (w2.setCell ⟨p, 7, none⟩ (.slice a2 (kept q.k k.L).length c2)) := (((hkA.trans_no hk1).of_no).trans hk2 (fun x _ hx => (hA1.its.blk hx).1)).trans hk3 (fun x _ hx => by unfold oneB at hx; subst hx; exact hA1.inS)
    have hr3 : ByR (w2.setCell ⟨p, 7, none⟩ (.slice a2 (kept q.k k.L).length c2)) E ab q.l := ((HR.out.keep hk1 (fun b _ => noB_not b)).keep hk2 (fun b hb hx => hE b hb (hA1.its.blk hx).1)).keep hk3 (fun b hb hx => by unfold oneB at hx; subst hx; exact hE b hb hA1.inS)
    have hkp : k.got q = { k with L := kept q.k k.L, heard := if 1 ≤ q.s ∧ q.s - 1 = k.heard then q.s else k.heard } := by unfold Lk.got; rw [hmq]; rfl
    have htk : k.takes q = decide (1 ≤ q.s ∧ q.s - 1 = k.heard) := by unfold Lk.takes; rw [hmq]; rfl
    have hhb := hA1.hb
    clear hI2 h51 h52 hk1 hk2 hk3 hA1
    go_upto_region 4 with fail
    have q3 := blk_cell h53 (i := 3) rfl
    have q6 := blk_cell h53 (i := 6) rfl
    have c9 := hA3.c9
    have f9 := hA3.fr 9
    simp only at c9
    have H3 := Lib.hid hA3
    have H53 := Lib.hid h53
    have HK := Lib.hid hkp
    have HT := Lib.hid htk
    clear hA3 h53 hkp htk h72 f72
    generalize w2.setCell ⟨p, 7, none⟩ (.slice a2 (kept q.k k.L).length c2) = w3 at *
    by_cases h1 : q.s < 1
    · have d1 : decide (q.s < 1) = true := decide_eq_true h1
      go_quiet (fail)
      go_wp2_with fail
      go_ret2
      have hn : ¬ (1 ≤ q.s ∧ q.s - 1 = k.heard) := by omega
      have ht : k.takes q = false := by rw [HT.out]; exact decide_eq_false hn
      have hg : k.got q = { k with L := kept q.k k.L } := by rw [HK.out, if_neg hn]
      have hgl : gotL k q = [] := by unfold gotL; rw [ht]; rfl
      rw [ht, hg, hgl]
      exact ⟨none, 0, ⟨rfl, hkS.drewN _⟩, ⟨_, H3.out.no ((Keeps.refl noB _).drewN _)⟩, .inl ⟨rfl, rfl, rfl⟩⟩
    · have d1 : decide (q.s < 1) = false := decide_eq_false h1
      by_cases h2 : q.s - 1 = k.heard
      · have d2 : (q.s - 1 != k.heard) = false := by simp [h2]
        have hn : 1 ≤ q.s ∧ q.s - 1 = k.heard := ⟨by omega, h2⟩
        have ht : k.takes q = true := by rw [HT.out]; exact decide_eq_true hn
        have hg : k.got q = { k with L := kept q.k k.L, heard := q.s } := by rw [HK.out, if_pos hn]
        have hgl : gotL k q = q.l := by unfold gotL; rw [ht]; rfl
        have HG := Lib.hid (And.intro ht (And.intro hg hgl))
        have hq0 := hn.1
        clear h2 ht hg hgl hn
        go_quiet (fail)
        have hkB : Keeps (oneB p) w3 ((w3.drewN nq).setCell ⟨p, 9, none⟩ (.int .i64 q.s)) := ((Keeps.refl _ w3).drewN nq).set1 _ _
        have hB : LkAt ((w3.drewN nq).setCell ⟨p, 9, none⟩ (.int .i64 q.s)) S p { k with L := kept q.k k.L, heard := q.s } (.slice a2 (kept q.k k.L).length c2) := H3.out.row hkB (heap_setCell_same _ _ _ _ ((((Keeps.refl noB w3).drewN nq)).blk H3.out.ptr (noB_not _))) rfl H3.out.sb ⟨by show 0 ≤ q.s; omega, hs.2⟩
        have h5B := hkB.blk H53.out (fun hx => by unfold oneB at hx; omega)
        have q6B := blk_cell h5B (i := 6) rfl
        have hrB := hr3.keep hkB (fun b hb hx => by unfold oneB at hx; subst hx; exact hE b hb H3.out.inS)
        have hC := clone_c q.l hl E ab cb _ hrB
        have hsw := hkS.size
        have hkBS : Keeps S w3 ((w3.drewN nq).setCell ⟨p, 9, none⟩ (.int .i64 q.s)) := hkB.mono (fun x _ hx => by unfold oneB at hx; subst hx; exact H3.out.inS)
        have hsB := hkB.size
        have HB := Lib.hid hB
        have H5B := Lib.hid h5B
        clear hB h5B
        go_wp2_with fail
        refine hC.mono ?_
        rintro e w5 ⟨a5, c5, ⟨rfl, hk5⟩, hO5⟩
        clear hC
        go_wp2_with fail
        go_ret2
        obtain ⟨ht, hg, hgl⟩ := HG.out
        rw [ht, hg, hgl]
        refine ⟨a5, c5, ⟨rfl, (hkS.trans hkBS (fun _ _ h => h)).trans_no hk5⟩, ⟨_, HB.out.no hk5⟩, hO5.lower (by omega)⟩
      · have d2 : (q.s - 1 != k.heard) = true := by simp [h2]
        go_quiet (fail)
        go_wp2_with fail
        go_ret2
        have hn : ¬ (1 ≤ q.s ∧ q.s - 1 = k.heard) := by omega
        have ht : k.takes q = false := by rw [HT.out]; exact decide_eq_false hn
        have hg : k.got q = { k with L := kept q.k k.L } := by rw [HK.out, if_neg hn]
        have hgl : gotL k q = [] := by unfold gotL; rw [ht]; rfl
        rw [ht, hg, hgl]
        exact ⟨none, 0, ⟨rfl, hkS.drewN _⟩, ⟨_, H3.out.no ((Keeps.refl noB _).drewN _)⟩, .inl ⟨rfl, rfl, rfl⟩⟩
end Go.Proofs.Ytoeikgaikdbpbaa
