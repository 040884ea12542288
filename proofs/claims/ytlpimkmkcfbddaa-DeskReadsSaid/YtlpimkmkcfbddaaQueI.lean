/- The queue: Gone. No condition. -/
import Derived.Test.YtlpimkmkcfbddaaQueH
namespace Go.Proofs.Ytlpimkmkcfbddaa
open Go.RowKit

theorem val_inj {a b : Kc} (h : a.val = b.val) : a = b := by
  obtain ⟨a1, a2, a3, a4⟩ := a
  obtain ⟨b1, b2, b3, b4⟩ := b
  unfold Kc.val at h
  simp at h
  simp [h]
theorem RngAt.del {w : World} {it m : Nat} {es : Array MapEntry} {seen : Array Nat} {l : List (Kc × Bool)} (h : RngAt w it m es seen l) (k : Kc) :
    ∃ es' c, (∀ ty, (Builtin.delete_ #[134, 140] ty #[.map (some m), k.val]).run Try.prog w = .ok (.tuple #[]) (putObj w m (.map es' c))) ∧ RngAt (putObj w m (.map es' c)) it m es' seen (kdel k l) ∧ es'.toList.Sublist es.toList := by
  have hne := h.ne
  obtain ⟨c, s, c0, hm, hb, hi, hold, hsc⟩ := h.st
  obtain ⟨es', g1, g2, g3, g4⟩ := delete_c hm h.ents hb k
  have hk : Keeps (oneB m) w (putObj w m (.map es' c)) := (Keeps.refl _ _).putObj m _ (.inl rfl)
  exact ⟨es', c, g1, ⟨⟨c, s, c0, putObj_at _ (lt_of_blk hm), g3, hk.blk hi hne, fun x hx => hold x (g4.subset hx), hsc⟩, g2⟩, g4⟩
theorem QAt.map' {w w1 : World} {S : Nat → Prop} {p r : Nat} {v : Value} {ws : List Wt} {l l' : List (Kc × Bool)} (h : QAt w S p r v ws l) (hkr : Keeps (oneB r) w w1) (hm : MapAt w1 r l') : QAt w1 S p r v ws l' ∧ Keeps S w w1 := by
  obtain ⟨es, c, hmr, _⟩ := h.calls
  refine ⟨⟨h.inp, h.inr, fun x hx => Nat.lt_of_lt_of_le (h.lt x hx) hkr.size, hkr.blk h.ptr (fun e => ?_), h.wants.keep hkr (fun x hx _ cs hc => ?_), hm⟩, hkr.mono (fun x _ hx => by unfold oneB at hx; subst hx; exact h.inr)⟩
  · unfold oneB at e; subst e
    rw [h.ptr] at hmr; simp at hmr
  · unfold oneB at hx; subst hx
    rw [hmr] at hc; simp at hc
/-- The loop's state: what was seen, and is there, isn't c's. -/
structure GoneI (w wr : World) (it r : Nat) (c : Int) (l0 : List (Kc × Bool)) (es : Array MapEntry) (seen : Array Nat) (l : List (Kc × Bool)) : Prop where
  rng : RngAt wr it r es seen l
  kp : Keeps (oneB r) w wr
  nd : (l.map (·.1)).Nodup
  same : kgone c l = kgone c l0
  ok : ∀ e, e ∈ es.toList → seen.contains e.born = true → ∀ x, entIs e x → (x.1.h != c) = true
theorem GoneI.keep {w wr wz : World} {it r : Nat} {c : Int} {l0 : List (Kc × Bool)} {es : Array MapEntry} {seen : Array Nat} {l : List (Kc × Bool)} (h : GoneI w wr it r c l0 es seen l) (hk : Keeps noB wr wz) : GoneI w wz it r c l0 es seen l :=
  ⟨h.rng.keep hk (noB_not _) (noB_not _), h.kp.trans_no hk, h.nd, h.same, h.ok⟩
theorem GoneI.done {w wr : World} {it r : Nat} {c : Int} {l0 : List (Kc × Bool)} {es : Array MapEntry} {seen : Array Nat} {l : List (Kc × Bool)} (h : GoneI w wr it r c l0 es seen l) (hall : ∀ e, e ∈ es.toList → seen.contains e.born = true) : l = kgone c l0 := by
  rw [← h.same]
  unfold kgone
  symm
  rw [List.filter_eq_self]
  intro x hx
  obtain ⟨i, hi, rfl⟩ := List.getElem_of_mem hx
  have hi2 : i < es.toList.length := by rw [h.rng.ents.1]; exact hi
  exact h.ok _ (List.getElem_mem hi2) (hall _ (List.getElem_mem hi2)) _ (h.rng.ents.2 i hi2 hi)
/-- An entry has come that isn't c's. -/
theorem GoneI.stays {w wr w1 : World} {it r : Nat} {c : Int} {l0 : List (Kc × Bool)} {es : Array MapEntry} {seen : Array Nat} {l : List (Kc × Bool)} (h : GoneI w wr it r c l0 es seen l) {i : Nat} (hi : i < l.length) {e : MapEntry} (hie : es.toList[i]? = some e)
    (hrg : RngAt w1 it r es (seen.push e.born) l) (hk : Keeps (oneB it) wr w1) (hit : w.heap.size ≤ it) (hc : (l[i].1.h != c) = true) : GoneI w w1 it r c l0 es (seen.push e.born) l := by
  refine ⟨hrg, h.kp.trans hk (fun y hy e => by unfold oneB at e; omega), h.nd, h.same, fun e' he' hs' x hx => ?_⟩
  rw [contains_push, Bool.or_eq_true] at hs'
  rcases hs' with hs' | hs'
  · exact h.ok e' he' hs' x hx
  · obtain ⟨c', _, _, hm', hb', _⟩ := hrg.st
    have hee : e' = e := born_inj hb'.1 he' (List.mem_of_getElem? hie) (by simpa using hs')
    subst hee
    obtain ⟨g1, g2⟩ := List.getElem?_eq_some_iff.1 hie
    have hent := hrg.ents.2 i g1 hi
    rw [g2] at hent
    have : x.1 = l[i].1 := val_inj (hx.1.symm.trans hent.1)
    rw [this]; exact hc
/-- An entry has come that is c's, and is struck. -/
theorem GoneI.goes {w wr w1 w2 w3 : World} {it r : Nat} {c : Int} {l0 : List (Kc × Bool)} {es es' : Array MapEntry} {seen : Array Nat} {l : List (Kc × Bool)} (h : GoneI w wr it r c l0 es seen l) {i : Nat} (hi : i < l.length) {e : MapEntry} (hie : es.toList[i]? = some e)
    (hrg : RngAt w1 it r es (seen.push e.born) l) (hk : Keeps (oneB it) wr w1) (hk2 : Keeps noB w1 w2) (hk3 : Keeps (oneB r) w2 w3) (hit : w.heap.size ≤ it) (hc : (l[i].1.h == c) = true)
    (hrg3 : RngAt w3 it r es' (seen.push e.born) (kdel l[i].1 l)) (hsub : ∀ x, x ∈ es'.toList → x ∈ es.toList) : GoneI w w3 it r c l0 es' (seen.push e.born) (kdel l[i].1 l) := by
  refine ⟨hrg3, ((h.kp.trans hk (fun y hy e => by unfold oneB at e; omega)).trans_no hk2).trans hk3 (fun _ _ e => e), knodup_del h.nd, (kgone_del h.nd hc).trans h.same, fun e' he' hs' x hx => ?_⟩
  rw [contains_push, Bool.or_eq_true] at hs'
  rcases hs' with hs' | hs'
  · exact h.ok e' (hsub e' he') hs' x hx
  · exfalso
    obtain ⟨c', _, _, hm', hb', _⟩ := hrg.st
    have hee : e' = e := born_inj hb'.1 (hsub e' he') (List.mem_of_getElem? hie) (by simpa using hs')
    subst hee
    obtain ⟨g1, g2⟩ := List.getElem?_eq_some_iff.1 hie
    have hent := hrg.ents.2 i g1 hi
    rw [g2] at hent
    obtain ⟨j, hj, hje⟩ := List.getElem_of_mem he'
    have hj2 : j < (kdel l[i].1 l).length := by rw [← hrg3.ents.1]; exact hj
    have hent3 := hrg3.ents.2 j hj hj2
    rw [hje] at hent3
    have hkk : (kdel l[i].1 l)[j].1 = l[i].1 := val_inj (hent3.1.symm.trans hent.1)
    have hmem := List.getElem_mem hj2
    generalize (kdel l[i].1 l)[j] = y at *
    rw [kdel_filter h.nd] at hmem
    have := (List.mem_filter.1 hmem).2
    simp [hkk] at this

set_option maxRecDepth 100000 in
set_option maxHeartbeats 8000000 in
theorem gone_c {w : World} {S : Nat → Prop} {p r : Nat} {v : Value} {ws : List Wt} {l : List (Kc × Bool)} (hq : QAt w S p r v ws l) (hl : ws.length ≤ 1000) (hn : (l.map (·.1)).Nodup) (c : Int) :
    Calls Try.prog 61 #[.pointer (some ⟨p, 0, none⟩), .int .i64 c] w fun e w' => RetK S (.tuple #[]) w e w' ∧ ∃ S', (∀ y, S y → S' y) ∧ (∀ y, S' y → S y ∨ w.heap.size ≤ y) ∧ ∃ v', QAt w' S' p r v' (rmW c ws) (kgone c l) := by
  have hrm := remove_c hq hl c
  clear hq
  go_enter Try.func61, Try.ntmps61
  go_wp2_with fail
  refine hrm.mono ?_
  rintro e w1 ⟨⟨rfl, hk1⟩, S', hS1, hS2, v', hq1⟩
  clear hrm
  obtain ⟨es, c0, hrun, hrg⟩ := range_c hq1.calls
  have c1 := blk_cell hq1.ptr (i := 1) rfl
  have hI0 : GoneI w1 (w1.alloc (.mapIter (some r) c0 #[] c0)) w1.heap.size r c l es #[] l := ⟨hrg, (Keeps.refl _ _).alloc _, hn, rfl, fun e _ hs => by simp at hs⟩
  have HI0 := Lib.hid hI0
  have HQ1 := Lib.hid hq1
  have HN := Lib.hid hn
  clear hrg hq1 hI0 hn
  go_wp2_with fail
  go_loopw [13] (fun _ wr => ∃ es seen l', GoneI w1 wr w1.heap.size r c l es seen l')
    (fun _ wr => wr.rangeLeft r w1.heap.size)
  case atStart => exact ⟨_, _, _, HI0.out⟩
  case round =>
    clear c1 hrun HI0
    obtain ⟨es, seen, l', hI⟩ := hrel
    have HI := Lib.hid hI
    have hle := hI.rng.left_eq
    have HLE := Lib.hid hle
    clear hle
    rcases next_c hI.rng with ⟨hall, hnx⟩ | ⟨i, hi, e, w2, hie, hnx, hen, hrg2, hk2, hlt⟩
    · have hdone := hI.done hall
      have HD := Lib.hid hdone
      clear hall hI hdone
      go_wp2_with fail
      go_end0
      obtain ⟨q1, q2⟩ := HQ1.out.map' HI.out.kp HI.out.rng.map
      rw [HD.out] at q1
      refine ⟨⟨rfl, hk1.trans q2 (fun y hy hs => ?_)⟩, S', hS1, hS2, v', q1⟩
      rcases hS2 y hs with h | h
      · exact h
      · omega
    · clear hI
      obtain ⟨x, hx⟩ : ∃ x, x = l'[i] := ⟨_, rfl⟩
      rw [← hx] at hnx hen
      have HX := Lib.hid hx
      obtain ⟨⟨kh, kp, ko, kw⟩, kb⟩ := x
      simp only [Kc.val] at hnx hen
      have hle2 := hrg2.left_eq
      have HRG := Lib.hid hrg2
      have HIE := Lib.hid hie
      have HLT := Lib.hid hlt
      have hkB : Keeps noB w2 (w2.alloc (.cells #[.int .i64 kh, .int .i64 kp, .int .i64 ko, .bool kw] 140)) := (Keeps.refl _ _).alloc _
      clear hx hrg2 hie hlt hle2
      cases e1 : (kh == c)
      · have hmeas : (w2.alloc (.cells #[.int .i64 kh, .int .i64 kp, .int .i64 ko, .bool kw] 140)).rangeLeft r w1.heap.size < wr.rangeLeft r w1.heap.size := by
          rw [HLE.out, (HRG.out.keep hkB (noB_not _) (noB_not _)).left_eq]; exact HLT.out
        have HME := Lib.hid hmeas
        clear hmeas
        have hst := (HI.out.stays hi HIE.out HRG.out hk2 (Nat.le_refl _) (by rw [← HX.out]; show (!(kh == c)) = true; rw [e1]; rfl)).keep hkB
        have HST := Lib.hid hst
        clear hst
        go_wp2_with fail
        go_roundw
        case rel => exact ⟨_, _, _, HST.out⟩
        case measure => exact HME.out
      · have hqB := ((HQ1.out.map' HI.out.kp HI.out.rng.map).1.keep hk2 (fun y hy e => by have := HQ1.out.lt y hy; unfold oneB at e; omega)).no hkB
        have hrgB := HRG.out.keep hkB (noB_not _) (noB_not _)
        have hXb := heap_alloc_new w2 (.cells #[.int .i64 kh, .int .i64 kp, .int .i64 ko, .bool kw] 140)
        have HQB := Lib.hid hqB.ptr
        have HRB := Lib.hid hrgB
        have HXB := Lib.hid hXb
        have HKB := Lib.hid hkB
        have HK2 := Lib.hid hk2
        clear hqB hrgB hXb hkB hk2
        go_upto_region 5 with fail
        obtain ⟨sx, hsx⟩ : ∃ sx, sx = w2.heap.size := ⟨_, rfl⟩
        rw [← hsx] at HXB ⊢
        generalize w2.alloc (.cells #[.int .i64 kh, .int .i64 kp, .int .i64 ko, .bool kw] 140) = wB at *
        have c1 := blk_cell HQB.out (i := 1) rfl
        have x0 := blk_cell HXB.out (i := 0) rfl
        have x1 := blk_cell HXB.out (i := 1) rfl
        have x2 := blk_cell HXB.out (i := 2) rfl
        have x3 := blk_cell HXB.out (i := 3) rfl
        have hrgD := HRB.out.keep ((Keeps.refl noB wB).drew) (noB_not _) (noB_not _)
        obtain ⟨es', c', hd, hrg3, hsub⟩ := hrgD.del ⟨kh, kp, ko, kw⟩
        simp only [Kc.val] at hd
        have hk3 : Keeps (oneB r) wB.drew (putObj wB.drew r (.map es' c')) := (Keeps.refl _ _).putObj r _ (.inl rfl)
        have hgo := HI.out.goes hi HIE.out HRG.out HK2.out (HKB.out.drew) hk3 (Nat.le_refl _) (by rw [← HX.out]; exact e1) (by rw [← HX.out]; exact hrg3) (fun x hx => hsub.subset hx)
        have hmeas : (putObj wB.drew r (.map es' c')).rangeLeft r w1.heap.size < wr.rangeLeft r w1.heap.size := by
          rw [HLE.out, hrg3.left_eq]; exact Nat.lt_of_le_of_lt (left_sub hsub _) HLT.out
        have HME := Lib.hid hmeas
        have HST := Lib.hid hgo
        clear hmeas hgo hrg3 hsub hrgD hk3 hsx e1
        go_region_with fail
        all_goals
          go_wp2_with fail
          first
            | exact ⟨⟨_, _, _, HST.out⟩, HME.out⟩
            | (go_roundw; · exact ⟨_, _, _, HST.out⟩; · exact HME.out)
end Go.Proofs.Ytlpimkmkcfbddaa
