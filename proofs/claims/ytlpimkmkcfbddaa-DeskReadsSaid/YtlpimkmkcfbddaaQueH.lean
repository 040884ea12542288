/- The queue: Out, Answer, Gone. No condition. -/
import Derived.Test.YtlpimkmkcfbddaaQueF
import Derived.Test.YtlpimkmkcfbddaaQueRng
namespace Go.Proofs.Ytlpimkmkcfbddaa
open Go.RowKit

def outP (h pg : Int) (x : Kc × Bool) : Bool := x.1.h == h && (x.1.p == pg && !x.2)
def outB (h pg : Int) (l : List (Kc × Bool)) : Bool := l.any (outP h pg)
set_option maxRecDepth 100000 in
set_option maxHeartbeats 4000000 in
theorem out_c {w : World} {S : Nat → Prop} {p r : Nat} {v : Value} {ws : List Wt} {l : List (Kc × Bool)} (hq : QAt w S p r v ws l) (h pg : Int) :
    Calls Try.prog 65 #[.pointer (some ⟨p, 0, none⟩), .int .i64 h, .int .i64 pg] w (RetK noB (.bool (outB h pg l)) w) := by
  obtain ⟨es, c, hrun, hrg⟩ := range_c hq.calls
  have c1 := blk_cell hq.ptr (i := 1) rfl
  have hkA : Keeps noB w (w.alloc (.mapIter (some r) c #[] c)) := (Keeps.refl _ _).alloc _
  have HRG := Lib.hid hrg
  clear hq hrg
  go_enter Try.func65, Try.ntmps65
  go_wp2_with fail
  go_loopw [14] (fun _ wr => ∃ seen, RngAt wr w.heap.size r es seen l ∧ Keeps noB w wr ∧ ∀ i (hi : i < l.length) e, es.toList[i]? = some e → seen.contains e.born = true → outP h pg l[i] = false)
    (fun _ wr => wr.rangeLeft r w.heap.size)
  case atStart => exact ⟨#[], HRG.out, hkA, fun i hi e _ hs => by simp at hs⟩
  case round =>
    obtain ⟨seen, hrg, hkp, hno⟩ := hrel
    have HNO := Lib.hid hno
    have HR := Lib.hid hrg
    have hle := hrg.left_eq
    have HLE := Lib.hid hle
    clear hno hle
    rcases next_c hrg with ⟨hall, hnx⟩ | ⟨i, hi, e, w1, hie, hnx, hen, hrg1, hk1, hlt⟩
    · have hout : outB h pg l = false := by
        unfold outB
        rw [List.any_eq_false]
        intro x hx
        obtain ⟨i, hi, rfl⟩ := List.getElem_of_mem hx
        have hi2 : i < es.toList.length := by rw [HR.out.ents.1]; exact hi
        rw [HNO.out i hi es.toList[i] (List.getElem?_eq_getElem hi2) (hall _ (List.getElem_mem hi2))]
        exact Bool.false_ne_true
      have HO := Lib.hid hout
      clear hall hrg hout
      go_wp2_with fail
      go_ret
      rw [HO.out]
      exact ⟨rfl, hkp⟩
    · obtain ⟨x, hx⟩ : ∃ x, x = l[i] := ⟨_, rfl⟩
      rw [← hx] at hnx hen
      have HX := Lib.hid hx
      obtain ⟨⟨kh, kp, ko, kw⟩, kb⟩ := x
      simp only [Kc.val] at hnx hen
      have HNX := Lib.hid hrg1
      have HLT := Lib.hid hlt
      have HIE := Lib.hid hie
      have hk1' : Keeps noB w w1 := hkp.trans hk1 (fun y hy e => by unfold oneB at e; omega)
      have hle1 := hrg1.left_eq
      have HLE1 := Lib.hid hle1
      clear hx hrg hrg1 hlt hie hle1 hkp hk1
      have hstep : ∀ wz, Keeps noB w1 wz → outP h pg ⟨⟨kh, kp, ko, kw⟩, kb⟩ = false → ∃ seen, RngAt wz w.heap.size r es seen l ∧ Keeps noB w wz ∧ ∀ i (hi : i < l.length) e, es.toList[i]? = some e → seen.contains e.born = true → outP h pg l[i] = false := fun wz hz ho => by
        refine ⟨_, HNX.out.keep hz (noB_not _) (noB_not _), hk1'.trans_no hz, fun i' hi' e' he' hs' => ?_⟩
        rw [contains_push, Bool.or_eq_true] at hs'
        rcases hs' with hs' | hs'
        · exact HNO.out i' hi' e' he' hs'
        · obtain ⟨c', _, _, hm', hb', _⟩ := HR.out.st
          have hee : e' = e := born_inj hb'.1 (List.mem_of_getElem? he') (List.mem_of_getElem? HIE.out) (by simpa using hs')
          subst hee
          have hii : i' = i := by
            have hn := List.pairwise_iff_getElem.1 hb'.1
            obtain ⟨g1, g2⟩ := List.getElem?_eq_some_iff.1 he'
            obtain ⟨g3, g4⟩ := List.getElem?_eq_some_iff.1 HIE.out
            rcases Nat.lt_trichotomy i' i with hh | hh | hh
            · exact absurd (by rw [List.getElem_map, List.getElem_map, g2, g4]) (hn i' i (by simpa using g1) (by simpa using g3) hh)
            · exact hh
            · exact absurd (by rw [List.getElem_map, List.getElem_map, g2, g4]) (hn i i' (by simpa using g3) (by simpa using g1) hh)
          subst hii
          rw [← HX.out]
          exact ho
      have HST := Lib.hid hstep
      clear hstep
      have hkB : Keeps noB w1 (w1.alloc (.cells #[.int .i64 kh, .int .i64 kp, .int .i64 ko, .bool kw] 140)) := (Keeps.refl _ _).alloc _
      have hmeas : (w1.alloc (.cells #[.int .i64 kh, .int .i64 kp, .int .i64 ko, .bool kw] 140)).rangeLeft r w.heap.size < wr.rangeLeft r w.heap.size := by
        rw [HLE.out, (HNX.out.keep hkB (noB_not _) (noB_not _)).left_eq]; exact HLT.out
      have HME := Lib.hid hmeas
      clear hmeas
      cases e1 : (kh == h)
      · go_wp2_with fail
        go_roundw
        case rel => exact HST.out _ hkB (by show (kh == h && (kp == pg && !kb)) = false; rw [e1]; rfl)
        case measure => exact HME.out
      · cases e2 : (kp == pg)
        · go_wp2_with fail
          go_roundw
          case rel => exact HST.out _ hkB (by show (kh == h && (kp == pg && !kb)) = false; rw [e1, e2]; rfl)
          case measure => exact HME.out
        · cases kb
          · have hout : outB h pg l = true := by
              unfold outB
              rw [List.any_eq_true]
              exact ⟨l[i], List.getElem_mem hi, by rw [← HX.out]; unfold outP; simp only [e1, e2]; rfl⟩
            have HO := Lib.hid hout
            clear hout
            go_wp2_with fail
            go_ret
            rw [HO.out]
            exact ⟨rfl, hk1'.trans_no hkB⟩
          · go_wp2_with fail
            go_roundw
            case rel => exact HST.out _ hkB (by show (kh == h && (kp == pg && !true)) = false; rw [e1, e2]; rfl)
            case measure => exact HME.out

theorem delete_l {w : World} {r : Nat} {l : List (Kc × Bool)} (hm : MapAt w r l) (h p o : Int) (b : Bool) :
    ∃ es c, (∀ ty, (Builtin.delete_ #[134, 140] ty #[.map (some r), .agg #[.int .i64 h, .int .i64 p, .int .i64 o, .bool b]]).run Try.prog w = .ok (.tuple #[]) (putObj w r (.map es c))) ∧ MapAt (putObj w r (.map es c)) r (kdel ⟨h, p, o, b⟩ l) := by
  obtain ⟨es, c, h1, h2, hb⟩ := hm
  obtain ⟨es', g1, g2, g3, _⟩ := delete_c h1 h2 hb ⟨h, p, o, b⟩
  exact ⟨es', c, g1, es', c, putObj_at _ (lt_of_blk h1), g2, g3⟩
set_option maxRecDepth 100000 in
set_option maxHeartbeats 4000000 in
theorem answer_c {w : World} {S : Nat → Prop} {p r : Nat} {v : Value} {ws : List Wt} {l : List (Kc × Bool)} (hq : QAt w S p r v ws l) (h pg o : Int) (b : Bool) :
    Calls Try.prog 59 #[.pointer (some ⟨p, 0, none⟩), .int .i64 h, .int .i64 pg, .int .i64 o, .bool b] w fun e w' => RetK S (.tuple #[]) w e w' ∧ QAt w' S p r v ws (kdel ⟨h, pg, o, b⟩ l) := by
  obtain ⟨es, c, hd, hm⟩ := delete_l hq.calls h pg o b
  have c1 := blk_cell hq.ptr (i := 1) rfl
  have HQ := Lib.hid hq
  have HM := Lib.hid hm
  clear hq hm
  go_enter Try.func59, Try.ntmps59
  go_wp2_with fail
  go_end0
  obtain ⟨q1, q2⟩ := HQ.out.map (Keeps.refl _ _) HM.out
  exact ⟨⟨rfl, q2⟩, q1⟩
/-- The calls once a client is gone. -/
def kgone (c : Int) (l : List (Kc × Bool)) : List (Kc × Bool) := l.filter (fun x => x.1.h != c)
theorem kgone_del {c : Int} {k : Kc} {l : List (Kc × Bool)} (hn : (l.map (·.1)).Nodup) (hk : (k.h == c) = true) : kgone c (kdel k l) = kgone c l := by
  rw [kdel_filter hn]
  unfold kgone
  rw [List.filter_filter]
  apply List.filter_congr
  intro x _
  by_cases e : x.1 = k
  · subst e
    have : x.1.h = c := eq_of_beq hk
    simp [this]
  · simp [e]
theorem knodup_del {k : Kc} {l : List (Kc × Bool)} (hn : (l.map (·.1)).Nodup) : ((kdel k l).map (·.1)).Nodup := by
  rw [kdel_filter hn]
  exact List.Nodup.sublist ((List.filter_sublist (l := l)).map _) hn
end Go.Proofs.Ytlpimkmkcfbddaa
