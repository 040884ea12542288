/- The calls' map: delete, and a range over it. No condition. -/
import Derived.Test.YtlpimkmkcfbddaaQueA
import Derived.Maps.RangeRun
import Derived.Maps.Range
namespace Go.Proofs.Ytlpimkmkcfbddaa
open Go.RowKit
open Go.ChangeMaps (setBlock)

/-- The map without a key. -/
def kdel (k : Kc) (l : List (Kc × Bool)) : List (Kc × Bool) := match kfind k l 0 with | some x => l.eraseIdx x.1 | none => l
theorem putObj_same {w : World} {r : Nat} {o : Obj} (h : w.heap[r]? = some o) : putObj w r o = w := by
  obtain ⟨h1, h2⟩ := Array.getElem?_eq_some_iff.1 h
  have : w.heap.setIfInBounds r o = w.heap := by
    apply Array.ext_getElem?
    intro i
    rw [Array.getElem?_setIfInBounds]
    split
    · rename_i e; subst e; rw [h]
    · rfl
  unfold putObj
  rw [this]
/-- What the block r holds once a key is struck. -/
theorem delete_c {w : World} {r : Nat} {es : Array MapEntry} {c : Nat} {l : List (Kc × Bool)} (h1 : w.heap[r]? = some (.map es c)) (h2 : EntsAre es.toList l) (hb : Born es c) (k : Kc) :
    ∃ es', (∀ ty, (Builtin.delete_ #[134, 140] ty #[.map (some r), k.val]).run Try.prog w = .ok (.tuple #[]) (putObj w r (.map es' c))) ∧ EntsAre es'.toList (kdel k l) ∧ Born es' c ∧ es'.toList.Sublist es.toList := by
  have hf := findKey_c w k es.toList l h2
  unfold Builtin.delete_ kdel
  cases hk : kfind k l 0 with
  | none =>
    rw [hk] at hf
    refine ⟨es, fun ty => ?_, h2, hb, List.Sublist.refl _⟩
    simp [run_underlying Try.underlying134, getObj_c h1, checkKey_c, hf, setObj_c _ h1]
  | some x =>
    obtain ⟨j, v⟩ := x
    obtain ⟨_, hj, _⟩ := kfind_some hk
    simp only [Nat.sub_zero] at hj
    have hl : es.toList.length = l.length := h2.1
    rw [hk] at hf
    refine ⟨es.eraseIdxIfInBounds j, fun ty => ?_, ?_, ?_, ?_⟩
    · simp [run_underlying Try.underlying134, getObj_c h1, checkKey_c, hf, setObj_c _ h1]
    · have he : (es.eraseIdxIfInBounds j).toList = es.toList.eraseIdx j := by
        unfold Array.eraseIdxIfInBounds
        rw [dif_pos (by rw [← Array.length_toList, hl]; exact hj), Array.toList_eraseIdx]
      rw [he]
      refine ⟨by rw [List.length_eraseIdx, List.length_eraseIdx, hl], fun i hi hi' => ?_⟩
      rw [List.getElem_eraseIdx, List.getElem_eraseIdx]
      split
      · exact h2.2 i _ _
      · exact h2.2 (i + 1) _ _
    · have he : (es.eraseIdxIfInBounds j).toList = es.toList.eraseIdx j := by
        unfold Array.eraseIdxIfInBounds
        rw [dif_pos (by rw [← Array.length_toList, hl]; exact hj), Array.toList_eraseIdx]
      refine ⟨?_, fun e h => hb.2 e (List.mem_of_mem_eraseIdx (by rwa [he] at h))⟩
      rw [he]
      exact List.Nodup.sublist ((List.eraseIdx_sublist es.toList j).map _) hb.1
    · have he : (es.eraseIdxIfInBounds j).toList = es.toList.eraseIdx j := by
        unfold Array.eraseIdxIfInBounds
        rw [dif_pos (by rw [← Array.length_toList, hl]; exact hj), Array.toList_eraseIdx]
      rw [he]
      exact List.eraseIdx_sublist _ _

theorem left_sub {es es' : Array MapEntry} (h : es'.toList.Sublist es.toList) (seen : Array Nat) : (leftOf es' seen).size ≤ (leftOf es seen).size := by
  have hs : ∀ x : Array MapEntry, (leftOf x seen).size = (x.toList.filter fun e => !seen.contains e.born).length := fun x => by
    unfold leftOf
    rw [← Array.length_toList, Array.toList_filter]
  rw [hs, hs]
  exact (h.filter _).length_le
theorem putObj_eq (w : World) (r : Nat) (o : Obj) : putObj w r o = setBlock w r o := rfl
/-- A range over the map at m, by the iterator at it, is under way: the map reads as l, the entries whose birthdays are in seen have come. -/
structure RngAt (w : World) (it m : Nat) (es : Array MapEntry) (seen : Array Nat) (l : List (Kc × Bool)) : Prop where
  st : ∃ c s c0, w.heap[m]? = some (.map es c) ∧ Born es c ∧ w.heap[it]? = some (.mapIter (some m) s seen c0) ∧ (∀ x, x ∈ es.toList → x.born < s) ∧ s ≤ c0 ∧ s ≤ c
  ents : EntsAre es.toList l
theorem RngAt.ne {w : World} {it m : Nat} {es : Array MapEntry} {seen : Array Nat} {l : List (Kc × Bool)} (h : RngAt w it m es seen l) : it ≠ m := by
  obtain ⟨c, s, c0, h1, _, h2, _⟩ := h.st
  intro e; subst e; rw [h1] at h2; simp at h2
theorem RngAt.keep {w w1 : World} {it m : Nat} {es : Array MapEntry} {seen : Array Nat} {l : List (Kc × Bool)} {F : Nat → Prop} (h : RngAt w it m es seen l) (hk : Keeps F w w1) (h1 : ¬ F it) (h2 : ¬ F m) : RngAt w1 it m es seen l := by
  obtain ⟨c, s, c0, hm, hb, hi, hs⟩ := h.st
  exact ⟨⟨c, s, c0, hk.blk hm h2, hb, hk.blk hi h1, hs⟩, h.ents⟩
theorem RngAt.left_eq {w : World} {it m : Nat} {es : Array MapEntry} {seen : Array Nat} {l : List (Kc × Bool)} (h : RngAt w it m es seen l) : w.rangeLeft m it = (leftOf es seen).size := by
  obtain ⟨c, s, c0, hm, _, hi, _⟩ := h.st
  simp only [World.rangeLeft, hm, hi]
theorem RngAt.map {w : World} {it m : Nat} {es : Array MapEntry} {seen : Array Nat} {l : List (Kc × Bool)} (h : RngAt w it m es seen l) : MapAt w m l := by
  obtain ⟨c, s, c0, hm, hb, _⟩ := h.st
  exact ⟨es, c, hm, h.ents, hb⟩
/-- 'range'. -/
theorem range_c {w : World} {m : Nat} {l : List (Kc × Bool)} (h : MapAt w m l) : ∃ es c, (Instr.range 134 (.map (some m))).run Try.prog w = .ok (.pointer (some ⟨w.heap.size, 0, none⟩)) (w.alloc (.mapIter (some m) c #[] c)) ∧ RngAt (w.alloc (.mapIter (some m) c #[] c)) w.heap.size m es #[] l := by
  obtain ⟨es, c, h1, h2, hb⟩ := h
  refine ⟨es, c, ?_, ⟨c, c, c, ?_, hb, heap_alloc_new _ _, hb.2, Nat.le_refl _, Nat.le_refl _⟩, h2⟩
  · unfold Instr.range
    simp [run_underlying Try.underlying134, getObj_c h1]
  · rw [alloc_old _ _ _ (lt_of_blk h1)]; exact h1
/-- 'next' and 'entry'. -/
theorem next_c {w : World} {it m : Nat} {es : Array MapEntry} {seen : Array Nat} {l : List (Kc × Bool)} (h : RngAt w it m es seen l) :
    ((∀ e, e ∈ es.toList → seen.contains e.born = true) ∧ ∀ ty, (Instr.next (.pointer (some ⟨it, 0, none⟩)) false ty).run Try.prog w = .ok (.tuple #[.bool false]) w) ∨
    ∃ (i : Nat) (hi : i < l.length) (e : MapEntry) (w1 : World), es.toList[i]? = some e ∧ (∀ ty, (Instr.next (.pointer (some ⟨it, 0, none⟩)) false ty).run Try.prog w = .ok (.tuple #[.bool true, l[i].1.val, .bool l[i].2]) w1) ∧
      (Instr.entry (.pointer (some ⟨it, 0, none⟩))).run Try.prog w1 = .ok (.tuple #[l[i].1.val, .bool l[i].2]) w1 ∧ RngAt w1 it m es (seen.push e.born) l ∧ Keeps (oneB it) w w1 ∧ (leftOf es (seen.push e.born)).size < (leftOf es seen).size := by
  have hne := h.ne
  obtain ⟨c, s, c0, hm, hb, hi, hold, hsc, hsc2⟩ := h.st
  rcases run_next_at (P := Try.prog) w 0 it m s c0 seen es c hi hm hold hsc with ⟨h0, hrun⟩ | ⟨e, he, w1, hal, hrun⟩
  · exact .inl ⟨fun e he => all_seen es seen h0 e he, fun _ => hrun⟩
  · right
    obtain ⟨hem, hes⟩ := mem_left he
    obtain ⟨i, hil, hie⟩ := List.getElem_of_mem hem
    have hil' : i < l.length := by rw [← h.ents.1]; exact hil
    have hent := h.ents.2 i hil hil'
    rw [hie] at hent
    have hk1 : Keeps noB w w1 := by rcases hal with rfl | rfl; exact Keeps.refl _ _; exact (Keeps.refl _ _).drew
    have hi1 := hk1.blk hi (noB_not _)
    have hm1 := hk1.blk hm (noB_not _)
    have hk2 : Keeps (oneB it) w (putObj w1 it (.mapIter (some m) s (seen.push e.born) c)) := (hk1.of_no).putObj it _ (.inl rfl)
    have hi2 := putObj_at (w := w1) (.mapIter (some m) s (seen.push e.born) c) (lt_of_blk hi1)
    have hm2 := hk2.blk hm (fun e => hne e.symm)
    refine ⟨i, hil', e, putObj w1 it (.mapIter (some m) s (seen.push e.born) c), by rw [List.getElem?_eq_getElem hil, hie], ?_, ?_, ⟨⟨c, s, c, hm2, hb, hi2, hold, hsc2, hsc2⟩, h.ents⟩, hk2, left_shrinks es seen e he⟩
    · intro _; rw [putObj_eq, ← hent.1, ← hent.2]; exact hrun
    · rw [← hent.1, ← hent.2]
      exact run_entry_at _ it m s seen es c e hi2 hm2 hem hb.1

theorem kfind_mem {k : Kc} : ∀ {l : List (Kc × Bool)} {i : Nat}, (kfind k l i).isSome = true ↔ ∃ x, x ∈ l ∧ x.1 = k
  | [], i => by simp [kfind]
  | x :: r, i => by
    unfold kfind
    by_cases e : k = x.1
    · rw [if_pos e]
      simp [e]
    · rw [if_neg e, kfind_mem (l := r)]
      have e' : ¬ x.1 = k := fun h => e h.symm
      simp [e']
/-- Once a key is struck: the others, where no key is there twice. -/
theorem kdel_filter {k : Kc} : ∀ {l : List (Kc × Bool)}, (l.map (·.1)).Nodup → kdel k l = l.filter (fun x => !decide (x.1 = k)) := by
  have h : ∀ (l : List (Kc × Bool)) (i : Nat), (l.map (·.1)).Nodup → (match kfind k l i with | some x => l.eraseIdx (x.1 - i) | none => l) = l.filter (fun x => !decide (x.1 = k)) := by
    intro l
    induction l with
    | nil => intro i _; simp [kfind]
    | cons x r ih =>
      intro i hn
      rw [List.map_cons, List.nodup_cons] at hn
      unfold kfind
      by_cases e : k = x.1
      · rw [if_pos e]
        have hf : r.filter (fun y => !decide (y.1 = k)) = r := List.filter_eq_self.2 (fun y hy => by
          have : ¬ y.1 = k := fun e2 => hn.1 (List.mem_map.2 ⟨y, hy, by rw [e2, e]⟩)
          simp [this])
        simp only [Nat.sub_self, List.eraseIdx_cons_zero]
        rw [List.filter_cons_of_neg (by simp [e]), hf]
      · rw [if_neg e]
        have := ih (i + 1) hn.2
        rw [List.filter_cons_of_pos (by have e' : ¬ x.1 = k := fun h => e h.symm; simp [e']), ← this]
        cases hk : kfind k r (i + 1) with
        | none => rfl
        | some y =>
          have hle := (kfind_some hk).1
          simp only
          rw [show y.1 - i = (y.1 - (i + 1)) + 1 by omega, List.eraseIdx_cons_succ]
  intro l hn
  have := h l 0 hn
  simp only [Nat.sub_zero] at this
  unfold kdel
  exact this
end Go.Proofs.Ytlpimkmkcfbddaa
