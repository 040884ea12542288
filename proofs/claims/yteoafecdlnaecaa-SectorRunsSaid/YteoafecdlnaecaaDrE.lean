/- The drive: Sync, Crash. Printed by gen_each.py. No condition. -/
import Derived.Test.YteoafecdlnaecaaDrS
namespace Go.Proofs.Yteoafecdlnaecaa
open Go.RowKit

theorem OwnI.slice {w : World} {B : Nat} {v : Value} {l : List Int} (h : OwnI w B v l) : ∃ a c, v = .slice a l.length c := by
  obtain ⟨_, h⟩ := h
  rcases h with ⟨rfl, h0⟩ | ⟨g, cap, cur, rfl, _⟩
  · exact ⟨none, 0, by rw [h0]⟩
  · exact ⟨_, _, rfl⟩
theorem OwnI.cell {w : World} {B : Nat} {a : Option Addr} {n c : Nat} {l : List Int} (h : OwnI w B (.slice a n c) l) {i : Nat} (hi : i < l.length) :
    ∃ g, a = some ⟨g, 0, none⟩ ∧ B ≤ g ∧ g < w.heap.size ∧ w.cell? ⟨g, i, none⟩ = some (.int .i64 (l.getD i 0)) := by
  obtain ⟨_, h⟩ := h
  rcases h with ⟨_, h0⟩ | ⟨g, cap, cur, hv, hb, hg, _, _, _, ht⟩
  · omega
  · simp at hv
    refine ⟨g, hv.1, hb, lt_of_blk hg, blk_cell hg ?_⟩
    have h1 : (cur.toList.take (l.length * 1))[i]? = (l.map (Value.int .i64))[i]? := by rw [ht]
    rw [List.getElem?_take, if_pos (by omega)] at h1
    rw [Array.getElem?_toList] at h1
    rw [h1, List.getElem?_map, List.getElem?_eq_getElem hi, List.getD_eq_getElem?_getD, List.getElem?_eq_getElem hi]
    rfl
theorem OwnI.keep {w w1 : World} {B : Nat} {v : Value} {l : List Int} {F : Nat → Prop} (h : OwnI w B v l) (hk : Keeps F w w1) (hF : ∀ k, B ≤ k → ¬ F k) : OwnI w1 B v l := own_keep h hk (fun k hb _ _ => hF k hb)
theorem getD_mem {L : List Int} {k : Nat} (h : k < L.length) : L.getD k 0 ∈ L := by
  rw [List.getD_eq_getElem?_getD, List.getElem?_eq_getElem h]
  exact List.getElem_mem h
theorem looN_mem (lo : Nat → Bool) (z : Int) : ∀ n, z ∈ looN lo n ↔ ∃ k : Nat, z = k ∧ k < n ∧ lo k = true := by
  intro n
  induction n with
  | zero => simp [looN]
  | succ m ih =>
    unfold looN
    cases e : lo m
    · rw [if_neg (by simp), ih]
      constructor
      · rintro ⟨k, h1, h2, h3⟩; exact ⟨k, h1, by omega, h3⟩
      · rintro ⟨k, h1, h2, h3⟩
        refine ⟨k, h1, ?_, h3⟩
        have : k ≠ m := by rintro rfl; rw [e] at h3; cases h3
        omega
    · rw [if_pos rfl, List.mem_append, ih, List.mem_singleton]
      constructor
      · rintro (⟨k, h1, h2, h3⟩ | h)
        · exact ⟨k, h1, by omega, h3⟩
        · exact ⟨m, h, by omega, e⟩
      · rintro ⟨k, h1, h2, h3⟩
        by_cases ek : k = m
        · subst ek; exact .inr h1
        · exact .inl ⟨k, h1, by omega, h3⟩
theorem looN_nodup (lo : Nat → Bool) : ∀ n, (looN lo n).Nodup := by
  intro n
  induction n with
  | zero => simp [looN]
  | succ m ih =>
    unfold looN
    split
    · rw [List.nodup_append]
      refine ⟨ih, by simp, fun x hx y hy => ?_⟩
      obtain ⟨k, h1, h2, _⟩ := (looN_mem lo x m).1 hx
      rw [List.mem_singleton] at hy
      omega
    · exact ih
theorem take_one {α : Type} {l : List α} {k : Nat} (hk : k < l.length) : l.take (k + 1) = l.take k ++ [l[k]] := by simp
theorem not_taken {L : List Int} (hL : L.Nodup) {m : Nat} (h : m < L.length) : L.getD m 0 ∉ L.take m := by
  have he : L.getD m 0 = L[m] := by rw [List.getD_eq_getElem?_getD, List.getElem?_eq_getElem h]; rfl
  rw [he]
  intro hm
  have hn : (L.take (m + 1)).Nodup := hL.sublist (List.take_sublist _ _)
  rw [take_one h, List.nodup_append] at hn
  exact hn.2.2 _ hm _ (List.mem_singleton.2 rfl) rfl

/-- What the sectors are when the first m of the loose ones were done. -/
structure Done (pick : Nat → Bool) (L : List Int) (now st : Nat → List Int) (lo : Nat → Bool) (m : Nat) (now' st' : Nat → List Int) (lo' : Nat → Bool) : Prop where
  yes : ∀ i : Nat, (i : Int) ∈ L.take m → now' i = (if pick i then now i else st i) ∧ st' i = (if pick i then now i else st i) ∧ lo' i = false
  no : ∀ i : Nat, (i : Int) ∉ L.take m → now' i = now i ∧ st' i = st i ∧ lo' i = lo i
theorem Done.start (pick : Nat → Bool) (L : List Int) (now st : Nat → List Int) (lo : Nat → Bool) : Done pick L now st lo 0 now st lo := ⟨fun i h => by simp at h, fun i _ => ⟨rfl, rfl, rfl⟩⟩
theorem Done.step {pick : Nat → Bool} {L : List Int} {now st : Nat → List Int} {lo : Nat → Bool} {m : Nat} {now' st' : Nat → List Int} {lo' : Nat → Bool} (h : Done pick L now st lo m now' st' lo') (hL : L.Nodup) (hm : m < L.length) {k : Nat} (hk : L.getD m 0 = k) :
    Done pick L now st lo (m + 1) (if pick k then now' else up now' k (st' k)) (if pick k then up st' k (now' k) else st') (up lo' k false) := by
  have hkn := not_taken hL hm
  rw [hk] at hkn
  have he : L[m] = (k : Int) := by rw [← hk, List.getD_eq_getElem?_getD, List.getElem?_eq_getElem hm]; rfl
  obtain ⟨e1, e2, _⟩ := h.no k hkn
  have hin : ∀ i : Nat, (i : Int) ∈ L.take (m + 1) ↔ (i : Int) ∈ L.take m ∨ i = k := fun i => by
    rw [take_one hm, List.mem_append, List.mem_singleton, he]; exact ⟨fun h => h.imp id (fun h => by omega), fun h => h.imp id (fun h => by omega)⟩
  refine ⟨fun i hi => ?_, fun i hi => ?_⟩
  · by_cases e : i = k
    · subst e
      cases pick i <;> simp [up, e1, e2]
    · have := h.yes i (((hin i).1 hi).resolve_right e)
      cases hp : pick k <;> simp [up, e, this]
  · have hi' : (i : Int) ∉ L.take m ∧ i ≠ k := by
      refine ⟨fun h' => hi ((hin i).2 (.inl h')), fun h' => hi ((hin i).2 (.inr h'))⟩
    have := h.no i hi'.1
    cases hp : pick k <;> simp [up, hi'.2, this]
def aftN (pick : Nat → Bool) (now st : Nat → List Int) (lo : Nat → Bool) (i : Nat) : List Int := if lo i && !pick i then st i else now i
def aftS (pick : Nat → Bool) (now st : Nat → List Int) (lo : Nat → Bool) (i : Nat) : List Int := if lo i && pick i then now i else st i
theorem DrAt.congr {w : World} {D : Nat → Prop} {b g n : Nat} {now st : Nat → List Int} {lo : Nat → Bool} {va vb : Nat → Value} (h : DrAt w D b g n now st lo va vb) {now' st' : Nat → List Int} {lo' : Nat → Bool} (he : ∀ i, i < n → now' i = now i ∧ st' i = st i ∧ lo' i = lo i) :
    DrAt w D b g n now' st' lo' va vb := by
  refine ⟨h.ne, h.inb, h.ing, h.le, h.lt, h.ptr, ?_, fun i hi => by rw [(he i hi).1]; exact h.now i hi, fun i hi => by rw [(he i hi).2.1]; exact h.st i hi⟩
  have : drow n va vb lo' = drow n va vb lo := by
    apply Array.ext_getElem?
    intro j
    by_cases hj : j < n * 3
    · rw [drow_at _ _ _ _ hj, drow_at _ _ _ _ hj]
      unfold dcell
      rw [(he (j / 3) (by omega)).2.2]
    · rw [Array.getElem?_eq_none (by rw [drow_size]; omega), Array.getElem?_eq_none (by rw [drow_size]; omega)]
  rw [this]; exact h.row
theorem Done.fin {pick : Nat → Bool} {n : Nat} {now st : Nat → List Int} {lo : Nat → Bool} {now' st' : Nat → List Int} {lo' : Nat → Bool} (h : Done pick (looN lo n) now st lo (looN lo n).length now' st' lo') :
    ∀ i, i < n → aftN pick now st lo i = now' i ∧ aftS pick now st lo i = st' i ∧ (fun _ => false) i = lo' i := by
  intro i hi
  unfold aftN aftS
  have hy := h.yes i
  have hno := h.no i
  rw [List.take_length, looN_mem] at hy hno
  cases hl : lo i
  · obtain ⟨h1, h2, h3⟩ := hno (fun ⟨k, h1, _, h3⟩ => by have : i = k := by omega
                                                         subst this; rw [hl] at h3; cases h3)
    simp [h1, h2, h3, hl]
  · obtain ⟨h1, h2, h3⟩ := hy ⟨i, rfl, hi, hl⟩
    cases hp : pick i <;> simp [h1, h2, h3, hp]

theorem sync1_c (k : Int) (w : World) : Calls Try.prog 28 #[.int .i64 k] w (Ret (.func (.func 29) #[] #[]) w) := by
  go_enter Try.func28, Try.ntmps28
  go_wp2_with fail
  go_ret
  exact ⟨rfl, rfl⟩
def pickK (keep : Int) (k : Nat) : Bool := bits BinOp.and IntKind.i64 (keep / 2 ^ k) 1 == 1
theorem crash1_c (k : Nat) (hk : k < 6) (keep : Int) (bk : Nat) (w : World) (hb : w.heap[bk]? = some (.cells #[.int .i64 keep] 3 (0, 0))) : Calls Try.prog 30 #[.int .i64 k, .pointer (some ⟨bk, 0, none⟩)] w (Ret (.func (.func (if pickK keep k then 29 else 31)) #[] #[]) w) := by
  have hc := blk_cell hb (i := 0) rfl
  cases hp : pickK keep k
  all_goals
    unfold pickK at hp
    go_enter Try.func30, Try.ntmps30
    go_wp2_with fail
    go_ret
    exact ⟨rfl, rfl⟩

set_option maxRecDepth 100000 in
set_option maxHeartbeats 4000000 in
theorem eachS_c {w : World} {D : Nat → Prop} {b g n : Nat} {now st : Nat → List Int} {lo : Nat → Bool} {va vb : Nat → Value} (h : DrAt w D b g n now st lo va vb) :
    Calls Try.prog 27 #[.pointer (some ⟨b, 0, none⟩), .func (.func 28) #[] #[]] w fun e w' => RetK D (.tuple #[]) w e w' ∧ ∃ va' vb', DrAt w' D b g n (aftN (fun _ => true) now st lo) (aftS (fun _ => true) now st lo) (fun _ => false) va' vb' := by
  have hnd := looN_nodup lo n
  have hle := looN_le lo n
  have h6 := h.le
  go_enter Try.func27, Try.ntmps27
  go_wp2_with fail
  refine (loose_c h).mono ?_
  rintro e w1 ⟨v, ⟨rfl, hk1⟩, ho⟩
  obtain ⟨ga, ca, rfl⟩ := ho.slice
  have h1 := h.keep hk1 (fun x _ => noB_not x)
  have hDw : ∀ x, w.heap.size ≤ x → ¬ D x := fun x hx hd => by have := h.lt x hd; omega
  have HH := Lib.hid h
  clear h
  go_wp2_with fail
  go_loopw [9] (fun i wr => ∃ m : Nat, m ≤ (looN lo n).length ∧ i = .int .i64 m ∧ Keeps D w1 wr ∧ ∃ now' st' lo' va' vb', DrAt wr D b g n now' st' lo' va' vb' ∧ Done (fun _ => true) (looN lo n) now st lo m now' st' lo')
    (fun i _ => (looN lo n).length - (intOf i).toNat)
  case atStart => exact ⟨0, by omega, rfl, Keeps.refl _ _, now, st, lo, va, vb, h1, Done.start _ _ _ _ _⟩
  case round =>
    obtain ⟨m, hm, rfl, hkp, now', st', lo', va', vb', hd, hDn⟩ := hrel
    by_cases hlt : m < (looN lo n).length
    · obtain ⟨k, hk, hkn, _⟩ := (looN_mem lo _ n).1 (getD_mem hlt)
      obtain ⟨_, rfl, _, _, hcl⟩ := (ho.keep hkp hDw).cell hlt
      rw [hk] at hcl
      have hst := hDn.step hnd hlt hk
      have HS := Lib.hid hst
      have hcp := blk_cell hd.ptr (i := 0) rfl
      cases hp : (fun _ => true) k
      · cases hp
      · clear hst
        have hset := settle_c (w := wr.drewN 1) (k := k) (hd.keep ((Keeps.refl noB wr).drewN 1) (fun x _ => noB_not x)) hkn
        go_wp2_with fail
        go_region_with (first | (go_at_call 28; refine (sync1_c _ _).mono ?_; rintro e w2 ⟨rfl, rfl⟩) | (go_at_call 29; refine hset.mono ?_; rintro e w3 ⟨⟨rfl, hk3⟩, hd3⟩))
        all_goals go_wp2_with fail
        all_goals
          go_roundw
          case rel => exact ⟨m + 1, by omega, by go_num, (hkp.drewN 1).trans hk3 (fun _ _ h => h), _, _, _, _, _, hd3, HS.out⟩
          case measure => simp [intOf]; omega
    · have : m = (looN lo n).length := by omega
      subst this
      go_wp2_with fail
      go_end0
      exact ⟨⟨rfl, (hk1.of_no).trans hkp (fun _ _ h => h)⟩, va', vb', hd.congr hDn.fin⟩

set_option maxRecDepth 100000 in
set_option maxHeartbeats 4000000 in
theorem eachC_c {w : World} {D : Nat → Prop} {b g n : Nat} {now st : Nat → List Int} {lo : Nat → Bool} {va vb : Nat → Value} (h : DrAt w D b g n now st lo va vb) (keep : Int) (bk : Nat) (hb : w.heap[bk]? = some (.cells #[.int .i64 keep] 3 (0, 0))) (hbD : ¬ D bk) :
    Calls Try.prog 27 #[.pointer (some ⟨b, 0, none⟩), .func (.func 30) #[] #[.pointer (some ⟨bk, 0, none⟩)]] w fun e w' => RetK D (.tuple #[]) w e w' ∧ ∃ va' vb', DrAt w' D b g n (aftN (pickK keep) now st lo) (aftS (pickK keep) now st lo) (fun _ => false) va' vb' := by
  have hnd := looN_nodup lo n
  have hle := looN_le lo n
  have h6 := h.le
  go_enter Try.func27, Try.ntmps27
  go_wp2_with fail
  refine (loose_c h).mono ?_
  rintro e w1 ⟨v, ⟨rfl, hk1⟩, ho⟩
  obtain ⟨ga, ca, rfl⟩ := ho.slice
  have h1 := h.keep hk1 (fun x _ => noB_not x)
  have hDw : ∀ x, w.heap.size ≤ x → ¬ D x := fun x hx hd => by have := h.lt x hd; omega
  have hb1 := hk1.blk hb (noB_not _)
  have HH := Lib.hid h
  clear h
  go_wp2_with fail
  go_loopw [9] (fun i wr => ∃ m : Nat, m ≤ (looN lo n).length ∧ i = .int .i64 m ∧ Keeps D w1 wr ∧ ∃ now' st' lo' va' vb', DrAt wr D b g n now' st' lo' va' vb' ∧ Done (pickK keep) (looN lo n) now st lo m now' st' lo')
    (fun i _ => (looN lo n).length - (intOf i).toNat)
  case atStart => exact ⟨0, by omega, rfl, Keeps.refl _ _, now, st, lo, va, vb, h1, Done.start _ _ _ _ _⟩
  case round =>
    obtain ⟨m, hm, rfl, hkp, now', st', lo', va', vb', hd, hDn⟩ := hrel
    by_cases hlt : m < (looN lo n).length
    · obtain ⟨k, hk, hkn, _⟩ := (looN_mem lo _ n).1 (getD_mem hlt)
      obtain ⟨_, rfl, _, _, hcl⟩ := (ho.keep hkp hDw).cell hlt
      rw [hk] at hcl
      have hst := hDn.step hnd hlt hk
      have HS := Lib.hid hst
      have hcp := blk_cell hd.ptr (i := 0) rfl
      have HC := crash1_c k (by omega) keep bk (wr.drewN 1) (hkp.blk hb1 hbD)
      cases hp : (pickK keep) k
      · clear hst
        rw [hp] at HC
        have hset := fall_c (w := wr.drewN 1) (k := k) (hd.keep ((Keeps.refl noB wr).drewN 1) (fun x _ => noB_not x)) hkn
        rw [hp] at HS
        go_wp2_with fail
        go_region_with (first | (go_at_call 30; refine HC.mono ?_; rintro e w2 ⟨rfl, rfl⟩) | (go_at_call 31; refine hset.mono ?_; rintro e w3 ⟨⟨rfl, hk3⟩, hd3⟩))
        all_goals go_wp2_with fail
        all_goals
          go_roundw
          case rel => exact ⟨m + 1, by omega, by go_num, (hkp.drewN 1).trans hk3 (fun _ _ h => h), _, _, _, _, _, hd3, HS.out⟩
          case measure => simp [intOf]; omega
      · clear hst
        rw [hp] at HC
        have hset := settle_c (w := wr.drewN 1) (k := k) (hd.keep ((Keeps.refl noB wr).drewN 1) (fun x _ => noB_not x)) hkn
        rw [hp] at HS
        go_wp2_with fail
        go_region_with (first | (go_at_call 30; refine HC.mono ?_; rintro e w2 ⟨rfl, rfl⟩) | (go_at_call 29; refine hset.mono ?_; rintro e w3 ⟨⟨rfl, hk3⟩, hd3⟩))
        all_goals go_wp2_with fail
        all_goals
          go_roundw
          case rel => exact ⟨m + 1, by omega, by go_num, (hkp.drewN 1).trans hk3 (fun _ _ h => h), _, _, _, _, _, hd3, HS.out⟩
          case measure => simp [intOf]; omega
    · have : m = (looN lo n).length := by omega
      subst this
      go_wp2_with fail
      go_end0
      exact ⟨⟨rfl, (hk1.of_no).trans hkp (fun _ _ h => h)⟩, va', vb', hd.congr hDn.fin⟩

theorem sync_c {w : World} {D : Nat → Prop} {b g n : Nat} {now st : Nat → List Int} {lo : Nat → Bool} {va vb : Nat → Value} (h : DrAt w D b g n now st lo va vb) :
    Calls Try.prog 13 #[.pointer (some ⟨b, 0, none⟩)] w fun e w' => RetK D (.tuple #[]) w e w' ∧ ∃ va' vb', DrAt w' D b g n (aftN (fun _ => true) now st lo) (aftS (fun _ => true) now st lo) (fun _ => false) va' vb' := by
  have hE := eachS_c h
  go_enter Try.func13, Try.ntmps13
  go_wp2_with fail
  refine hE.mono ?_
  rintro e w1 ⟨⟨rfl, hk1⟩, va', vb', hd⟩
  go_wp2_with fail
  go_end0
  exact ⟨⟨rfl, hk1⟩, va', vb', hd⟩
theorem crash_c {w : World} {D : Nat → Prop} {b g n : Nat} {now st : Nat → List Int} {lo : Nat → Bool} {va vb : Nat → Value} (h : DrAt w D b g n now st lo va vb) (keep : Int) :
    Calls Try.prog 14 #[.pointer (some ⟨b, 0, none⟩), .int .i64 keep] w fun e w' => RetK D (.tuple #[]) w e w' ∧ ∃ va' vb', DrAt w' D b g n (aftN (pickK keep) now st lo) (aftS (pickK keep) now st lo) (fun _ => false) va' vb' := by
  have hkA := (Keeps.refl noB w).alloc (.cells #[.int .i64 keep] 3)
  have hE := eachC_c (h.keep hkA (fun x _ => noB_not x)) keep w.heap.size (heap_alloc_new _ _) (fun hd => by have := h.lt _ hd; omega)
  go_enter Try.func14, Try.ntmps14
  go_wp2_with fail
  refine hE.mono ?_
  rintro e w1 ⟨⟨rfl, hk1⟩, va', vb', hd⟩
  go_wp2_with fail
  go_end0
  exact ⟨⟨rfl, hkA.of_no.trans hk1 (fun _ _ h => h)⟩, va', vb', hd⟩
end Go.Proofs.Yteoafecdlnaecaa
