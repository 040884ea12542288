/- QueueOne: what waits, plainly; the loop's state. No condition. -/
import Derived.Test.YtlpimkmkcfbddaaQueG
namespace Go.Proofs.Ytlpimkmkcfbddaa
open Go.RowKit

def qadd (ws : List Wt) (x : Wt) : List Wt := if addOk x ws then ws ++ [x] else ws
def qrun (xs : List Wt) : List Wt := xs.foldl qadd []
theorem qrun_succ {xs : List Wt} {k : Nat} (h : k < xs.length) : qrun (xs.take (k + 1)) = qadd (qrun (xs.take k)) xs[k] := by
  unfold qrun
  rw [List.take_succ_eq_append_getElem h, List.foldl_append]
  rfl
theorem ofW_nil (c : Int) : ofW c [] = -1 := rfl
theorem ofW_cons (c : Int) (x : Wt) (t : List Wt) : ofW c (x :: t) = if x.c = c then 0 else if 0 ≤ ofW c t then ofW c t + 1 else -1 := by
  unfold ofW
  rw [List.findIdx?_cons]
  by_cases e : x.c = c
  · simp [e]
  · simp only [beq_iff_eq, e, if_false]
    cases h : List.findIdx? (fun x => x.c == c) t with
    | none => simp
    | some i => simp
theorem ofW_neg {c : Int} {ws : List Wt} : ofW c ws < 0 ↔ ∀ x, x ∈ ws → x.c ≠ c := by
  induction ws with
  | nil => simp [ofW_nil]
  | cons x t ih =>
    rw [ofW_cons]
    by_cases e : x.c = c
    · simp [e]
    · rw [if_neg e]
      simp only [List.mem_cons, forall_eq_or_imp]
      by_cases h : 0 ≤ ofW c t
      · rw [if_pos h]
        constructor
        · intro h'; omega
        · rintro ⟨_, h'⟩; have := ih.2 h'; omega
      · rw [if_neg h]
        exact ⟨fun _ => ⟨e, ih.1 (by omega)⟩, fun _ => by omega⟩
/-- Who waits is right, and nobody waits twice. -/
def WOk (ws : List Wt) : Prop := (∀ x, x ∈ ws → rightB x = true) ∧ (ws.map (·.c)).Nodup
theorem WOk.nil : WOk [] := ⟨by simp, List.nodup_nil⟩
theorem WOk.qadd {ws : List Wt} (h : WOk ws) (x : Wt) : WOk (qadd ws x) := by
  unfold Go.Proofs.Ytlpimkmkcfbddaa.qadd
  cases ho : addOk x ws
  · simpa using h
  · simp only [if_true]
    unfold addOk at ho
    simp only [Bool.and_eq_true, decide_eq_true_eq] at ho
    refine ⟨fun y hy => ?_, ?_⟩
    · rw [List.mem_append, List.mem_singleton] at hy
      rcases hy with hy | rfl
      · exact h.1 y hy
      · exact ho.1
    · rw [List.map_append, List.nodup_append]
      refine ⟨h.2, by simp, ?_⟩
      intro a ha b hb
      simp at hb
      subst hb
      obtain ⟨y, hy, rfl⟩ := List.mem_map.1 ha
      exact ofW_neg.1 ho.2 y hy
theorem WOk.run (xs : List Wt) : WOk (qrun xs) := by
  unfold qrun
  have : ∀ (l : List Wt) (ws : List Wt), WOk ws → WOk (l.foldl Go.Proofs.Ytlpimkmkcfbddaa.qadd ws) := by
    intro l
    induction l with
    | nil => intro ws h; exact h
    | cons x t ih => intro ws h; exact ih _ (h.qadd x)
  exact this xs [] .nil
theorem qadd_len (ws : List Wt) (x : Wt) : (qadd ws x).length ≤ ws.length + 1 := by
  unfold qadd; split <;> simp
theorem qrun_len {xs : List Wt} {k : Nat} (h : k ≤ xs.length) : (qrun (xs.take k)).length ≤ k := by
  induction k with
  | zero => simp [qrun]
  | succ k ih =>
    rw [qrun_succ (by omega)]
    have := qadd_len (qrun (xs.take k)) xs[k]
    have := ih (by omega)
    omega
theorem rmW_filter {c : Int} : ∀ {ws : List Wt}, (ws.map (·.c)).Nodup → rmW c ws = ws.filter (fun x => x.c != c)
  | [], _ => by simp [rmW]
  | x :: t, h => by
    rw [List.map_cons, List.nodup_cons] at h
    have ih := rmW_filter (c := c) h.2
    unfold rmW at ih ⊢
    rw [ofW_cons]
    by_cases e : x.c = c
    · have hf : t.filter (fun y => y.c != c) = t := List.filter_eq_self.2 (fun y hy => by
        simp only [bne_iff_ne, ne_eq]
        intro e2
        exact h.1 (List.mem_map.2 ⟨y, hy, by rw [e2, e]⟩))
      simp [e, hf]
    · rw [if_neg e, List.filter_cons_of_pos (by simp [e]), ← ih]
      by_cases h0 : 0 ≤ ofW c t
      · rw [if_pos h0, if_pos h0, if_pos (by omega), show (ofW c t + 1).toNat = (ofW c t).toNat + 1 by omega]
        simp
      · rw [if_neg h0, if_neg h0, if_neg (by omega)]
theorem rm_len {c : Int} (ws : List Wt) : decide (0 ≤ ofW c ws) = decide ((ws.filter fun x => x.c != c).length < ws.length) := by
  rw [Bool.eq_iff_iff, decide_eq_true_iff, decide_eq_true_iff, List.length_filter_lt_length_iff_exists]
  have := ofW_neg (c := c) (ws := ws)
  constructor
  · intro h
    have h2 : ¬ ∀ x, x ∈ ws → x.c ≠ c := fun h' => by have := this.2 h'; omega
    simp only [ne_eq, Classical.not_forall, Classical.not_not] at h2
    obtain ⟨x, hx, hc⟩ := h2
    exact ⟨x, hx, by simp [hc]⟩
  · rintro ⟨x, hx, hc⟩
    have h2 : ¬ ofW c ws < 0 := fun h' => by
      have := this.1 h' x hx
      simp at hc
      exact this hc
    omega
theorem rm_again {c : Int} (ws : List Wt) : decide (0 ≤ ofW c (ws.filter fun x => x.c != c)) = false := by
  apply decide_eq_false
  have := (ofW_neg (c := c) (ws := ws.filter fun x => x.c != c)).2 (fun x hx => by
    have := (List.mem_filter.1 hx).2
    simpa using this)
  omega

/-- Who was seen. -/
def sv (ws : List Wt) (i : Nat) : Bool := ws.any (fun x => x.c == (i : Int))
def scells (ws : List Wt) : Array Value := #[.bool (sv ws 0), .bool (sv ws 1), .bool (sv ws 2), .bool (sv ws 3)]
theorem scells_at (ws : List Wt) {j : Nat} (h : j < 4) : (scells ws)[j]? = some (.bool (sv ws j)) := by
  match j, h with
  | 0, _ => rfl
  | 1, _ => rfl
  | 2, _ => rfl
  | 3, _ => rfl
theorem sv_append (ws : List Wt) (x : Wt) (i : Nat) : sv (ws ++ [x]) i = (sv ws i || x.c == (i : Int)) := by simp [sv]
theorem scells_set (ws : List Wt) (x : Wt) {j : Nat} (h : j < 4) (hx : x.c = (j : Int)) : (scells ws).setIfInBounds j (.bool true) = scells (ws ++ [x]) := by
  unfold scells
  simp only [sv_append, hx]
  match j, h with
  | 0, _ => simp
  | 1, _ => simp
  | 2, _ => simp
  | 3, _ => simp
theorem sv_false {ws : List Wt} {x : Wt} {j : Nat} (h : ofW x.c ws < 0) (hx : x.c = (j : Int)) : sv ws j = false := by
  unfold sv
  rw [List.any_eq_false]
  intro y hy
  have := ofW_neg.1 h y hy
  rw [hx] at this
  simpa using this
theorem addOk_true {x : Wt} {ws : List Wt} (h : addOk x ws = true) : ∃ j : Nat, j < 4 ∧ x.c = (j : Int) ∧ sv ws j = false := by
  unfold addOk at h
  simp only [Bool.and_eq_true, decide_eq_true_eq] at h
  obtain ⟨h1, h2⟩ := h
  unfold rightB at h1
  simp only [decide_eq_true_eq] at h1
  obtain ⟨j, hj⟩ := Int.eq_ofNat_of_zero_le h1.1
  exact ⟨j, by omega, hj, sv_false h2 hj⟩

/-- The loop's state: the queue holds wq, the slice u and the seen ones ws. -/
structure OneI (w wr : World) (S : Nat → Prop) (v : Value) (sb p r : Nat) (u : Value) (wq ws : List Wt) : Prop where
  kp : Keeps noB w wr
  q : QAt wr S p r v wq []
  qo : QOwn wr S v wq
  sp : ∀ y, S y → w.heap.size ≤ y ∧ y ≠ sb ∧ u.ownBlock ≠ some y
  seen : wr.heap[sb]? = some (.cells (scells ws) 42 (0, 0))
  own : wr.ownsRow w.heap.size 73 4 u ws.length (wcells ws)
  ge : w.heap.size ≤ sb
theorem own_blk' {w : World} {B : Nat} {v : Value} {n : Nat} {xs : List Value} (h : w.ownsRow B 73 4 v n xs) {k : Nat} (hk : v.ownBlock = some k) : B ≤ k ∧ ∃ cs, w.heap[k]? = some (.cells cs 73 (0, 0)) := by
  obtain ⟨_, h⟩ := h
  rcases h with ⟨rfl, _⟩ | ⟨g, c, cs, rfl, hB, hb, _⟩
  · simp [Value.ownBlock] at hk
  · simp [Value.ownBlock] at hk
    subst hk
    exact ⟨hB, cs, hb⟩
theorem OneI.no {w wr wA : World} {S : Nat → Prop} {v : Value} {sb p r : Nat} {u : Value} {wq ws : List Wt} (h : OneI w wr S v sb p r u wq ws) (hk : Keeps noB wr wA) : OneI w wA S v sb p r u wq ws :=
  ⟨h.kp.trans_no hk, h.q.no hk, ⟨own_keep_no h.qo.1 hk, h.qo.2⟩, h.sp, hk.blk h.seen (noB_not _), own_keep_no h.own hk, h.ge⟩
theorem OneI.added {w wA w3 : World} {S S' : Nat → Prop} {v v' : Value} {sb p r : Nat} {u : Value} {wq wq' ws : List Wt} (h : OneI w wA S v sb p r u wq ws) (hk : Keeps S wA w3)
    (hS : ∀ y, S' y → S y ∨ wA.heap.size ≤ y) (hq : QAt w3 S' p r v' wq' []) (ho : QOwn w3 S' v' wq') : OneI w w3 S' v' sb p r u wq' ws := by
  have hnS : ¬ S sb := fun hs => (h.sp sb hs).2.1 rfl
  refine ⟨h.kp.trans hk (fun x hx hs => absurd (h.sp x hs).1 (by omega)), hq, ho, fun y hy => ?_, hk.blk h.seen hnS, own_keep h.own hk (fun k _ _ hu hs => (h.sp k hs).2.2 hu), h.ge⟩
  rcases hS y hy with hs | hs
  · exact h.sp y hs
  · refine ⟨Nat.le_trans h.kp.size hs, fun e => ?_, fun e => ?_⟩
    · have := lt_of_blk h.seen; omega
    · obtain ⟨_, cs, hc⟩ := own_blk' h.own e
      have := lt_of_blk hc; omega
theorem OneI.ns {w wr : World} {S : Nat → Prop} {v : Value} {sb p r : Nat} {u : Value} {wq ws : List Wt} (h : OneI w wr S v sb p r u wq ws) : ∀ k, w.heap.size ≤ k → k < wr.heap.size → u.ownBlock = some k → ¬ oneB sb k := by
  intro k _ _ hu e
  unfold oneB at e
  subst e
  obtain ⟨_, cs, hc⟩ := own_blk' h.own hu
  rw [h.seen] at hc
  simp at hc
theorem OneI.own5 {w w3 w5 : World} {S : Nat → Prop} {v : Value} {sb p r : Nat} {u : Value} {wq ws : List Wt} (h : OneI w w3 S v sb p r u wq ws) (j : Nat) (hk : Keeps noB (w3.setCell ⟨sb, j, none⟩ (.bool true)) w5) : w5.ownsRow w.heap.size 73 4 u ws.length (wcells ws) :=
  own_keep_no (own_keep h.own ((Keeps.refl (oneB sb) w3).set1 j _) h.ns) hk
theorem OneI.pushed {w w3 w5 w6 : World} {S : Nat → Prop} {v : Value} {sb p r : Nat} {u u' : Value} {wq ws : List Wt} {x : Wt} (h : OneI w w3 S v sb p r u wq ws) {j : Nat} (hj : j < 4) (hx : x.c = (j : Int))
    (hk : Keeps noB (w3.setCell ⟨sb, j, none⟩ (.bool true)) w5) (ho : w6.ownsRow w.heap.size 73 4 u' (ws ++ [x]).length (wcells (ws ++ [x]))) (hg : w5.grownBy w6 u.ownBlock)
    (hat : u'.ownBlock = u.ownBlock ∨ u'.ownBlock = some w5.heap.size) : OneI w w6 S v sb p r u' wq (ws ++ [x]) := by
  have hk1 : Keeps (oneB sb) w3 w5 := ((Keeps.refl (oneB sb) w3).set1 j _).trans_no hk
  have hSs : ∀ y, S y → ¬ oneB sb y := fun y hy e => (h.sp y hy).2.1 e
  have hq5 := h.q.keep hk1 hSs
  have hqo5 : QOwn w5 S v wq := ⟨own_keep h.qo.1 hk1 (fun k _ _ hv => hSs k (h.qo.2 k hv)), h.qo.2⟩
  have hg5 : Keeps (fun y => u.ownBlock = some y) w5 w6 := ((Keeps.refl noB w5).of_no).grown hg (fun k hk => .inr hk)
  have hSu : ∀ y, S y → ¬ (u.ownBlock = some y) := fun y hy => (h.sp y hy).2.2
  have hse : w5.heap[sb]? = some (.cells (scells (ws ++ [x])) 42 (0, 0)) := by
    rw [← scells_set ws x hj hx]
    exact hk.blk (heap_setCell_same w3 sb j _ h.seen) (noB_not _)
  have hkw5 : Keeps noB w w5 := h.kp.trans hk1 (fun y hy e => by unfold oneB at e; subst e; have := h.ge; omega)
  refine ⟨hkw5.trans hg5 (fun y hy e => by have := (own_blk' (h.own5 j hk) e).1; omega), hq5.keep hg5 hSu, ⟨own_keep hqo5.1 hg5 (fun k _ _ hv => hSu k (hqo5.2 k hv)), hqo5.2⟩, fun y hy => ?_, ?_, ho, h.ge⟩
  · refine ⟨(h.sp y hy).1, (h.sp y hy).2.1, ?_⟩
    rcases hat with e | e
    · rw [e]; exact (h.sp y hy).2.2
    · rw [e]; intro e2; simp at e2; have := hq5.lt y hy; omega
  · refine hg5.blk hse (fun e => ?_)
    obtain ⟨_, cs, hc⟩ := own_blk' (h.own5 j hk) e
    rw [hse] at hc
    simp at hc
end Go.Proofs.Ytlpimkmkcfbddaa
