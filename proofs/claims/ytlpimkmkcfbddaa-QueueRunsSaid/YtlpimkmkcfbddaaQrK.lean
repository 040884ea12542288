/- QueueRuns: the queue beside the document's. No condition. -/
import Derived.Test.YtlpimkmkcfbddaaQrJ
namespace Go.Proofs.Ytlpimkmkcfbddaa
open Go.RowKit

theorem kput_keys {k : Kc} {b : Bool} : ∀ {l : List (Kc × Bool)}, (kput k b l).map (·.1) = if k ∈ l.map (·.1) then l.map (·.1) else l.map (·.1) ++ [k]
  | [] => by simp [kput]
  | x :: t => by
    unfold kput
    by_cases e : k = x.1
    · rw [if_pos e, if_pos (by simp [e])]; rfl
    · rw [if_neg e, List.map_cons, kput_keys (l := t), List.map_cons]
      by_cases h : k ∈ t.map (·.1)
      · rw [if_pos h, if_pos (List.mem_cons_of_mem _ h)]
      · rw [if_neg h, if_neg (by rw [List.mem_cons]; exact fun h' => h'.elim e h)]; rfl
theorem knodup_put {k : Kc} {b : Bool} {l : List (Kc × Bool)} (h : (l.map (·.1)).Nodup) : ((kput k b l).map (·.1)).Nodup := by
  rw [kput_keys]
  split
  · exact h
  · rename_i hn
    rw [List.nodup_append]
    refine ⟨h, by simp, fun a ha b hb => ?_⟩
    simp at hb
    subst hb
    exact fun e => hn (e ▸ ha)
theorem kput_le {k : Kc} {b : Bool} {l : List (Kc × Bool)} : (kput k b l).length ≤ l.length + 1 := by
  have := congrArg List.length (kput_keys (k := k) (b := b) (l := l))
  rw [List.length_map] at this
  split at this <;> simp at this <;> omega
/-- A queue's plain state after n acts. -/
def QOk (n : Nat) (ws : List Wt) (l : List (Kc × Bool)) : Prop := WOk ws ∧ (l.map (·.1)).Nodup ∧ l.length ≤ n
theorem QOk.up {n : Nat} {ws : List Wt} {l : List (Kc × Bool)} (h : QOk n ws l) : QOk (n + 1) ws l := ⟨h.1, h.2.1, Nat.le_succ_of_le h.2.2⟩
theorem QOk.add {n : Nat} {ws : List Wt} {l : List (Kc × Bool)} (h : QOk n ws l) (x : Wt) : QOk (n + 1) (qadd ws x) l := ⟨h.1.qadd x, h.up.2⟩
theorem WOk.rm {ws : List Wt} (h : WOk ws) (c : Int) : WOk (rmQ c ws) := ⟨fun x hx => h.1 x (List.mem_filter.1 hx).1, List.Nodup.sublist ((List.filter_sublist (l := ws)).map _) h.2⟩
theorem WOk.rmW {ws : List Wt} (h : WOk ws) (c : Int) : rmW c ws = rmQ c ws := rmW_filter h.2
theorem QOk.rm {n : Nat} {ws : List Wt} {l : List (Kc × Bool)} (h : QOk n ws l) (c : Int) : QOk (n + 1) (rmQ c ws) l := ⟨h.1.rm c, h.up.2⟩
theorem QOk.put {n : Nat} {ws : List Wt} {l : List (Kc × Bool)} (h : QOk n ws l) (k : Kc) (b t : Bool) : QOk (n + 1) ws (if t then kput k b l else l) := by
  cases t
  · exact h.up
  · exact ⟨h.1, knodup_put h.2.1, Nat.le_trans kput_le (Nat.succ_le_succ h.2.2)⟩
theorem QOk.del {n : Nat} {ws : List Wt} {l : List (Kc × Bool)} (h : QOk n ws l) (k : Kc) : QOk (n + 1) ws (kdel k l) :=
  ⟨h.1, knodup_del h.2.1, by rw [kdel_filter h.2.1]; exact Nat.le_trans (List.length_filter_le _ _) h.up.2.2⟩
theorem QOk.gone {n : Nat} {ws : List Wt} {l : List (Kc × Bool)} (h : QOk n ws l) (c : Int) : QOk (n + 1) (rmQ c ws) (kgone c l) :=
  ⟨h.1.rm c, List.Nodup.sublist ((List.filter_sublist (l := l)).map _) h.2.1, Nat.le_trans (kgone_le c l) h.up.2.2⟩
/-- The queue at p, the document's in bw, the law's second argument in bq. -/
structure QI (w wr : World) (bq bw p r : Nat) (X : Array Value) (S : Nat → Prop) (v va vb : Value) (ws : List Wt) (l : List (Kc × Bool)) (ws2 : List Wt) (l2 : List (Kc × Bool)) : Prop where
  kp : Keeps noB w wr
  q : QAt wr S p r v ws l
  f : QF wr S v ws
  sb : ∀ y, S y → w.heap.size ≤ y
  bx : wr.heap[bq]? = some (.cells X 82 (0, 0))
  nx : ¬ S bq
  rt : wr.heap[bw]? = some (.cells #[va, vb] 85 (0, 0))
  gw : w.heap.size ≤ bw
  nw : ¬ S bw
  rq : RQ wr va vb ws2 l2
  na : ∀ k, va.ownBlock = some k → ¬ S k
  nb : ∀ k, vb.ownBlock = some k → ¬ S k
  ne : bq ≠ bw
section
variable {w wr w1 : World} {bq bw p r : Nat} {X : Array Value} {S S' : Nat → Prop} {v v' va va' vb vb' : Value} {ws ws' ws2 ws2' : List Wt} {l l' l2 l2' : List (Kc × Bool)}
theorem QI.no (h : QI w wr bq bw p r X S v va vb ws l ws2 l2) (hk : Keeps noB wr w1) : QI w w1 bq bw p r X S v va vb ws l ws2 l2 :=
  ⟨h.kp.trans_no hk, h.q.no hk, h.f.no hk, h.sb, hk.blk h.bx (noB_not _), h.nx, hk.blk h.rt (noB_not _), h.gw, h.nw, h.rq.no hk, h.na, h.nb, h.ne⟩
theorem QI.code (h : QI w wr bq bw p r X S v va vb ws l ws2 l2) (hk : Keeps S wr w1) (hq : QAt w1 S' p r v' ws' l') (hf : QF w1 S' v' ws') (h2 : ∀ y, S' y → S y ∨ wr.heap.size ≤ y) : QI w w1 bq bw p r X S' v' va vb ws' l' ws2 l2 := by
  have hs := h.kp.size
  refine ⟨h.kp.trans hk (fun y hy hS => absurd (h.sb y hS) (by omega)), hq, hf, fun y hy => ?_, hk.blk h.bx h.nx, fun hy => ?_, hk.blk h.rt h.nw, h.gw, fun hy => ?_, ⟨own_keep h.rq.1 hk (fun k _ _ e => h.na k e), own_keep h.rq.2 hk (fun k _ _ e => h.nb k e)⟩, fun k hk2 hy => ?_, fun k hk2 hy => ?_, h.ne⟩
  · rcases h2 y hy with h3 | h3
    · exact h.sb y h3
    · omega
  · rcases h2 _ hy with h3 | h3
    · exact h.nx h3
    · have := lt_of_blk h.bx; omega
  · rcases h2 _ hy with h3 | h3
    · exact h.nw h3
    · have := lt_of_blk h.rt; omega
  · rcases h2 _ hy with h3 | h3
    · exact h.na k hk2 h3
    · have := (h.rq.1.lt k hk2).2; omega
  · rcases h2 _ hy with h3 | h3
    · exact h.nb k hk2 h3
    · have := (h.rq.2.lt k hk2).2; omega
theorem QI.code1 (h : QI w wr bq bw p r X S v va vb ws l ws2 l2) (hk : Keeps (oneB r) wr w1) (hq : QAt w1 S p r v ws l') : QI w w1 bq bw p r X S v va vb ws l' ws2 l2 :=
  h.code (hk.mono (fun y _ hy => by unfold oneB at hy; subst hy; exact h.q.inr)) hq (h.f.map hk h.q.calls) (fun _ hy => .inl hy)
theorem QI.doc (h : QI w wr bq bw p r X S v va vb ws l ws2 l2) (hk : Keeps noB wr w1) (hq : RQ w1 va' vb' ws2' l2') (ha : Fr wr va va') (hb : Fr wr vb vb') :
    QI w ((w1.setCell ⟨bw, 0, none⟩ va').setCell ⟨bw, 1, none⟩ vb') bq bw p r X S v va' vb' ws l ws2' l2' := by
  have h1 := h.no hk
  have k2 := ((Keeps.refl (oneB bw) w1).set1 0 va').set1 1 vb'
  have hs := h.kp.size
  refine ⟨h1.kp.trans k2 (fun y hy e => by unfold oneB at e; have := h.gw; omega), h1.q.keep k2 (fun y hy e => by unfold oneB at e; subst e; exact h.nw hy), ?_, h.sb, k2.blk h1.bx h.ne, h.nx, two_set h1.rt _ _, h.gw, h.nw, hq.set h1.rt (by decide) (by decide) k2, fun k hk2 hy => ?_, fun k hk2 hy => ?_, h.ne⟩
  · refine h1.f.imp (fun hf => ⟨own_keep hf.1 k2 (fun k _ _ e hy => ?_), hf.2⟩) id
    unfold oneB at hy; subst hy
    exact h.nw (hf.2 _ e)
  · rcases ha k hk2 with h3 | h3
    · exact h.na k h3 hy
    · have := h.q.lt k hy; omega
  · rcases hb k hk2 with h3 | h3
    · exact h.nb k h3 hy
    · have := h.q.lt k hy; omega
end
end Go.Proofs.Ytlpimkmkcfbddaa
