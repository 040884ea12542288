/- QueueRuns: what is asked beside the document's queue. No condition. -/
import Derived.Test.YtlpimkmkcfbddaaQrK
namespace Go.Proofs.Ytlpimkmkcfbddaa
open Go.RowKit

section
variable {w wc w1 : World} {bq bw p r : Nat} {X : Array Value} {S : Nat → Prop} {v va vb : Value} {ws : List Wt} {l : List (Kc × Bool)} {n : Nat}
theorem QI.c63 (h : QI w wc bq bw p r X S v va vb ws l ws l) (hk : Keeps noB wc w1) (hh c pg o : Int) (b : Bool) :
    Calls Try.prog 63 #[.pointer (some ⟨p, 0, none⟩), .int .i64 hh, .agg #[.int .i64 c, .int .i64 pg, .int .i64 o, .bool b]] w1 (RetK noB (.tuple #[.bool (kget ⟨hh, pg, o, b⟩ l).isSome, .bool ((kget ⟨hh, pg, o, b⟩ l).getD false)]) wc) :=
  (called_c (h.q.no hk) hh ⟨c, pg, o, b⟩).mono (fun _ _ h => ⟨h.1, hk.trans_no h.2⟩)
theorem QI.c64 (h : QI w wc bq bw p r X S v va vb ws l ws l) (ho : QOk n ws l) (hn : n ≤ 1000) (hk : Keeps noB wc w1) (hh c pg o : Int) (b : Bool) :
    Calls Try.prog 64 #[.agg #[va, vb], .int .i64 hh, .agg #[.int .i64 c, .int .i64 pg, .int .i64 o, .bool b]] w1 (RetK noB (.tuple #[.bool (kget ⟨hh, pg, o, b⟩ l).isSome, .bool ((kget ⟨hh, pg, o, b⟩ l).getD false)]) wc) :=
  (called_q (h.rq.no hk) (Nat.le_trans ho.2.2 hn) hh ⟨c, pg, o, b⟩).mono (fun _ _ h => ⟨h.1, hk.trans_no h.2⟩)
theorem QI.c65 (h : QI w wc bq bw p r X S v va vb ws l ws l) (hk : Keeps noB wc w1) (hh pg : Int) : Calls Try.prog 65 #[.pointer (some ⟨p, 0, none⟩), .int .i64 hh, .int .i64 pg] w1 (RetK noB (.bool (outB hh pg l)) wc) :=
  (out_c (h.q.no hk) hh pg).mono (fun _ _ h => ⟨h.1, hk.trans_no h.2⟩)
theorem QI.c66 (h : QI w wc bq bw p r X S v va vb ws l ws l) (ho : QOk n ws l) (hn : n ≤ 1000) (hk : Keeps noB wc w1) (hh pg : Int) : Calls Try.prog 66 #[.agg #[va, vb], .int .i64 hh, .int .i64 pg] w1 (RetK noB (.bool (outB hh pg l)) wc) :=
  (out_q (h.rq.no hk) (Nat.le_trans ho.2.2 hn) hh pg).mono (fun _ _ h => ⟨h.1, hk.trans_no h.2⟩)
theorem QI.c47 (h : QI w wc bq bw p r X S v va vb ws l ws l) (ho : QOk n ws l) (hk : Keeps noB wc w1) : Calls Try.prog 47 #[.pointer (some ⟨p, 0, none⟩)] w1 (fun e w' => ∃ v', e = .returned v' ∧ Keeps noB wc w' ∧ WtC w' v' ws) :=
  (all_c (h.q.no hk) (by have := ho.1.len; omega)).mono (fun _ _ ⟨v', h, h2⟩ => ⟨v', h.1, hk.trans_no h.2, h2.read⟩)
theorem QI.c54 (h : QI w wc bq bw p r X S v va vb ws l ws l) (ho : QOk n ws l) (hk : Keeps noB wc w1) {u : Value} (hu : WtC w1 u ws) : Calls Try.prog 54 #[u, va] w1 (RetK noB (.bool true) wc) :=
  (sameW_c hu (h.rq.no hk).wants (by have := ho.1.len; omega)).mono (fun _ _ h => ⟨by rw [h.1, decide_eq_true rfl], hk.trans_no h.2⟩)
theorem NumR.of_own {w : World} {B : Nat} {v : Value} {l : List Int} (h : OwnN w B v l) : NumR w v l := by
  obtain ⟨_, h⟩ := h
  rcases h with ⟨rfl, h0⟩ | ⟨g, cap, cur, rfl, _, hg, _, _, _, ht⟩
  · exact ⟨none, 0, by rw [h0], fun i hi => by omega⟩
  · refine ⟨_, cap, rfl, fun i hi => ⟨g, 0, rfl, lt_of_blk hg, ?_⟩⟩
    refine blk_cell hg ?_
    have h1 : (cur.toList.take (l.length * 1))[i]? = some (.int .i64 l[i]) := by rw [ht, List.getElem?_map, List.getElem?_eq_getElem hi]; rfl
    rw [List.getElem?_take, if_pos (by omega), Array.getElem?_toList] at h1
    rw [Nat.zero_add]
    exact h1
theorem QI.c53 (h : QI w wc bq bw p r X S v va vb ws l ws l) (ho : QOk n ws l) (hk : Keeps noB wc w1) (c pg o : Int) (b : Bool) : Calls Try.prog 53 #[.pointer (some ⟨p, 0, none⟩), .agg #[.int .i64 c, .int .i64 pg, .int .i64 o, .bool b]] w1 (fun e w' => ∃ v', e = .returned v' ∧ Keeps noB wc w' ∧ NumR w' v' (aheadL ⟨c, pg, o, b⟩ ws)) :=
  (ahead_c (h.q.no hk) (by have := ho.1.len; omega) ⟨c, pg, o, b⟩).mono (fun _ _ ⟨v', h, h2⟩ => ⟨v', h.1, hk.trans_no h.2, NumR.of_own h2⟩)
theorem QI.c67 (h : QI w wc bq bw p r X S v va vb ws l ws l) (ho : QOk n ws l) (hk : Keeps noB wc w1) (c pg o : Int) (b : Bool) : Calls Try.prog 67 #[.agg #[va, vb], .agg #[.int .i64 c, .int .i64 pg, .int .i64 o, .bool b]] w1 (fun e w' => ∃ v', e = .returned v' ∧ Keeps noB wc w' ∧ Keeps noB w1 w' ∧ NumR w' v' (aheadL ⟨c, pg, o, b⟩ ws)) :=
  (ahead_q (h.rq.no hk) (by have := ho.1.len; omega) ⟨c, pg, o, b⟩).mono (fun _ _ ⟨v', h, h2⟩ => ⟨v', h.1, hk.trans_no h.2, h.2, NumR.of_own h2⟩)
theorem QI.c37 (ho : QOk n ws l) (hk : Keeps noB wc w1) {u u' : Value} {x : Wt} (h1 : NumR w1 u (aheadL x ws)) (h2 : NumR w1 u' (aheadL x ws)) : Calls Try.prog 37 #[u, u'] w1 (RetK noB (.bool true) wc) :=
  (sameN_true h1 h2 (by have := ho.1.len; have := aheadL_len x ws; omega)).mono (fun _ _ h => ⟨h.1, hk.trans_no h.2⟩)
theorem WOk.offs {ws : List Wt} (h : WOk ws) : ∀ x, x ∈ ws → 0 ≤ x.o ∧ x.o < 4 := fun x hx => (rightB_mem (h.1 x hx)).2.2
theorem QI.c52 (h : QI w wc bq bw p r X S v va vb ws l ws l) (ho : QOk n ws l) (hk : Keeps noB wc w1) (c pg : Int) : Calls Try.prog 52 #[.pointer (some ⟨p, 0, none⟩), .int .i64 c, .int .i64 pg] w1 (RetK noB (.int .i64 (mv (resM c pg ws))) wc) :=
  (reserved_c (h.q.no hk) (by have := ho.1.len; omega) c pg ho.1.offs).mono (fun _ _ h => ⟨h.1, hk.trans_no h.2⟩)
theorem QI.c68 (h : QI w wc bq bw p r X S v va vb ws l ws l) (ho : QOk n ws l) (hk : Keeps noB wc w1) (c pg : Int) : Calls Try.prog 68 #[.agg #[va, vb], .int .i64 c, .int .i64 pg] w1 (RetK noB (.int .i64 (mv (resM c pg ws))) wc) :=
  (reserved_q (h.rq.no hk) (by have := ho.1.len; omega) c pg ho.1.offs).mono (fun _ _ h => ⟨h.1, hk.trans_no h.2⟩)
end
end Go.Proofs.Ytlpimkmkcfbddaa
