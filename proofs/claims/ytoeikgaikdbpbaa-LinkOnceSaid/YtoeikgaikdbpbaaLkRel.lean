/- A link and the reference's link go together: plain law. No condition. -/
import Derived.Test.YtoeikgaikdbpbaaLkRefP
import Derived.Test.YtoeikgaikdbpbaaLkGotB
namespace Go.Proofs.Ytoeikgaikdbpbaa
open Go.RowKit

theorem rpks_app (bs : List (List Int)) (l : List Int) (kn m : Nat) (h : kn + m ≤ bs.length) : rpks (bs ++ [l]) kn m = rpks bs kn m := by
  unfold rpks
  apply List.map_congr_left
  intro j hj
  have hj' : j < m := by simpa using hj
  rw [List.getD_eq_getElem?_getD, List.getD_eq_getElem?_getD, List.getElem?_append_left (by omega)]
theorem rpks_split (bs : List (List Int)) (kn u v : Nat) : rpks bs kn (u + v) = rpks bs kn u ++ rpks bs (kn + u) v := by
  induction v with
  | zero => simp [rpks]
  | succ v ih => rw [← Nat.add_assoc, rpks_succ, ih, rpks_succ, List.append_assoc, Nat.add_assoc]
theorem rpks_lo {bs : List (List Int)} {kn m : Nat} {x : Int × List Int} (h : x ∈ rpks bs kn m) : (kn : Int) + 1 ≤ x.1 ∧ x.1 ≤ (kn : Int) + m := by
  unfold rpks at h
  obtain ⟨j, hj, rfl⟩ := List.mem_map.1 h
  have : j < m := by simpa using hj
  simp only
  omega
theorem rpks_keep (bs : List (List Int)) (kn m : Nat) (a : Int) (h : a ≤ kn) : (rpks bs kn m).filter (fun x => decide (a < x.1)) = rpks bs kn m := by
  rw [List.filter_eq_self]
  intro x hx
  have := rpks_lo hx
  simp; omega
theorem rpks_drop (bs : List (List Int)) (kn m u : Nat) (h : u ≤ m) : (rpks bs kn m).filter (fun x => decide (((kn + u : Nat) : Int) < x.1)) = rpks bs (kn + u) (m - u) := by
  rw [show m = u + (m - u) by omega, rpks_split, List.filter_append, rpks_keep _ _ _ _ (Int.le_refl _), show u + (m - u) - u = m - u by omega]
  have : (rpks bs kn u).filter (fun x => decide (((kn + u : Nat) : Int) < x.1)) = [] := by
    rw [List.filter_eq_nil_iff]
    intro x hx
    have := rpks_lo hx
    simp; omega
  rw [this]; rfl

structure Rel (k : Lk) (r : Rl) (kn : Nat) : Prop where
  c : k.c = r.c
  e : k.e = r.e
  b : k.b = r.b
  v : k.v = r.v
  known : r.known = kn
  le : kn ≤ r.bs.length
  sent : k.sent = r.bs.length
  heard : k.heard = r.heard
  L : k.L.map (fun t => (t.s, t.l)) = rpks r.bs kn (r.bs.length - kn)
theorem Rel.len {k : Lk} {r : Rl} {kn : Nat} (h : Rel k r kn) : k.L.length = r.bs.length - kn := by
  have := congrArg List.length h.L
  simpa [rpks_len] using this
theorem Rel.new (c e b : Int) (v : Bool) : Rel (newLk c e b v) ⟨c, e, b, v, [], 0, 0⟩ 0 := ⟨rfl, rfl, rfl, rfl, rfl, Nat.le_refl _, rfl, rfl, rfl⟩
theorem Rel.pushE {k : Lk} {r : Rl} {kn : Nat} (h : Rel k r kn) (l : List Int) : pushE k l = r.pushE l := by
  have h1 := h.len
  have h2 := h.sent
  have h3 := h.known
  have h4 := h.le
  unfold Go.Proofs.Ytoeikgaikdbpbaa.pushE Rl.pushE
  have e1 : (16777215 ≤ k.sent) = (16777215 ≤ r.bs.length) := by rw [h2]; apply propext; omega
  have e2 : (8 ≤ k.L.length) = (8 ≤ (r.bs.length : Int) - r.known) := by apply propext; omega
  simp only [e1, e2]
theorem Rel.push {k : Lk} {r : Rl} {kn : Nat} (h : Rel k r kn) (l : List Int) (t : It) (h1 : t.s = k.sent + 1) (h2 : t.l = l) : Rel (if Go.Proofs.Ytoeikgaikdbpbaa.pushE k l = 0 then k.add t else k) (r.push l) kn := by
  unfold Rl.push
  rw [← h.pushE]
  split
  · refine ⟨h.c, h.e, h.b, h.v, h.known, by have := h.le; simp; omega, ?_, h.heard, ?_⟩
    · show k.sent + 1 = _
      have := h.sent
      simp; omega
    · show (k.L ++ [t]).map _ = _
      have hl := h.le
      have hs := h.sent
      rw [List.map_append, h.L]
      simp only [List.length_append, List.length_singleton]
      rw [show r.bs.length + 1 - kn = (r.bs.length - kn) + 1 by omega, rpks_succ, rpks_app _ _ _ _ (by omega), show kn + (r.bs.length - kn) = r.bs.length by omega]
      simp [h1, h2, hs]
  · exact h
theorem Rel.mine {k : Lk} {r : Rl} {kn : Nat} (h : Rel k r kn) (q : Pq) : k.mine q = r.mine q := by
  unfold Lk.mine mineB Rl.mine
  rw [h.c, h.e, h.b, h.v, h.sent]
theorem Rel.takes {k : Lk} {r : Rl} {kn : Nat} (h : Rel k r kn) (q : Pq) : k.takes q = r.takes q := by
  unfold Lk.takes Rl.takes
  rw [h.mine, h.heard]
theorem kept_map (c : Int) (L : List It) : (kept c L).map (fun t => (t.s, t.l)) = (L.map (fun t => (t.s, t.l))).filter (fun x => decide (c < x.1)) := by
  unfold kept
  rw [List.filter_map]
  rfl
theorem Rel.got {k : Lk} {r : Rl} {kn : Nat} (h : Rel k r kn) (q : Pq) : ∃ kn', Rel (k.got q) (r.got q) kn' := by
  unfold Lk.got Rl.got
  rw [h.mine]
  cases hm : r.mine q
  · exact ⟨kn, h⟩
  · simp only [if_true]
    have hk : q.k ≤ r.bs.length := by
      unfold Rl.mine at hm
      simp at hm
      exact hm.2.2.2.2
    have hle := h.le
    have hkn := h.known
    by_cases hq : q.k > r.known
    · refine ⟨q.k.toNat, h.c, h.e, h.b, h.v, by simp [hq]; omega, by simp; omega, h.sent, by simp only [h.heard], ?_⟩
      show (kept q.k k.L).map _ = rpks r.bs q.k.toNat (r.bs.length - q.k.toNat)
      rw [kept_map, h.L]
      have e1 : q.k = ((kn + (q.k.toNat - kn) : Nat) : Int) := by omega
      have := rpks_drop r.bs kn (r.bs.length - kn) (q.k.toNat - kn) (by omega)
      rw [← e1] at this
      rw [this, show kn + (q.k.toNat - kn) = q.k.toNat by omega, show r.bs.length - kn - (q.k.toNat - kn) = r.bs.length - q.k.toNat by omega]
    · refine ⟨kn, h.c, h.e, h.b, h.v, by simp [hq]; omega, h.le, h.sent, by simp only [h.heard], ?_⟩
      show (kept q.k k.L).map _ = rpks r.bs kn (r.bs.length - kn)
      rw [kept_map, h.L, rpks_keep _ _ _ _ (by omega)]
theorem Rel.pks {k : Lk} {r : Rl} {kn : Nat} (h : Rel k r kn) : k.pks = r.pks kn := by
  have hl := h.len
  have hle := h.le
  unfold Lk.pks Rl.pks
  by_cases e : k.L = []
  · rw [if_pos e, if_pos (by rw [e] at hl; simp at hl; omega)]
  · rw [if_neg e, if_neg (fun e2 => e (List.length_eq_zero_iff.1 (by omega))), h.L]
theorem Rel.hd {k : Lk} {r : Rl} {kn : Nat} (h : Rel k r kn) : k.hd = r.hd := by
  unfold Lk.hd Rl.hd
  rw [h.c, h.e, h.b, h.v, h.heard]
theorem rpush_len (r : Rl) (l : List Int) : (r.push l).bs.length ≤ r.bs.length + 1 := by
  unfold Rl.push
  split <;> simp
theorem rgot_bs (r : Rl) (q : Pq) : (r.got q).bs = r.bs := by
  unfold Rl.got
  split <;> rfl
end Go.Proofs.Ytoeikgaikdbpbaa
