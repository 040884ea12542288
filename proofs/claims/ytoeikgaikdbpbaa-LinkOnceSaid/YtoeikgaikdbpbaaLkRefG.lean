/- The reference's link: Got. No condition. -/
import Derived.Test.YtoeikgaikdbpbaaLkRef
namespace Go.Proofs.Ytoeikgaikdbpbaa
open Go.RowKit

theorem heap_alloc3_new (w : World) (A B C : Obj) : (((w.alloc A).alloc B).alloc C).heap[w.heap.size + 2]? = some C := by
  have h := heap_alloc2_new (w.alloc A) B C
  rwa [alloc_size] at h
def Rl.mine (k : Rl) (q : Pq) : Bool := q.c == k.c && (q.e == k.e && (q.b == k.b && (q.v != k.v && decide (q.k ≤ k.bs.length))))
def Rl.takes (k : Rl) (q : Pq) : Bool := k.mine q && decide (1 ≤ q.s ∧ q.s - 1 = k.heard)
def Rl.got (k : Rl) (q : Pq) : Rl := if k.mine q then { k with known := if q.k > k.known then q.k else k.known, heard := if 1 ≤ q.s ∧ q.s - 1 = k.heard then q.s else k.heard } else k

set_option maxRecDepth 100000 in
set_option maxHeartbeats 8000000 in
theorem rgot_c {w : World} {k : Rl} {vb : Value} {a0 : Option Addr} {c0 : Nat} (hvb : vb = .slice a0 k.bs.length c0) (q : Pq) (ab : Option Addr) (cb : Nat) (hs : -9223372036854775808 ≤ q.s ∧ q.s ≤ 9223372036854775807) :
    Calls Try.prog 19 #[k.val vb, .agg #[.int .i64 q.c, .int .i64 q.e, .int .i64 q.b, .int .i64 q.s, .int .i64 q.k, .bool q.v, .slice ab q.l.length cb]] w
      (RetK noB (.tuple #[(k.got q).val vb, if k.takes q then .slice ab q.l.length cb else .slice none 0 0, .bool (k.takes q)]) w) := by
  subst hvb
  obtain ⟨kc, ke, kb, kv, bs, kn, kh⟩ := k
  obtain ⟨pc, pe, pb, ps, pk, pv, l⟩ := q
  unfold Rl.val
  simp only at hs ⊢
  by_cases o1 : pc = kc
  rotate_left
  · have no1 : (pc != kc) = true := by simp [o1]
    have hm : Rl.mine ⟨kc, ke, kb, kv, bs, kn, kh⟩ ⟨pc, pe, pb, ps, pk, pv, l⟩ = false := by unfold Rl.mine; simp [o1]
    have hg : Rl.got ⟨kc, ke, kb, kv, bs, kn, kh⟩ ⟨pc, pe, pb, ps, pk, pv, l⟩ = ⟨kc, ke, kb, kv, bs, kn, kh⟩ := by unfold Rl.got; rw [hm]; rfl
    have ht : Rl.takes ⟨kc, ke, kb, kv, bs, kn, kh⟩ ⟨pc, pe, pb, ps, pk, pv, l⟩ = false := by unfold Rl.takes; rw [hm]; rfl
    rw [hg, ht]
    simp only [Bool.false_eq_true, if_false]
    clear hg ht hm
    go_enter Try.func19, Try.ntmps19
    go_wp2_with fail
    refine bodyPost_ret (results_row_tmp2 (fn := Try.f19) Try.results19 _ _ _ 47 _ (0, 0) _ rfl (heap_alloc3_new _ _ _ _) Try.underlying47 rfl (by kernel_rfl)) rfl ?_
    exact ⟨rfl, (((Keeps.refl _ _).alloc _).alloc _).alloc _⟩
  have no1 : (pc != kc) = false := by simp [o1]
  by_cases o2 : pe = ke
  rotate_left
  · have no2 : (pe != ke) = true := by simp [o2]
    have hm : Rl.mine ⟨kc, ke, kb, kv, bs, kn, kh⟩ ⟨pc, pe, pb, ps, pk, pv, l⟩ = false := by unfold Rl.mine; simp [o2]
    have hg : Rl.got ⟨kc, ke, kb, kv, bs, kn, kh⟩ ⟨pc, pe, pb, ps, pk, pv, l⟩ = ⟨kc, ke, kb, kv, bs, kn, kh⟩ := by unfold Rl.got; rw [hm]; rfl
    have ht : Rl.takes ⟨kc, ke, kb, kv, bs, kn, kh⟩ ⟨pc, pe, pb, ps, pk, pv, l⟩ = false := by unfold Rl.takes; rw [hm]; rfl
    rw [hg, ht]
    simp only [Bool.false_eq_true, if_false]
    clear hg ht hm
    go_enter Try.func19, Try.ntmps19
    go_wp2_with fail
    refine bodyPost_ret (results_row_tmp2 (fn := Try.f19) Try.results19 _ _ _ 47 _ (0, 0) _ rfl (heap_alloc3_new _ _ _ _) Try.underlying47 rfl (by kernel_rfl)) rfl ?_
    exact ⟨rfl, (((Keeps.refl _ _).alloc _).alloc _).alloc _⟩
  have no2 : (pe != ke) = false := by simp [o2]
  by_cases o3 : pb = kb
  rotate_left
  · have no3 : (pb != kb) = true := by simp [o3]
    have hm : Rl.mine ⟨kc, ke, kb, kv, bs, kn, kh⟩ ⟨pc, pe, pb, ps, pk, pv, l⟩ = false := by unfold Rl.mine; simp [o3]
    have hg : Rl.got ⟨kc, ke, kb, kv, bs, kn, kh⟩ ⟨pc, pe, pb, ps, pk, pv, l⟩ = ⟨kc, ke, kb, kv, bs, kn, kh⟩ := by unfold Rl.got; rw [hm]; rfl
    have ht : Rl.takes ⟨kc, ke, kb, kv, bs, kn, kh⟩ ⟨pc, pe, pb, ps, pk, pv, l⟩ = false := by unfold Rl.takes; rw [hm]; rfl
    rw [hg, ht]
    simp only [Bool.false_eq_true, if_false]
    clear hg ht hm
    go_enter Try.func19, Try.ntmps19
    go_wp2_with fail
    refine bodyPost_ret (results_row_tmp2 (fn := Try.f19) Try.results19 _ _ _ 47 _ (0, 0) _ rfl (heap_alloc3_new _ _ _ _) Try.underlying47 rfl (by kernel_rfl)) rfl ?_
    exact ⟨rfl, (((Keeps.refl _ _).alloc _).alloc _).alloc _⟩
  have no3 : (pb != kb) = false := by simp [o3]
  by_cases o4 : pv = kv
  · have no4 : (pv == kv) = true := by simp [o4]
    have hm : Rl.mine ⟨kc, ke, kb, kv, bs, kn, kh⟩ ⟨pc, pe, pb, ps, pk, pv, l⟩ = false := by unfold Rl.mine; simp [o4]
    have hg : Rl.got ⟨kc, ke, kb, kv, bs, kn, kh⟩ ⟨pc, pe, pb, ps, pk, pv, l⟩ = ⟨kc, ke, kb, kv, bs, kn, kh⟩ := by unfold Rl.got; rw [hm]; rfl
    have ht : Rl.takes ⟨kc, ke, kb, kv, bs, kn, kh⟩ ⟨pc, pe, pb, ps, pk, pv, l⟩ = false := by unfold Rl.takes; rw [hm]; rfl
    rw [hg, ht]
    simp only [Bool.false_eq_true, if_false]
    clear hg ht hm
    go_enter Try.func19, Try.ntmps19
    go_wp2_with fail
    refine bodyPost_ret (results_row_tmp2 (fn := Try.f19) Try.results19 _ _ _ 47 _ (0, 0) _ rfl (heap_alloc3_new _ _ _ _) Try.underlying47 rfl (by kernel_rfl)) rfl ?_
    exact ⟨rfl, (((Keeps.refl _ _).alloc _).alloc _).alloc _⟩
  have no4 : (pv == kv) = false := by simpa using o4
  by_cases o5 : pk > bs.length
  · have no5 : decide (pk > (bs.length : Int)) = true := decide_eq_true o5
    have hm : Rl.mine ⟨kc, ke, kb, kv, bs, kn, kh⟩ ⟨pc, pe, pb, ps, pk, pv, l⟩ = false := by unfold Rl.mine; simp [show ¬ pk ≤ (bs.length : Int) by omega]
    have hg : Rl.got ⟨kc, ke, kb, kv, bs, kn, kh⟩ ⟨pc, pe, pb, ps, pk, pv, l⟩ = ⟨kc, ke, kb, kv, bs, kn, kh⟩ := by unfold Rl.got; rw [hm]; rfl
    have ht : Rl.takes ⟨kc, ke, kb, kv, bs, kn, kh⟩ ⟨pc, pe, pb, ps, pk, pv, l⟩ = false := by unfold Rl.takes; rw [hm]; rfl
    rw [hg, ht]
    simp only [Bool.false_eq_true, if_false]
    clear hg ht hm
    go_enter Try.func19, Try.ntmps19
    go_wp2_with fail
    refine bodyPost_ret (results_row_tmp2 (fn := Try.f19) Try.results19 _ _ _ 47 _ (0, 0) _ rfl (heap_alloc3_new _ _ _ _) Try.underlying47 rfl (by kernel_rfl)) rfl ?_
    exact ⟨rfl, (((Keeps.refl _ _).alloc _).alloc _).alloc _⟩
  have no5 : decide (pk > (bs.length : Int)) = false := decide_eq_false o5
  have hm : Rl.mine ⟨kc, ke, kb, kv, bs, kn, kh⟩ ⟨pc, pe, pb, ps, pk, pv, l⟩ = true := by unfold Rl.mine; simp [o1, o2, o3, o4, show pk ≤ (bs.length : Int) by omega]
  have hg : Rl.got ⟨kc, ke, kb, kv, bs, kn, kh⟩ ⟨pc, pe, pb, ps, pk, pv, l⟩ = ⟨kc, ke, kb, kv, bs, if pk > kn then pk else kn, if 1 ≤ ps ∧ ps - 1 = kh then ps else kh⟩ := by unfold Rl.got; rw [hm]; rfl
  have ht : Rl.takes ⟨kc, ke, kb, kv, bs, kn, kh⟩ ⟨pc, pe, pb, ps, pk, pv, l⟩ = decide (1 ≤ ps ∧ ps - 1 = kh) := by unfold Rl.takes; rw [hm]; rfl
  rw [hg, ht]
  simp only
  clear hg ht hm
  by_cases o6 : pk > kn
  · have no6 : decide (pk > kn) = true := decide_eq_true o6
    simp only [o6, if_true]
    by_cases o7 : ps < 1
    · have no7 : decide (ps < 1) = true := decide_eq_true o7
      have o9 : ¬ (1 ≤ ps ∧ ps - 1 = kh) := by omega
      simp only [o9, if_false, decide_false, Bool.false_eq_true]
      go_enter Try.func19, Try.ntmps19
      go_wp2_with fail
      refine bodyPost_ret (results_row_tmp2 (fn := Try.f19) Try.results19 _ _ _ 47 _ (0, 0) _ rfl (heap_alloc3_new _ _ _ _) Try.underlying47 rfl (by kernel_rfl)) rfl ?_
      exact ⟨rfl, (((Keeps.refl _ _).alloc _).alloc _).alloc _⟩
    have no7 : decide (ps < 1) = false := decide_eq_false o7
    by_cases o8 : ps - 1 = kh
    · have no8 : (ps - 1 != kh) = false := by simp [o8]
      have o9 : (1 ≤ ps ∧ ps - 1 = kh) := by omega
      simp only [o9, if_true, decide_true, and_self]
      go_enter Try.func19, Try.ntmps19
      go_wp2_with fail
      go_region_with fail
      all_goals
        go_wp2_with fail
        refine bodyPost_ret (results_row_tmp2 (fn := Try.f19) Try.results19 _ _ _ 47 _ (0, 0) _ rfl (heap_alloc3_new _ _ _ _) Try.underlying47 rfl (by kernel_rfl)) rfl ?_
        exact ⟨rfl, ((((Keeps.refl _ _).alloc _).alloc _).alloc _).drew⟩
    · have no8 : (ps - 1 != kh) = true := by simp [o8]
      have o9 : ¬ (1 ≤ ps ∧ ps - 1 = kh) := by omega
      simp only [o9, if_false, decide_false, Bool.false_eq_true]
      go_enter Try.func19, Try.ntmps19
      go_wp2_with fail
      refine bodyPost_ret (results_row_tmp2 (fn := Try.f19) Try.results19 _ _ _ 47 _ (0, 0) _ rfl (heap_alloc3_new _ _ _ _) Try.underlying47 rfl (by kernel_rfl)) rfl ?_
      exact ⟨rfl, (((Keeps.refl _ _).alloc _).alloc _).alloc _⟩
  · have no6 : decide (pk > kn) = false := decide_eq_false o6
    simp only [o6, if_false]
    by_cases o7 : ps < 1
    · have no7 : decide (ps < 1) = true := decide_eq_true o7
      have o9 : ¬ (1 ≤ ps ∧ ps - 1 = kh) := by omega
      simp only [o9, if_false, decide_false, Bool.false_eq_true]
      go_enter Try.func19, Try.ntmps19
      go_wp2_with fail
      refine bodyPost_ret (results_row_tmp2 (fn := Try.f19) Try.results19 _ _ _ 47 _ (0, 0) _ rfl (heap_alloc3_new _ _ _ _) Try.underlying47 rfl (by kernel_rfl)) rfl ?_
      exact ⟨rfl, (((Keeps.refl _ _).alloc _).alloc _).alloc _⟩
    have no7 : decide (ps < 1) = false := decide_eq_false o7
    by_cases o8 : ps - 1 = kh
    · have no8 : (ps - 1 != kh) = false := by simp [o8]
      have o9 : (1 ≤ ps ∧ ps - 1 = kh) := by omega
      simp only [o9, if_true, decide_true, and_self]
      go_enter Try.func19, Try.ntmps19
      go_wp2_with fail
      go_region_with fail
      all_goals
        go_wp2_with fail
        refine bodyPost_ret (results_row_tmp2 (fn := Try.f19) Try.results19 _ _ _ 47 _ (0, 0) _ rfl (heap_alloc3_new _ _ _ _) Try.underlying47 rfl (by kernel_rfl)) rfl ?_
        exact ⟨rfl, ((((Keeps.refl _ _).alloc _).alloc _).alloc _).drew⟩
    · have no8 : (ps - 1 != kh) = true := by simp [o8]
      have o9 : ¬ (1 ≤ ps ∧ ps - 1 = kh) := by omega
      simp only [o9, if_false, decide_false, Bool.false_eq_true]
      go_enter Try.func19, Try.ntmps19
      go_wp2_with fail
      refine bodyPost_ret (results_row_tmp2 (fn := Try.f19) Try.results19 _ _ _ 47 _ (0, 0) _ rfl (heap_alloc3_new _ _ _ _) Try.underlying47 rfl (by kernel_rfl)) rfl ?_
      exact ⟨rfl, (((Keeps.refl _ _).alloc _).alloc _).alloc _⟩
end Go.Proofs.Ytoeikgaikdbpbaa
