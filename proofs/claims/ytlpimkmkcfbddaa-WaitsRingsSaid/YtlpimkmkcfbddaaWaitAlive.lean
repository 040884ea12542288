/- Walks of waits: the chapter's example, and WaitsNames. No condition. -/
import Derived.Test.YtlpimkmkcfbddaaWaitDel
namespace Go.Proofs.Ytlpimkmkcfbddaa
open Go.RowKit

theorem rchB_t {l : List (Int × Int)} {x y : Int} (h : Rch l x y) : rchB l x y = true := (rchB_iff _ _ _).2 h
theorem rchB_f {l : List (Int × Int)} {x y : Int} (h : ¬ Rch l x y) : rchB l x y = false := by
  cases e : rchB l x y
  · rfl
  · exact absurd ((rchB_iff _ _ _).1 e) h
theorem cyc_t {l : List (Int × Int)} {x : Int} (h0 : 0 ≤ x) (h4 : x < 4) (h : Rch l x x) : cyc l x = true := (cyc_iff _ _).2 ⟨⟨h0, h4⟩, h⟩
theorem cyc_f {l : List (Int × Int)} {x : Int} (h : ¬ Rch l x x) : cyc l x = false := by
  cases e : cyc l x
  · rfl
  · exact absurd ((cyc_iff _ _).1 e).2 h
theorem no_into {l : List (Int × Int)} {x y : Int} (h : ∀ z, (z, y) ∉ l) : ¬ Rch l x y := fun hr => by
  obtain ⟨z, _, he⟩ := hr.into
  exact h z he.1

def l3 : List (Int × Int) := [(0, 1), (1, 0), (2, 0)]
theorem l3_01 : Rch l3 0 1 := .one ⟨by simp [l3], by omega, by omega⟩
theorem l3_10 : Rch l3 1 0 := .one ⟨by simp [l3], by omega, by omega⟩
theorem l3_20 : Rch l3 2 0 := .one ⟨by simp [l3], by omega, by omega⟩
theorem l3_2 (x : Int) : ¬ Rch l3 x 2 := no_into (by simp [l3])
theorem l3_3 (x : Int) : ¬ Rch l3 x 3 := no_into (by simp [l3])
theorem l3_vic : vicN l3 4 = some 1 := by
  have h3 : cyc l3 ((3 : Nat) : Int) = false := cyc_f (l3_3 3)
  have h2 : cyc l3 ((2 : Nat) : Int) = false := cyc_f (l3_2 2)
  have h1 : cyc l3 ((1 : Nat) : Int) = true := cyc_t (by omega) (by omega) (l3_10.trans l3_01)
  simp only [vicN, h3, h2, h1, if_true, Bool.false_eq_true, if_false]
theorem l3_c0 : cyc l3 0 = true := cyc_t (by omega) (by omega) (l3_01.trans l3_10)
theorem l3_c2 : cyc l3 2 = false := cyc_f (l3_2 2)
theorem l3_r2 : reachL l3 2 = [0, 1] := by
  have h0 : rchB l3 2 ((0 : Nat) : Int) = true := rchB_t l3_20
  have h1 : rchB l3 2 ((1 : Nat) : Int) = true := rchB_t (l3_20.trans l3_01)
  have h2 : rchB l3 2 ((2 : Nat) : Int) = false := rchB_f (l3_2 2)
  have h3 : rchB l3 2 ((3 : Nat) : Int) = false := rchB_f (l3_3 2)
  unfold reachL
  rw [if_pos (by simp)]
  simp only [rchN, h0, h1, h2, h3, if_true, Bool.false_eq_true, if_false]
  rfl
theorem l3_w : (without l3 1).length = 2 := by decide +kernel

theorem EdR.self {w : World} {B : Nat} {a : Option Addr} {l : List (Int × Int)} (h : EdR w B a l) : EdR w w.heap.size a l := fun k hk => by
  obtain ⟨b, off, h1, _, h3, h4, h5⟩ := h k hk
  exact ⟨b, off, h1, h3, h3, h4, h5⟩
theorem EdR.go {w w1 : World} {a : Option Addr} {l : List (Int × Int)} (h : EdR w w.heap.size a l) (hk : Keeps noB w w1) : EdR w1 w1.heap.size a l := (h.keep hk (fun b _ => noB_not b)).self

set_option maxRecDepth 100000 in
set_option maxHeartbeats 4000000 in
theorem waitsAlive_c (w : World) : Calls Try.prog 40 #[] w (RetK noB (.bool true) w) := by
  have he : EdR (w.alloc (.cells #[.int .i64 0, .int .i64 1, .int .i64 1, .int .i64 0, .int .i64 2, .int .i64 0] 61)) (w.alloc (.cells #[.int .i64 0, .int .i64 1, .int .i64 1, .int .i64 0, .int .i64 2, .int .i64 0] 61)).heap.size (some ⟨w.heap.size, 0, none⟩) l3 := by
    refine EdB.edr ⟨_, heap_alloc_new _ _, by decide, fun k hk => ?_⟩ (by rw [alloc_size]; omega)
    match k, hk with
    | 0, _ => exact ⟨rfl, rfl⟩
    | 1, _ => exact ⟨rfl, rfl⟩
    | 2, _ => exact ⟨rfl, rfl⟩
  have hv := victim_c l3 (by decide) _ 3 _ he
  rw [l3_vic] at hv
  simp only [show l3.length = 3 from rfl, vicV] at hv
  go_enter Try.func40, Try.ntmps40
  go_wp2_with fail
  refine hv.mono ?_
  rintro e w1 ⟨rfl, hk1⟩
  have he1 := he.go hk1
  have h1 := cycle_c l3 (by decide) _ 3 0 _ he1
  rw [l3_c0] at h1
  simp only [show l3.length = 3 from rfl] at h1
  clear hv
  go_wp2_with fail
  refine h1.mono ?_
  rintro e w2 ⟨rfl, hk2⟩
  have he2 := he1.go hk2
  have h2 := cycle_c l3 (by decide) _ 3 2 _ he2
  rw [l3_c2] at h2
  simp only [show l3.length = 3 from rfl] at h2
  clear h1
  go_wp2_with fail
  refine h2.mono ?_
  rintro e w3 ⟨rfl, hk3⟩
  have he3 := he2.go hk3
  have h3 := reach_c l3 (by decide) _ 3 2 _ he3
  rw [l3_r2] at h3
  simp only [show l3.length = 3 from rfl] at h3
  clear h2
  go_wp2_with fail
  refine h3.mono ?_
  rintro e w4 ⟨v, ⟨rfl, hk4⟩, ho⟩
  obtain ⟨a, c, rfl⟩ := ho.slice
  have he4 := he3.go hk4
  have h4 := without_c l3 (by decide) _ 3 1 _ he4
  simp only [show l3.length = 3 from rfl, l3_w] at h4
  clear h3
  go_wp2_with fail
  refine h4.mono ?_
  rintro e w5 ⟨a', c', ⟨rfl, hk5⟩, _⟩
  clear h4
  go_wp2_with fail
  go_ret
  exact ⟨rfl, (((((Keeps.refl noB w).alloc _).trans_no hk1).trans_no hk2).trans_no hk3).trans_no hk4 |>.trans_no hk5⟩
end Go.Proofs.Ytlpimkmkcfbddaa
