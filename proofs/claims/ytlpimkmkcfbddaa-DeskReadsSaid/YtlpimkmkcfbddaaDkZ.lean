/- The desk: the chapter's example, plainly. No condition. -/
import Derived.Test.YtlpimkmkcfbddaaDkY
namespace Go.Proofs.Ytlpimkmkcfbddaa
open Go.RowKit

theorem noInto {l : List (Int × Int)} {x y : Int} (h : ∀ z, (z, y) ∉ l) : ¬ Rch l x y := fun hr => by
  obtain ⟨z, _, he⟩ := hr.into
  exact h z he.1
theorem noOut {l : List (Int × Int)} {x y : Int} (h : ∀ z, (x, z) ∉ l) : ¬ Rch l x y := fun hr => by
  obtain ⟨z, he, _⟩ := hr.out
  exact h z he.1
theorem cycF {l : List (Int × Int)} {x : Int} (h : ¬ Rch l x x) : cyc l x = false := by
  cases hc : cyc l x
  · rfl
  · exact absurd ((cyc_iff _ _).1 hc).2 h
theorem cycT {l : List (Int × Int)} {x : Int} (h0 : 0 ≤ x) (h4 : x < 4) (h : Rch l x x) : cyc l x = true := (cyc_iff _ _).2 ⟨⟨h0, h4⟩, h⟩
theorem vic_of {l : List (Int × Int)} {b0 b1 b2 b3 : Bool} (h0 : cyc l 0 = b0) (h1 : cyc l 1 = b1) (h2 : cyc l 2 = b2) (h3 : cyc l 3 = b3) : vicN l 4 = if b3 then some 3 else if b2 then some 2 else if b1 then some 1 else if b0 then some 0 else none := by
  subst h0 h1 h2 h3
  rfl
theorem vic_nil : vicN [] 4 = none :=
  vic_of (cycF (noInto (by simp))) (cycF (noInto (by simp))) (cycF (noInto (by simp))) (cycF (noInto (by simp)))
theorem vic_10 : vicN [(1, 0)] 4 = none :=
  vic_of (cycF (noOut (by simp))) (cycF (noInto (by simp))) (cycF (noInto (by simp))) (cycF (noInto (by simp)))
theorem vic_01 : vicN [(0, 1)] 4 = none :=
  vic_of (cycF (noInto (by simp))) (cycF (noOut (by simp))) (cycF (noInto (by simp))) (cycF (noInto (by simp)))
theorem vic_ring : vicN [(0, 1), (1, 0)] 4 = some 1 := by
  have h01 : Rch [(0, 1), (1, 0)] 0 1 := .one ⟨by simp, by omega, by omega⟩
  have h10 : Rch [(0, 1), (1, 0)] 1 0 := .one ⟨by simp, by omega, by omega⟩
  exact vic_of (cycT (by omega) (by omega) (h01.trans h10)) (cycT (by omega) (by omega) (h10.trans h01)) (cycF (noInto (by simp))) (cycF (noInto (by simp)))
/-- A desk within bounds, decided. -/
def okB (s : Dp) : Bool := decide (s.ws.length ≤ 100) && s.ws.all (fun x => decide (0 ≤ x.o) && decide (x.o < 4)) && decide (s.al.length ≤ 8000)
theorem OkD.of {s : Dp} (h : okB s = true) : OkD s := by
  unfold okB at h
  simp only [Bool.and_eq_true, decide_eq_true_eq, List.all_eq_true] at h
  exact ⟨h.1.1, h.1.2, h.2⟩
theorem Settles.stop' {s : Dp} {l : List (Int × Int)} (h1 : okB s = true) (h2 : (passP s s.ws).2 = false) (h3 : okB (passP s s.ws).1 = true) (h4 : edgesP (passP s s.ws).1 = l) (h5 : vicN l 4 = none) : Settles s (passP s s.ws).1 :=
  .stop (.of h1) (by rw [← h2]) (.of h3) (by rw [h4]; exact h5)
theorem Settles.grant' {s : Dp} (h1 : okB s = true) (h2 : (passP s s.ws).2 = true) (h3 : okB (passP s s.ws).1 = true) (h4 : (passP s s.ws).1.ws = []) (h5 : 0 < s.ws.length) : Settles s (passP s s.ws).1 := by
  refine .pass (t := (passP s s.ws).1) (.of h1) (by rw [← h2]) (by rw [h4]; exact h5) ?_
  have e : passP (passP s s.ws).1 (passP s s.ws).1.ws = ((passP s s.ws).1, false) := by rw [h4]; rfl
  refine .stop (.of h3) e (.of h3) ?_
  have : edgesP (passP s s.ws).1 = [] := by unfold edgesP; rw [h4]; rfl
  rw [this]
  exact vic_nil
/-- Nothing is to be told any more. -/
def calm (s : Dp) : Dp := { s with al := [] }
def ps (s : Dp) : Dp := (passP s s.ws).1
def e1 : Dp := { dk0 with ws := addW ⟨0, 1, 2, false⟩ dk0.ws }
def u1 : Dp := ps e1
def e2 : Dp := { calm u1 with ws := addW ⟨1, 1, 2, false⟩ (calm u1).ws }
def u2 : Dp := ps e2
def e3 : Dp := { calm u2 with ws := addW ⟨0, 1, 2, true⟩ (calm u2).ws }
def u3 : Dp := ps e3
def e4 : Dp := { calm u3 with ws := addW ⟨1, 1, 2, true⟩ (calm u3).ws }
def u4 : Dp := ps e4
def e5 : Dp := { calm u4 with l := busyL 1 ⟨1, 1, 2, true⟩ (calm u4).l }
def f5 : Dp := failP (ps e5) 1
def u5 : Dp := ps f5
def e6 : Dp := relP (calm u5) 1 1 4 0
def u6 : Dp := ps e6
theorem s1 : Settles e1 u1 := .grant' (by decide +kernel) (by decide +kernel) (by decide +kernel) (by decide +kernel) (by decide +kernel)
theorem s2 : Settles e2 u2 := .grant' (by decide +kernel) (by decide +kernel) (by decide +kernel) (by decide +kernel) (by decide +kernel)
theorem s3 : Settles e3 u3 := .stop' (l := []) (by decide +kernel) (by decide +kernel) (by decide +kernel) (by decide +kernel) vic_nil
theorem s4 : Settles e4 u4 := .stop' (l := [(1, 0)]) (by decide +kernel) (by decide +kernel) (by decide +kernel) (by decide +kernel) vic_10
theorem s5 : Settles e5 u5 :=
  .fail (t := ps e5) (.of (by decide +kernel)) (by have h : (passP e5 e5.ws).2 = false := by decide +kernel
                                                   rw [← h]; rfl) (.of (by decide +kernel))
    (by have h : edgesP (ps e5) = [(0, 1), (1, 0)] := by decide +kernel
        rw [h]; exact vic_ring) (by decide +kernel)
    (.stop' (l := [(0, 1)]) (by decide +kernel) (by decide +kernel) (by decide +kernel) (by decide +kernel) vic_01)
theorem s6 : Settles e6 u6 := .grant' (by decide +kernel) (by decide +kernel) (by decide +kernel) (by decide +kernel) (by decide +kernel)
theorem a1 : u1.al.length = 1 := by decide +kernel
theorem a2 : u2.al.length = 1 := by decide +kernel
theorem a3 : u3.al.length = 1 := by decide +kernel
theorem a4 : u4.al.length = 0 := by decide +kernel
theorem a5 : u5.al = [⟨1, 8, 0, 0, 151, 0, false⟩] := by decide +kernel
theorem a6 : u6.al = [⟨0, 5, 1, 0, 15, 4, false⟩] := by decide +kernel
theorem o6 : (calm u6).T.owns 0 1 = 4#4 := by decide +kernel
theorem c6 : (calm u6).T.copies 1 1 = 11#4 := by decide +kernel
/-- DeskNames' own desk. -/
def e7 : Dp := { dk0 with ws := addW ⟨3, 1, 2, true⟩ dk0.ws }
def u7 : Dp := ps e7
theorem s7 : Settles e7 u7 := .grant' (by decide +kernel) (by decide +kernel) (by decide +kernel) (by decide +kernel) (by decide +kernel)
theorem a7 : u7.al = [⟨3, 5, 1, 0, 15, 15, false⟩] := by decide +kernel
theorem o7 : (calm u7).T.owns 3 1 = 15#4 := by decide +kernel
theorem n7 : (calm u7).T.owns 3 2 = 0#4 := by decide +kernel
theorem w7 : (calm u7).ws = [] := by decide +kernel
end Go.Proofs.Ytlpimkmkcfbddaa
