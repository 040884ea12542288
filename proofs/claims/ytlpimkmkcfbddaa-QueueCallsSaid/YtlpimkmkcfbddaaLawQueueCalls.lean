/- QueueCalls: a call is made once, is busy when it is told so, and is there till it is answered or its holder is gone: the law answers true at every input. No condition. -/
import Derived.Test.YtlpimkmkcfbddaaQueI
import Derived.Test.YtlpimkmkcfbddaaQueAlive
import Derived.Test.YtlpimkmkcfbddaaArgs
namespace Go.Proofs.Ytlpimkmkcfbddaa
open Go.RowKit

/-- A queue whose calls alone have been touched since the world w; the block bx holds cs. -/
structure QcI (w wr : World) (bx : Nat) (cs : Array Value) (S : Nat → Prop) (p r : Nat) (l : List (Kc × Bool)) : Prop where
  kp : Keeps noB w wr
  lo : ∀ y, S y → w.heap.size ≤ y ∧ y ≠ bx
  x : wr.heap[bx]? = some (.cells cs 73 (0, 0))
  q : ∃ v, QAt wr S p r v [] l
theorem QcI.next {w wr w1 : World} {bx : Nat} {cs : Array Value} {S S' : Nat → Prop} {p r : Nat} {l l' : List (Kc × Bool)} (h : QcI w wr bx cs S p r l) (hk : Keeps S wr w1) (hS : ∀ y, S' y → S y ∨ wr.heap.size ≤ y) {v : Value} (hq : QAt w1 S' p r v [] l') : QcI w w1 bx cs S' p r l' :=
  ⟨kx h.kp hk (fun y hy => (h.lo y hy).1), fun y hy => by
    have := h.kp.size
    have := lt_of_blk h.x
    rcases hS y hy with g | g
    · exact h.lo y g
    · exact ⟨by omega, by omega⟩, hk.blk h.x (fun g => (h.lo _ g).2 rfl), v, hq⟩
theorem QcI.same {w wr w1 : World} {bx : Nat} {cs : Array Value} {S : Nat → Prop} {p r : Nat} {l l' : List (Kc × Bool)} (h : QcI w wr bx cs S p r l) (hk : Keeps S wr w1) {v : Value} (hq : QAt w1 S p r v [] l') : QcI w w1 bx cs S p r l' := h.next hk (fun _ => .inl) hq
theorem QcI.no {w wr w1 : World} {bx : Nat} {cs : Array Value} {S : Nat → Prop} {p r : Nat} {l : List (Kc × Bool)} (h : QcI w wr bx cs S p r l) (hk : Keeps noB wr w1) : QcI w w1 bx cs S p r l := by
  obtain ⟨v, hq⟩ := h.q
  exact ⟨h.kp.trans_no hk, h.lo, hk.blk h.x (noB_not _), v, hq.no hk⟩
theorem QcI.call {w wr : World} {bx : Nat} {cs : Array Value} {S : Nat → Prop} {p r : Nat} {l : List (Kc × Bool)} (hI : QcI w wr bx cs S p r l) (h c pg ob : Int) (b : Bool) :
    Calls Try.prog 49 #[.pointer (some ⟨p, 0, none⟩), .int .i64 h, .agg #[.int .i64 c, .int .i64 pg, .int .i64 ob, .bool b]] wr fun e w' => e = .returned (.bool (callOk h ⟨c, pg, ob, b⟩ l)) ∧ QcI w w' bx cs S p r (if callOk h ⟨c, pg, ob, b⟩ l then kput ⟨h, pg, ob, b⟩ false l else l) := by
  obtain ⟨v, hq⟩ := hI.q
  exact (call_c hq h ⟨c, pg, ob, b⟩).mono fun e w' ⟨⟨he, hk⟩, hq'⟩ => ⟨he, hI.same hk hq'⟩
theorem QcI.called {w wr : World} {bx : Nat} {cs : Array Value} {S : Nat → Prop} {p r : Nat} {l : List (Kc × Bool)} (hI : QcI w wr bx cs S p r l) (h c pg ob : Int) (b : Bool) :
    Calls Try.prog 63 #[.pointer (some ⟨p, 0, none⟩), .int .i64 h, .agg #[.int .i64 c, .int .i64 pg, .int .i64 ob, .bool b]] wr fun e w' => e = .returned (.tuple #[.bool (kget ⟨h, pg, ob, b⟩ l).isSome, .bool ((kget ⟨h, pg, ob, b⟩ l).getD false)]) ∧ QcI w w' bx cs S p r l := by
  obtain ⟨v, hq⟩ := hI.q
  exact (called_c hq h ⟨c, pg, ob, b⟩).mono fun e w' ⟨he, hk⟩ => ⟨he, hI.no hk⟩
theorem QcI.out {w wr : World} {bx : Nat} {cs : Array Value} {S : Nat → Prop} {p r : Nat} {l : List (Kc × Bool)} (hI : QcI w wr bx cs S p r l) (h pg : Int) :
    Calls Try.prog 65 #[.pointer (some ⟨p, 0, none⟩), .int .i64 h, .int .i64 pg] wr fun e w' => e = .returned (.bool (outB h pg l)) ∧ QcI w w' bx cs S p r l := by
  obtain ⟨v, hq⟩ := hI.q
  exact (out_c hq h pg).mono fun e w' ⟨he, hk⟩ => ⟨he, hI.no hk⟩
theorem QcI.busy {w wr : World} {bx : Nat} {cs : Array Value} {S : Nat → Prop} {p r : Nat} {l : List (Kc × Bool)} (hI : QcI w wr bx cs S p r l) (h c pg ob : Int) (b : Bool) :
    Calls Try.prog 51 #[.pointer (some ⟨p, 0, none⟩), .int .i64 h, .agg #[.int .i64 c, .int .i64 pg, .int .i64 ob, .bool b]] wr fun e w' => e = .returned (.bool (kget ⟨h, pg, ob, b⟩ l).isSome) ∧ QcI w w' bx cs S p r (if (kget ⟨h, pg, ob, b⟩ l).isSome then kput ⟨h, pg, ob, b⟩ true l else l) := by
  obtain ⟨v, hq⟩ := hI.q
  exact (busy_c hq h ⟨c, pg, ob, b⟩).mono fun e w' ⟨⟨he, hk⟩, hq'⟩ => ⟨he, hI.same hk hq'⟩
theorem QcI.answer {w wr : World} {bx : Nat} {cs : Array Value} {S : Nat → Prop} {p r : Nat} {l : List (Kc × Bool)} (hI : QcI w wr bx cs S p r l) (h pg ob : Int) (b : Bool) :
    Calls Try.prog 59 #[.pointer (some ⟨p, 0, none⟩), .int .i64 h, .int .i64 pg, .int .i64 ob, .bool b] wr fun e w' => e = .returned (.tuple #[]) ∧ QcI w w' bx cs S p r (kdel ⟨h, pg, ob, b⟩ l) := by
  obtain ⟨v, hq⟩ := hI.q
  exact (answer_c hq h pg ob b).mono fun e w' ⟨⟨he, hk⟩, hq'⟩ => ⟨he, hI.same hk hq'⟩
theorem QcI.gone {w wr : World} {bx : Nat} {cs : Array Value} {S : Nat → Prop} {p r : Nat} {l : List (Kc × Bool)} (hI : QcI w wr bx cs S p r l) (hn : (l.map (·.1)).Nodup) (c : Int) :
    Calls Try.prog 61 #[.pointer (some ⟨p, 0, none⟩), .int .i64 c] wr fun e w' => e = .returned (.tuple #[]) ∧ ∃ S', QcI w w' bx cs S' p r (kgone c l) := by
  obtain ⟨v, hq⟩ := hI.q
  exact (gone_c hq (by simp) hn c).mono fun e w' ⟨⟨he, hk⟩, S', _, hS2, v', hq'⟩ => ⟨he, S', hI.next hk hS2 hq'⟩

def okB (h pg ob : Int) : Bool := decide (0 ≤ h ∧ h < 4) && decide (0 ≤ pg ∧ pg < 6 ∧ 0 ≤ ob ∧ ob < 4)
theorem callOk_nil (h c pg ob : Int) (b : Bool) : callOk h ⟨c, pg, ob, b⟩ [] = okB h pg ob := by
  unfold callOk rightB okB keyOf
  simp [kget, kfind]
theorem callOk_one (h c pg ob : Int) (b x : Bool) : callOk h ⟨c, pg, ob, b⟩ [(⟨h, pg, ob, b⟩, x)] = false := by
  unfold callOk keyOf
  simp [kget, kfind]

theorem out_one (h pg ob : Int) (b x : Bool) : outB h pg [(⟨h, pg, ob, b⟩, x)] = !x := by simp [outB, outP]
theorem out_nil (h pg : Int) : outB h pg [] = false := rfl
theorem kgone_one {h o pg ob : Int} {b x : Bool} (hh : ¬ h = o) : kgone o [(⟨h, pg, ob, b⟩, x)] = [(⟨h, pg, ob, b⟩, x)] := by simp [kgone, hh]
theorem kgone_self (h pg ob : Int) (b x : Bool) : kgone h [(⟨h, pg, ob, b⟩, x)] = [] := by simp [kgone]
theorem kgone_nil (h : Int) : kgone h [] = [] := rfl
theorem kdel_other (h pg ob : Int) (b x : Bool) : kdel ⟨h, pg, ob, !b⟩ [(⟨h, pg, ob, b⟩, x)] = [(⟨h, pg, ob, b⟩, x)] := by cases b <;> simp [kdel, kfind]
theorem kdel_one (k : Kc) (x : Bool) : kdel k [(k, x)] = [] := by simp [kdel, kfind]
theorem kdel_nil (k : Kc) : kdel k [] = [] := rfl
theorem kget_nil (k : Kc) : kget k [] = none := rfl
theorem kget_one (k : Kc) (b : Bool) : kget k [(k, b)] = some b := by simp [kget, kfind]
set_option maxRecDepth 100000 in
set_option maxHeartbeats 16000000 in
theorem queueCalls_w (h o : Int) (x : Wt) (w : World) :
    Calls Try.prog 17 #[.int .i64 h, .int .i64 o, .agg #[.int .i64 x.c, .int .i64 x.p, .int .i64 x.o, .bool x.w]] w (RetK noB (.bool true) w) := by
  obtain ⟨c, pg, ob, b⟩ := x
  simp only
  have hkA : Keeps noB w (w.alloc (.cells #[.int .i64 c, .int .i64 pg, .int .i64 ob, .bool b] 73)) := (Keeps.refl _ _).alloc _
  have hX := heap_alloc_new w (.cells #[.int .i64 c, .int .i64 pg, .int .i64 ob, .bool b] 73)
  have HX := Lib.hid hX
  clear hX
  by_cases hho : h = o
  · subst hho
    go_enter Try.func17, Try.ntmps17
    go_wp2_with fail
    refine (queueAlive_c _).mono ?_
    rintro e w1 ⟨rfl, hk1⟩
    go_wp2_with fail
    go_ret
    exact ⟨rfl, hkA.trans_no hk1⟩
  · go_enter Try.func17, Try.ntmps17
    go_wp2_with fail
    refine (queueAlive_c _).mono ?_
    rintro e w1 ⟨rfl, hk1⟩
    have hkw1 := hkA.trans_no hk1
    have hX1 := hk1.blk HX.out (noB_not _)
    clear HX hkA hk1
    go_wp2_with fail
    refine (new_q w1).mono ?_
    rintro e w2 ⟨⟨rfl, hk2⟩, hs2, hq2⟩
    have hI : QcI w w2 w.heap.size #[.int .i64 c, .int .i64 pg, .int .i64 ob, .bool b] (fun y => w1.heap.size ≤ y ∧ y < w1.heap.size + 2) (w1.heap.size + 1) w1.heap.size [] :=
      ⟨hkw1.trans_no hk2, fun y hy => by have := lt_of_blk hX1; have := hkw1.size; exact ⟨by omega, by omega⟩, hk2.blk hX1 (noB_not _), _, hq2⟩
    clear hkw1 hX1 hk2 hs2 hq2
    generalize w1.heap.size + 1 = p at *
    generalize w1.heap.size = r at *
    generalize w.heap.size = bx at *
    generalize (fun y => r ≤ y ∧ y < r + 2) = S at *
    cases hok : okB h pg ob
    rotate_left
    · have h1 : 0 ≤ h ∧ h < 4 ∧ 0 ≤ pg ∧ pg < 6 ∧ 0 ≤ ob ∧ ob < 4 := by unfold okB at hok; simp at hok; omega
      obtain ⟨h1, h2, h3, h4, h5, h6⟩ := h1
      have x0 := blk_cell hI.x (i := 0) rfl
      have x1 := blk_cell hI.x (i := 1) rfl
      have x2 := blk_cell hI.x (i := 2) rfl
      have x3 := blk_cell hI.x (i := 3) rfl
      have hA := hI.call h c pg ob b
      rw [callOk_nil, hok] at hA
      simp only [if_true, kput] at hA
      have HI := Lib.hid hI
      clear hI HI
      go_wp2_with fail
      refine hA.mono ?_
      rintro e wa ⟨rfl, hIa⟩
      clear hA x0 x1 x2 x3
      have x0 := blk_cell hIa.x (i := 0) rfl
      have x1 := blk_cell hIa.x (i := 1) rfl
      have x2 := blk_cell hIa.x (i := 2) rfl
      have x3 := blk_cell hIa.x (i := 3) rfl
      have hA := hIa.call h c pg ob b
      rw [callOk_one] at hA
      simp only [Bool.false_eq_true, if_false] at hA
      have HI := Lib.hid hIa
      clear hIa HI
      go_wp2_with fail
      refine hA.mono ?_
      rintro e wb ⟨rfl, hIb⟩
      clear hA x0 x1 x2 x3
      have x0 := blk_cell hIb.x (i := 0) rfl
      have x1 := blk_cell hIb.x (i := 1) rfl
      have x2 := blk_cell hIb.x (i := 2) rfl
      have x3 := blk_cell hIb.x (i := 3) rfl
      have hA := hIb.called h c pg ob b
      rw [kget_one] at hA
      simp only [Option.isSome_some, Option.getD_some] at hA
      have HI := Lib.hid hIb
      clear hIb HI
      go_wp2_with fail
      refine hA.mono ?_
      rintro e wc ⟨rfl, hIc⟩
      clear hA x0 x1 x2 x3
      have x0 := blk_cell hIc.x (i := 0) rfl
      have x1 := blk_cell hIc.x (i := 1) rfl
      have x2 := blk_cell hIc.x (i := 2) rfl
      have x3 := blk_cell hIc.x (i := 3) rfl
      have hA := hIc.out h pg
      rw [out_one] at hA
      simp only [Bool.not_false] at hA
      have HI := Lib.hid hIc
      clear hIc HI
      go_wp2_with fail
      refine hA.mono ?_
      rintro e wd ⟨rfl, hId⟩
      clear hA x0 x1 x2 x3
      have x0 := blk_cell hId.x (i := 0) rfl
      have x1 := blk_cell hId.x (i := 1) rfl
      have x2 := blk_cell hId.x (i := 2) rfl
      have x3 := blk_cell hId.x (i := 3) rfl
      have hA := hId.busy h c pg ob b
      rw [kget_one] at hA
      simp only [Option.isSome_some, if_true, kput] at hA
      have HI := Lib.hid hId
      clear hId HI
      go_wp2_with fail
      refine hA.mono ?_
      rintro e we ⟨rfl, hIe⟩
      clear hA x0 x1 x2 x3
      have x0 := blk_cell hIe.x (i := 0) rfl
      have x1 := blk_cell hIe.x (i := 1) rfl
      have x2 := blk_cell hIe.x (i := 2) rfl
      have x3 := blk_cell hIe.x (i := 3) rfl
      have hA := hIe.out h pg
      rw [out_one] at hA
      simp only [Bool.not_true] at hA
      have HI := Lib.hid hIe
      clear hIe HI
      go_wp2_with fail
      refine hA.mono ?_
      rintro e wf ⟨rfl, hIf⟩
      clear hA x0 x1 x2 x3
      have hA := hIf.gone (by simp) o
      rw [kgone_one (fun e => hho e)] at hA
      have HI := Lib.hid hIf
      clear hIf HI
      go_wp2_with fail
      refine hA.mono ?_
      rintro e wg ⟨rfl, S1, hIg⟩
      clear hA 
      have x0 := blk_cell hIg.x (i := 0) rfl
      have x1 := blk_cell hIg.x (i := 1) rfl
      have x2 := blk_cell hIg.x (i := 2) rfl
      have x3 := blk_cell hIg.x (i := 3) rfl
      have hA := hIg.answer h pg ob (!b)
      rw [kdel_other] at hA
      have HI := Lib.hid hIg
      clear hIg HI
      go_wp2_with fail
      refine hA.mono ?_
      rintro e wh ⟨rfl, hIh⟩
      clear hA x0 x1 x2 x3
      have x0 := blk_cell hIh.x (i := 0) rfl
      have x1 := blk_cell hIh.x (i := 1) rfl
      have x2 := blk_cell hIh.x (i := 2) rfl
      have x3 := blk_cell hIh.x (i := 3) rfl
      have hA := hIh.called h c pg ob b
      rw [kget_one] at hA
      simp only [Option.isSome_some, Option.getD_some] at hA
      have HI := Lib.hid hIh
      clear hIh HI
      go_wp2_with fail
      refine hA.mono ?_
      rintro e wi ⟨rfl, hIi⟩
      clear hA x0 x1 x2 x3
      have x0 := blk_cell hIi.x (i := 0) rfl
      have x1 := blk_cell hIi.x (i := 1) rfl
      have x2 := blk_cell hIi.x (i := 2) rfl
      have x3 := blk_cell hIi.x (i := 3) rfl
      have hA := hIi.answer h pg ob b
      rw [kdel_one] at hA
      have HI := Lib.hid hIi
      clear hIi HI
      go_wp2_with fail
      refine hA.mono ?_
      rintro e wj ⟨rfl, hIj⟩
      clear hA x0 x1 x2 x3
      have x0 := blk_cell hIj.x (i := 0) rfl
      have x1 := blk_cell hIj.x (i := 1) rfl
      have x2 := blk_cell hIj.x (i := 2) rfl
      have x3 := blk_cell hIj.x (i := 3) rfl
      have hA := hIj.called h c pg ob b
      rw [kget_nil] at hA
      simp only [Option.isSome_none, Option.getD_none] at hA
      have HI := Lib.hid hIj
      clear hIj HI
      go_wp2_with fail
      refine hA.mono ?_
      rintro e wk ⟨rfl, hIk⟩
      clear hA x0 x1 x2 x3
      have x0 := blk_cell hIk.x (i := 0) rfl
      have x1 := blk_cell hIk.x (i := 1) rfl
      have x2 := blk_cell hIk.x (i := 2) rfl
      have x3 := blk_cell hIk.x (i := 3) rfl
      have hA := hIk.call h c pg ob b
      rw [callOk_nil, hok] at hA
      simp only [if_true, kput] at hA
      have HI := Lib.hid hIk
      clear hIk HI
      go_wp2_with fail
      refine hA.mono ?_
      rintro e wl ⟨rfl, hIl⟩
      clear hA x0 x1 x2 x3
      have hA := hIl.gone (by simp) h
      rw [kgone_self] at hA
      have HI := Lib.hid hIl
      clear hIl HI
      go_wp2_with fail
      refine hA.mono ?_
      rintro e wm ⟨rfl, S2, hIm⟩
      clear hA 
      have x0 := blk_cell hIm.x (i := 0) rfl
      have x1 := blk_cell hIm.x (i := 1) rfl
      have x2 := blk_cell hIm.x (i := 2) rfl
      have x3 := blk_cell hIm.x (i := 3) rfl
      have hA := hIm.called h c pg ob b
      rw [kget_nil] at hA
      simp only [Option.isSome_none, Option.getD_none] at hA
      have HI := Lib.hid hIm
      clear hIm HI
      go_wp2_with fail
      refine hA.mono ?_
      rintro e wn ⟨rfl, hIn⟩
      clear hA x0 x1 x2 x3
      go_wp2_with fail
      go_ret
      exact ⟨rfl, hIn.kp⟩
    · have h1 : ¬ (0 ≤ h ∧ h < 4 ∧ 0 ≤ pg ∧ pg < 6 ∧ 0 ≤ ob ∧ ob < 4) := by unfold okB at hok; simp at hok; omega
      have x0 := blk_cell hI.x (i := 0) rfl
      have x1 := blk_cell hI.x (i := 1) rfl
      have x2 := blk_cell hI.x (i := 2) rfl
      have x3 := blk_cell hI.x (i := 3) rfl
      have hA := hI.call h c pg ob b
      rw [callOk_nil, hok] at hA
      simp only [Bool.false_eq_true, if_false] at hA
      have HI := Lib.hid hI
      clear hI HI
      go_wp2_with fail
      refine hA.mono ?_
      rintro e wa ⟨rfl, hIa⟩
      clear hA x0 x1 x2 x3
      have x0 := blk_cell hIa.x (i := 0) rfl
      have x1 := blk_cell hIa.x (i := 1) rfl
      have x2 := blk_cell hIa.x (i := 2) rfl
      have x3 := blk_cell hIa.x (i := 3) rfl
      have hA := hIa.call h c pg ob b
      rw [callOk_nil, hok] at hA
      simp only [Bool.false_eq_true, if_false] at hA
      have HI := Lib.hid hIa
      clear hIa HI
      go_wp2_with fail
      refine hA.mono ?_
      rintro e wb ⟨rfl, hIb⟩
      clear hA x0 x1 x2 x3
      have x0 := blk_cell hIb.x (i := 0) rfl
      have x1 := blk_cell hIb.x (i := 1) rfl
      have x2 := blk_cell hIb.x (i := 2) rfl
      have x3 := blk_cell hIb.x (i := 3) rfl
      have hA := hIb.called h c pg ob b
      rw [kget_nil] at hA
      simp only [Option.isSome_none, Option.getD_none] at hA
      have HI := Lib.hid hIb
      clear hIb HI
      go_wp2_with fail
      all_goals
        refine hA.mono ?_
        rintro e wc ⟨rfl, hIc⟩
        clear hA x0 x1 x2 x3
        have x0 := blk_cell hIc.x (i := 0) rfl
        have x1 := blk_cell hIc.x (i := 1) rfl
        have x2 := blk_cell hIc.x (i := 2) rfl
        have x3 := blk_cell hIc.x (i := 3) rfl
        have hA := hIc.out h pg
        rw [out_nil] at hA
        have HI := Lib.hid hIc
        clear hIc HI
        go_wp2_with fail
        refine hA.mono ?_
        rintro e wd ⟨rfl, hId⟩
        clear hA x0 x1 x2 x3
        have x0 := blk_cell hId.x (i := 0) rfl
        have x1 := blk_cell hId.x (i := 1) rfl
        have x2 := blk_cell hId.x (i := 2) rfl
        have x3 := blk_cell hId.x (i := 3) rfl
        have hA := hId.busy h c pg ob b
        rw [kget_nil] at hA
        simp only [Option.isSome_none, Bool.false_eq_true, if_false] at hA
        have HI := Lib.hid hId
        clear hId HI
        go_wp2_with fail
        refine hA.mono ?_
        rintro e we ⟨rfl, hIe⟩
        clear hA x0 x1 x2 x3
        have x0 := blk_cell hIe.x (i := 0) rfl
        have x1 := blk_cell hIe.x (i := 1) rfl
        have x2 := blk_cell hIe.x (i := 2) rfl
        have x3 := blk_cell hIe.x (i := 3) rfl
        have hA := hIe.out h pg
        rw [out_nil] at hA
        have HI := Lib.hid hIe
        clear hIe HI
        go_wp2_with fail
        refine hA.mono ?_
        rintro e wf ⟨rfl, hIf⟩
        clear hA x0 x1 x2 x3
        have hA := hIf.gone (by simp) o
        rw [kgone_nil] at hA
        have HI := Lib.hid hIf
        clear hIf HI
        go_wp2_with fail
        refine hA.mono ?_
        rintro e wg ⟨rfl, S1, hIg⟩
        clear hA 
        have x0 := blk_cell hIg.x (i := 0) rfl
        have x1 := blk_cell hIg.x (i := 1) rfl
        have x2 := blk_cell hIg.x (i := 2) rfl
        have x3 := blk_cell hIg.x (i := 3) rfl
        have hA := hIg.answer h pg ob (!b)
        rw [kdel_nil] at hA
        have HI := Lib.hid hIg
        clear hIg HI
        go_wp2_with fail
        refine hA.mono ?_
        rintro e wh ⟨rfl, hIh⟩
        clear hA x0 x1 x2 x3
        have x0 := blk_cell hIh.x (i := 0) rfl
        have x1 := blk_cell hIh.x (i := 1) rfl
        have x2 := blk_cell hIh.x (i := 2) rfl
        have x3 := blk_cell hIh.x (i := 3) rfl
        have hA := hIh.called h c pg ob b
        rw [kget_nil] at hA
        simp only [Option.isSome_none, Option.getD_none] at hA
        have HI := Lib.hid hIh
        clear hIh HI
        go_wp2_with fail
        refine hA.mono ?_
        rintro e wi ⟨rfl, hIi⟩
        clear hA x0 x1 x2 x3
        have x0 := blk_cell hIi.x (i := 0) rfl
        have x1 := blk_cell hIi.x (i := 1) rfl
        have x2 := blk_cell hIi.x (i := 2) rfl
        have x3 := blk_cell hIi.x (i := 3) rfl
        have hA := hIi.answer h pg ob b
        rw [kdel_nil] at hA
        have HI := Lib.hid hIi
        clear hIi HI
        go_wp2_with fail
        refine hA.mono ?_
        rintro e wj ⟨rfl, hIj⟩
        clear hA x0 x1 x2 x3
        have x0 := blk_cell hIj.x (i := 0) rfl
        have x1 := blk_cell hIj.x (i := 1) rfl
        have x2 := blk_cell hIj.x (i := 2) rfl
        have x3 := blk_cell hIj.x (i := 3) rfl
        have hA := hIj.called h c pg ob b
        rw [kget_nil] at hA
        simp only [Option.isSome_none, Option.getD_none] at hA
        have HI := Lib.hid hIj
        clear hIj HI
        go_wp2_with fail
        refine hA.mono ?_
        rintro e wk ⟨rfl, hIk⟩
        clear hA x0 x1 x2 x3
        have x0 := blk_cell hIk.x (i := 0) rfl
        have x1 := blk_cell hIk.x (i := 1) rfl
        have x2 := blk_cell hIk.x (i := 2) rfl
        have x3 := blk_cell hIk.x (i := 3) rfl
        have hA := hIk.call h c pg ob b
        rw [callOk_nil, hok] at hA
        simp only [Bool.false_eq_true, if_false] at hA
        have HI := Lib.hid hIk
        clear hIk HI
        go_wp2_with fail
        refine hA.mono ?_
        rintro e wl ⟨rfl, hIl⟩
        clear hA x0 x1 x2 x3
        have hA := hIl.gone (by simp) h
        rw [kgone_nil] at hA
        have HI := Lib.hid hIl
        clear hIl HI
        go_wp2_with fail
        refine hA.mono ?_
        rintro e wm ⟨rfl, S2, hIm⟩
        clear hA 
        have x0 := blk_cell hIm.x (i := 0) rfl
        have x1 := blk_cell hIm.x (i := 1) rfl
        have x2 := blk_cell hIm.x (i := 2) rfl
        have x3 := blk_cell hIm.x (i := 3) rfl
        have hA := hIm.called h c pg ob b
        rw [kget_nil] at hA
        simp only [Option.isSome_none, Option.getD_none] at hA
        have HI := Lib.hid hIm
        clear hIm HI
        go_wp2_with fail
        refine hA.mono ?_
        rintro e wn ⟨rfl, hIn⟩
        clear hA x0 x1 x2 x3
        go_wp2_with fail
        go_ret
        exact ⟨rfl, hIn.kp⟩
theorem queueCalls_r (h o : Int) (x0 x1 x2 x3 : Value) (w : World) (_ : -9223372036854775808 ≤ h ∧ h ≤ 9223372036854775807) (_ : -9223372036854775808 ≤ o ∧ o ≤ 9223372036854775807) (q0 : IsI x0) (q1 : IsI x1) (q2 : IsI x2) (q3 : IsB x3) :
    Calls Try.prog 17 #[.int .i64 h, .int .i64 o, .agg #[x0, x1, x2, x3]] w (RetK noB (.bool true) w) := by
  obtain ⟨a0, rfl, _⟩ := q0
  obtain ⟨a1, rfl, _⟩ := q1
  obtain ⟨a2, rfl, _⟩ := q2
  obtain ⟨a3, rfl⟩ := q3
  exact queueCalls_w h o ⟨a0, a1, a2, a3⟩ w
end Go.Proofs.Ytlpimkmkcfbddaa
