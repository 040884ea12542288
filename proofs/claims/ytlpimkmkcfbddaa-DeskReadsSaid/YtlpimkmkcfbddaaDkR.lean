/- The desk: more of its queue's and its table's calls, told of the desk. No condition. -/
import Derived.Test.YtlpimkmkcfbddaaDkG
namespace Go.Proofs.Ytlpimkmkcfbddaa
open Go.RowKit

def addW (x : Wt) (ws : List Wt) : List Wt := if addOk x ws then ws ++ [x] else ws
def callL (h : Int) (x : Wt) (l : List (Kc × Bool)) : List (Kc × Bool) := if callOk h x l then kput (keyOf h x) false l else l
def busyL (h : Int) (x : Wt) (l : List (Kc × Bool)) : List (Kc × Bool) := if (kget (keyOf h x) l).isSome then kput (keyOf h x) true l else l
section
variable {w : World} {D : Nat → Prop} {pd tb qp r : Nat} {s : Dp}
theorem ahead_d (h : DkD w D pd tb qp r s) (hl : s.ws.length ≤ 1000) (x : Wt) : Calls Try.prog 53 #[.pointer (some ⟨qp, 0, none⟩), .agg #[.int .i64 x.c, .int .i64 x.p, .int .i64 x.o, .bool x.w]] w
    (fun e w' => ∃ v', RetK noB v' w e w' ∧ OwnN w' w.heap.size v' (aheadL x s.ws)) := by
  obtain ⟨S, v, av, hA, _⟩ := h
  exact ahead_c hA.q hl x
theorem out_d (h : DkD w D pd tb qp r s) (c pg : Int) : Calls Try.prog 65 #[.pointer (some ⟨qp, 0, none⟩), .int .i64 c, .int .i64 pg] w (RetK noB (.bool (outB c pg s.l)) w) := by
  obtain ⟨S, v, av, hA, _⟩ := h
  exact out_c hA.q c pg
theorem called_d (h : DkD w D pd tb qp r s) (hh : Int) (x : Wt) : Calls Try.prog 63 #[.pointer (some ⟨qp, 0, none⟩), .int .i64 hh, .agg #[.int .i64 x.c, .int .i64 x.p, .int .i64 x.o, .bool x.w]] w
    (RetK noB (.tuple #[.bool (kget (keyOf hh x) s.l).isSome, .bool ((kget (keyOf hh x) s.l).getD false)]) w) := by
  obtain ⟨S, v, av, hA, _⟩ := h
  exact called_c hA.q hh x
theorem DkD.map {w1 : World} {S : Nat → Prop} {v av : Value} {l' : List (Kc × Bool)} (h : DkAt w pd tb qp r S v av s.T s.ws s.l s.al) (hp : D pd) (ht : D tb) (hS : ∀ y, S y → D y) (ha : ∀ k, av.ownBlock = some k → D k) (hD : ∀ y, D y → y < w.heap.size)
    (hk : Keeps (oneB r) w w1) (hq : QAt w1 S qp r v s.ws l') : ∃ D1, DkS w w1 D D1 pd tb qp r { s with l := l' } :=
  DkD.queue h hp ht hS ha hD (hk.mono (fun y _ hy => by unfold oneB at hy; subst hy; exact h.q.inr)) hq (h.f.map hk h.q.calls) (fun _ hy => .inl hy)
theorem call_d (h : DkD w D pd tb qp r s) (hh : Int) (x : Wt) : Calls Try.prog 49 #[.pointer (some ⟨qp, 0, none⟩), .int .i64 hh, .agg #[.int .i64 x.c, .int .i64 x.p, .int .i64 x.o, .bool x.w]] w
    (fun e w' => e = .returned (.bool (callOk hh x s.l)) ∧ ∃ D1, DkS w w' D D1 pd tb qp r { s with l := callL hh x s.l }) := by
  obtain ⟨S, v, av, hA, hp, ht, hS, ha, hD⟩ := h
  refine (call_k hA.q hh x).mono ?_
  rintro e w' ⟨⟨he, hk⟩, hq⟩
  exact ⟨he, DkD.map hA hp ht hS ha hD hk hq⟩
theorem busy_d (h : DkD w D pd tb qp r s) (hh : Int) (x : Wt) : Calls Try.prog 51 #[.pointer (some ⟨qp, 0, none⟩), .int .i64 hh, .agg #[.int .i64 x.c, .int .i64 x.p, .int .i64 x.o, .bool x.w]] w
    (fun e w' => e = .returned (.bool (kget (keyOf hh x) s.l).isSome) ∧ ∃ D1, DkS w w' D D1 pd tb qp r { s with l := busyL hh x s.l }) := by
  obtain ⟨S, v, av, hA, hp, ht, hS, ha, hD⟩ := h
  refine (busy_k hA.q hh x).mono ?_
  rintro e w' ⟨⟨he, hk⟩, hq⟩
  exact ⟨he, DkD.map hA hp ht hS ha hD hk hq⟩
theorem answer_d (h : DkD w D pd tb qp r s) (hh pg o : Int) (b : Bool) : Calls Try.prog 59 #[.pointer (some ⟨qp, 0, none⟩), .int .i64 hh, .int .i64 pg, .int .i64 o, .bool b] w
    (fun e w' => e = .returned (.tuple #[]) ∧ ∃ D1, DkS w w' D D1 pd tb qp r { s with l := kdel ⟨hh, pg, o, b⟩ s.l }) := by
  obtain ⟨S, v, av, hA, hp, ht, hS, ha, hD⟩ := h
  refine (answer_k hA.q hh pg o b).mono ?_
  rintro e w' ⟨⟨he, hk⟩, hq⟩
  exact ⟨he, DkD.map hA hp ht hS ha hD hk hq⟩
theorem add_d (h : DkD w D pd tb qp r s) (hl : s.ws.length ≤ 1000) (x : Wt) : Calls Try.prog 48 #[.pointer (some ⟨qp, 0, none⟩), .agg #[.int .i64 x.c, .int .i64 x.p, .int .i64 x.o, .bool x.w]] w
    (fun e w' => e = .returned (.bool (addOk x s.ws)) ∧ ∃ D1, DkS w w' D D1 pd tb qp r { s with ws := addW x s.ws }) := by
  obtain ⟨S, v, av, hA, hp, ht, hS, ha, hD⟩ := h
  refine (add_k hA.q hA.f hl x).mono ?_
  rintro e w' ⟨⟨he, hk⟩, S', _, h2, v', hq, hf⟩
  exact ⟨he, DkD.queue hA hp ht hS ha hD hk hq hf h2⟩
theorem drop_d (h : DkD w D pd tb qp r s) (c p m o : Int) : Calls Try.prog 23 #[.pointer (some ⟨tb, 0, none⟩), .int .i64 c, .int .i64 p, .int .i64 m, .int .i64 o] w
    (fun e w' => e = .returned (.tuple #[]) ∧ DkS w w' D D pd tb qp r { s with T := s.T.drop c p m o }) := by
  obtain ⟨S, v, av, hA, hp, ht, hS, ha, hD⟩ := h
  refine (drop_c c p m o tb s.T w hA.tab).mono ?_
  rintro e w' ⟨⟨he, hk⟩, hT⟩
  exact ⟨he, DkD.table hA hp ht hS ha hD hk hT⟩
theorem DkD.lt (h : DkD w D pd tb qp r s) {y : Nat} (hy : D y) : y < w.heap.size := by
  obtain ⟨_, _, _, _, _, _, _, _, hD⟩ := h
  exact hD y hy
theorem DkD.pd_lt (h : DkD w D pd tb qp r s) : D pd ∧ pd < w.heap.size := by
  obtain ⟨_, _, _, _, hp, _, _, _, hD⟩ := h
  exact ⟨hp, hD _ hp⟩
end
end Go.Proofs.Ytlpimkmkcfbddaa
