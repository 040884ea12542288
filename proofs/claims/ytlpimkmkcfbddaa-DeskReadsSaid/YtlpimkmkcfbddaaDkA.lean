/- The desk: its memory; what is sent. No condition. -/
import Derived.Test.YtlpimkmkcfbddaaQrB
import Derived.Test.YtlpimkmkcfbddaaTab
namespace Go.Proofs.Ytlpimkmkcfbddaa
open Go.RowKit

/-- What is told to a client (no transaction, no puts, no values). -/
structure Ac where
  c : Int
  kind : Int
  page : Int
  obj : Int
  copy : Int
  own : Int
  wr : Bool
  deriving DecidableEq
abbrev cz : Value := .complex .f64 0 0
def acells (x : Ac) : List Value := [.int .i64 x.c, .int .i64 x.kind, .int .i64 x.page, .int .i64 x.obj, .int .i64 0, .int .i64 x.copy, .int .i64 x.own, .bool x.wr, .slice none 0 0, cz, cz, cz, cz]
theorem info112 : (Try.prog.info? 112).map (fun i => (i.zero, i.size, i.bytes)) = some (some (.agg (acells ⟨0, 0, 0, 0, 0, 0, false⟩).toArray), 13, 152) := by kernel_rfl
theorem cells112 : Try.prog.cellsOf 112 = 13 := by kernel_rfl
def lcells (l : List Ac) : List Value := l.flatMap acells
theorem lcells_len (l : List Ac) : (lcells l).length = l.length * 13 := by
  induction l with
  | nil => rfl
  | cons e t ih => simp [lcells, acells] at ih ⊢; omega
theorem lcells_append (l m : List Ac) : lcells (l ++ m) = lcells l ++ lcells m := by simp [lcells]
/-- The desk in memory: its block pd, the table's tb, the queue's qp and r. -/
structure DkAt (w : World) (pd tb qp r : Nat) (S : Nat → Prop) (v av : Value) (T : TB) (ws : List Wt) (l : List (Kc × Bool)) (al : List Ac) : Prop where
  pt : w.heap[pd]? = some (.cells #[.pointer (some ⟨tb, 0, none⟩), .pointer (some ⟨qp, 0, none⟩), av] 148 (0, 0))
  tab : TabAt w tb T
  q : QAt w S qp r v ws l
  f : QF w S v ws
  ac : w.ownsRow 0 112 13 av al.length (lcells al)
  np : ¬ S pd
  nt : ¬ S tb
  na : ∀ k, av.ownBlock = some k → ¬ S k
  ne : pd ≠ tb
section
variable {w w1 : World} {pd tb qp r : Nat} {S S' : Nat → Prop} {v v' av : Value} {T T' : TB} {ws ws' : List Wt} {l l' : List (Kc × Bool)} {al : List Ac}
theorem DkAt.no (h : DkAt w pd tb qp r S v av T ws l al) (hk : Keeps noB w w1) : DkAt w1 pd tb qp r S v av T ws l al :=
  ⟨hk.blk h.pt (noB_not _), hk.blk h.tab (noB_not _), h.q.no hk, h.f.no hk, own_keep_no h.ac hk, h.np, h.nt, h.na, h.ne⟩
/-- The queue has changed. -/
theorem DkAt.queue (h : DkAt w pd tb qp r S v av T ws l al) (hk : Keeps S w w1) (hq : QAt w1 S' qp r v' ws' l') (hf : QF w1 S' v' ws') (h2 : ∀ y, S' y → S y ∨ w.heap.size ≤ y) : DkAt w1 pd tb qp r S' v' av T ws' l' al := by
  refine ⟨hk.blk h.pt h.np, hk.blk h.tab h.nt, hq, hf, own_keep h.ac hk (fun k _ _ e => h.na k e), fun hy => ?_, fun hy => ?_, fun k hk2 hy => ?_, h.ne⟩
  · rcases h2 _ hy with h3 | h3
    · exact h.np h3
    · have := lt_of_blk h.pt; omega
  · rcases h2 _ hy with h3 | h3
    · exact h.nt h3
    · have := lt_of_blk h.tab; omega
  · rcases h2 _ hy with h3 | h3
    · exact h.na k hk2 h3
    · have := (h.ac.lt k hk2).2; omega
/-- The table has changed. -/
theorem DkAt.table (h : DkAt w pd tb qp r S v av T ws l al) (hk : Keeps (oneB tb) w w1) (ht : TabAt w1 tb T') (hac : ∀ k, av.ownBlock = some k → k ≠ tb) : DkAt w1 pd tb qp r S v av T' ws l al := by
  refine ⟨hk.blk h.pt h.ne, ht, h.q.keep hk (fun y hy e => by unfold oneB at e; subst e; exact h.nt hy), ?_, own_keep h.ac hk (fun k _ _ e hy => by unfold oneB at hy; exact hac k e hy), h.np, h.nt, h.na, h.ne⟩
  refine h.f.imp (fun hf => ⟨own_keep hf.1 hk (fun k _ _ e hy => ?_), hf.2⟩) id
  unfold oneB at hy; subst hy
  exact h.nt (hf.2 _ e)
theorem DkAt.ant (h : DkAt w pd tb qp r S v av T ws l al) : ∀ k, av.ownBlock = some k → k ≠ tb := fun k hk e => by
  subst e
  obtain ⟨_, h2⟩ := h.ac
  rcases h2 with ⟨rfl, _⟩ | ⟨g, c, cs, rfl, _, hb, _⟩
  · simp [Value.ownBlock] at hk
  · simp [Value.ownBlock] at hk
    subst hk
    have := h.tab
    unfold TabAt at this
    rw [hb] at this
    simp at this
end
end Go.Proofs.Ytlpimkmkcfbddaa
