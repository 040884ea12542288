/- Walks of waits: follow, Reach, Cycle, Victim. No condition. -/
import Derived.Test.YtlpimkmkcfbddaaWaitPure
import Derived.Test.YtlpimkmkcfbddaaTabMore
namespace Go.Proofs.Ytlpimkmkcfbddaa
open Go.RowKit

def inC (c : Int) : Bool := decide (0 ≤ c) && decide (c < 4)
theorem inC_nat {y : Nat} (h : y < 4) : inC (y : Int) = true := by unfold inC; simp; omega
theorem inC_open {c : Int} (h : inC c = true) : ∃ y : Nat, c = y ∧ y < 4 := by
  unfold inC at h; simp at h; exact ⟨c.toNat, by omega, by omega⟩
theorem cthere_c (c : Int) (w : World) : Calls Try.prog 83 #[.int .i64 c] w (Ret (.bool (inC c)) w) := by
  go_enter Try.func83, Try.ntmps83
  go_wp2
  all_goals go_ret
  all_goals exact ret_b (by unfold inC; grind)

/-- Edges in memory, below block B. -/
def EdR (w : World) (B : Nat) (a : Option Addr) (l : List (Int × Int)) : Prop :=
  ∀ k (h : k < l.length), ∃ b off, a = some ⟨b, off, none⟩ ∧ b < B ∧ b < w.heap.size ∧ w.cell? ⟨b, off + k * 2, none⟩ = some (.int .i64 l[k].1) ∧ w.cell? ⟨b, off + k * 2 + 1, none⟩ = some (.int .i64 l[k].2)
theorem kcell {F : Nat → Prop} {w w1 : World} (h : Keeps F w w1) (a : Addr) (hlt : a.block < w.heap.size) (hF : ¬ F a.block) : w1.cell? a = w.cell? a := by
  unfold World.cell?
  rw [h.block a.block hlt hF]
theorem EdR.keep {w w1 : World} {B : Nat} {a : Option Addr} {l : List (Int × Int)} {F : Nat → Prop} (h : EdR w B a l) (hk : Keeps F w w1) (hF : ∀ b, b < B → ¬ F b) : EdR w1 B a l := by
  intro k hkl
  obtain ⟨b, off, ha, hb, hs, h1, h2⟩ := h k hkl
  exact ⟨b, off, ha, hb, Nat.lt_of_lt_of_le hs hk.size, (kcell hk _ hs (hF b hb)).trans h1, (kcell hk _ hs (hF b hb)).trans h2⟩

def wscells (s : Nat → Bool) : Array Value := #[.bool (s 0), .bool (s 1), .bool (s 2), .bool (s 3)]
theorem wscells_at (s : Nat → Bool) {y : Nat} (h : y < 4) : (wscells s)[y]? = some (.bool (s y)) := by
  match y, h with
  | 0, _ => rfl
  | 1, _ => rfl
  | 2, _ => rfl
  | 3, _ => rfl
theorem wscells_set (s : Nat → Bool) {y : Nat} (h : y < 4) : (wscells s).setIfInBounds y (.bool true) = wscells (upd s y) := by
  match y, h with
  | 0, _ => rfl
  | 1, _ => rfl
  | 2, _ => rfl
  | 3, _ => rfl
def SeenAt (w : World) (b : Nat) (s : Nat → Bool) : Prop := w.heap[b]? = some (.cells (wscells s) 129 (0, 0))

set_option maxRecDepth 100000 in
set_option maxHeartbeats 4000000 in
theorem follow_c (l : List (Int × Int)) (hl : l.length ≤ 9223372036854775807) (a : Option Addr) (cap B bs : Nat) (hB : B ≤ bs) : ∀ (m : Nat) (s : Nat → Bool) (w : World) (x : Int), miss s ≤ m → SeenAt w bs s → EdR w B a l →
    Calls Try.prog 84 #[.pointer (some ⟨bs, 0, none⟩), .slice a l.length cap, .int .i64 x] w fun e w' => RetK (oneB bs) (.tuple #[]) w e w' ∧ ∃ s', SeenAt w' bs s' ∧ Seen l s x s' l.length := by
  intro m
  induction m using Nat.strongRecOn with
  | _ m ih =>
    intro s w x hm hs he
    go_enter Try.func84, Try.ntmps84
    go_wp2_with fail
    go_loopw [10] (fun i wr => ∃ k : Nat, k ≤ l.length ∧ i = .int .i64 k ∧ Keeps (oneB bs) w wr ∧ ∃ s', SeenAt wr bs s' ∧ Seen l s x s' k)
      (fun i _ => l.length - (intOf i).toNat)
    case atStart => exact ⟨0, by omega, rfl, Keeps.refl _ _, s, hs, Seen.start l s x⟩
    case round =>
      obtain ⟨k, hk, rfl, hkp, s', hs', hS⟩ := hrel
      by_cases hlt : k < l.length
      · have her := he.keep hkp (fun b hb h => by unfold oneB at h; omega)
        have her2 := Lib.hid her
        obtain ⟨b, off, rfl, hbB, hb, hc0, hc1⟩ := her k hlt
        have hlk := lt_of_blk hs'
        clear her
        obtain ⟨u, v, hEd⟩ : ∃ u v, l[k] = (u, v) := ⟨_, _, rfl⟩
        rw [hEd] at hc0 hc1
        simp only at hc0 hc1
        have HE := Lib.hid hEd
        clear hEd
        by_cases hux : u = x
        · subst hux
          have hb1 : (u == u) = true := by simp
          cases hin : inC v
          · go_wp2_with fail
            go_quiet ((go_at_call 83; exact quiet_ret (cthere_c _ _)))
            go_wp2_with fail
            go_roundw
            case rel =>
              refine ⟨k + 1, by omega, by go_num, (hkp.alloc _).drewN _, s', by show ((wr.alloc _).heap[bs]? = _); rw [alloc_old _ _ _ hlk]; exact hs', hS.skip hlt (fun z hz he => ?_)⟩
              rw [HE.out] at he
              simp at he
              rw [he, inC_nat hz] at hin
              cases hin
            case measure => simp [intOf]; omega
          · obtain ⟨y, rfl, hy⟩ := inC_open hin
            have hA : SeenAt (wr.alloc (.cells #[.int .i64 u, .int .i64 (y : Int)] 61)) bs s' := by unfold SeenAt; rw [alloc_old _ _ _ hlk]; exact hs'
            have hcs := blk_cell hA (wscells_at s' hy)
            have hfr := blk_free hA y
            cases hsy : s' y
            · rw [hsy] at hcs
              go_wp2_with fail
              go_quiet ((go_at_call 83; exact quiet_ret (cthere_c _ _)))
              go_wp2_with fail
              go_region
              all_goals go_wp2_with fail
              have hm1 := miss_upd hy hsy
              have hm2 := miss_le hS.old
              have hkE : Keeps (oneB bs) wr (((wr.alloc (.cells #[.int .i64 u, .int .i64 (y : Int)] 61)).drewN (nq + 1)).setCell ⟨bs, y, none⟩ (.bool true)) := (((Keeps.refl _ wr).alloc _).drewN _).set1 _ _
              refine (ih (m - 1) (by omega) (upd s' y) _ (y : Int) (by omega) ?_ (her2.out.keep hkE (fun b hb h => by unfold oneB at h; omega))).mono ?_
              · unfold SeenAt
                rw [← wscells_set s' hy]
                exact heap_setCell_same _ bs y _ hA
              · rintro e w2 ⟨⟨rfl, hk2⟩, s2, hs2, hS2⟩
                have hkp2 : Keeps (oneB bs) w w2 := (hkp.trans hkE (fun _ _ h => h)).trans hk2 (fun _ _ h => h)
                go_wp2_with fail
                go_roundw
                case rel => exact ⟨k + 1, by omega, by go_num, hkp2, s2, hs2, hS.step hlt HE.out hy hsy hS2⟩
                case measure => simp [intOf]; omega
            · rw [hsy] at hcs
              go_wp2_with fail
              go_quiet ((go_at_call 83; exact quiet_ret (cthere_c _ _)))
              go_wp2_with fail
              go_roundw
              case rel =>
                refine ⟨k + 1, by omega, by go_num, (hkp.alloc _).drewN _, s', hA, hS.skip hlt (fun z hz he => ?_)⟩
                rw [HE.out] at he
                simp at he
                have : z = y := by omega
                subst this
                exact hsy
              case measure => simp [intOf]; omega
        · have hb1 : (u == x) = false := by simp; exact hux
          go_wp2_with fail
          go_quiet ((go_at_call 83; exact quiet_ret (cthere_c _ _)))
          go_wp2_with fail
          go_roundw
          case rel =>
            refine ⟨k + 1, by omega, by go_num, (hkp.alloc _).drewN _, s', by show ((wr.alloc _).heap[bs]? = _); rw [alloc_old _ _ _ hlk]; exact hs', hS.skip hlt (fun z hz he => ?_)⟩
            rw [HE.out] at he
            simp at he
            exact absurd he.1 hux
          case measure => simp [intOf]; omega
      · have : k = l.length := by omega
        subst this
        go_wp2_with fail
        go_end0
        exact ⟨⟨rfl, hkp⟩, s', hs', hS⟩

theorem index129 (s : Nat → Bool) (k : Nat) (h : k < 4) (w : World) : (Instr.index 129 (.agg #[.bool (s 0), .bool (s 1), .bool (s 2), .bool (s 3)]) (.int .i64 k)).run Try.prog w = .ok (.bool (s k)) w := by
  have hz : Try.t4.size = 1 := rfl
  match k, h with
  | 0, _ => simp [Instr.index, Sem.run_bind, asIntOf, run_underlying Try.underlying129, part, isAgg, run_underlying Try.underlying4, sizeOf, go_sem, hz]
  | 1, _ => simp [Instr.index, Sem.run_bind, asIntOf, run_underlying Try.underlying129, part, isAgg, run_underlying Try.underlying4, sizeOf, go_sem, hz]
  | 2, _ => simp [Instr.index, Sem.run_bind, asIntOf, run_underlying Try.underlying129, part, isAgg, run_underlying Try.underlying4, sizeOf, go_sem, hz]
  | 3, _ => simp [Instr.index, Sem.run_bind, asIntOf, run_underlying Try.underlying129, part, isAgg, run_underlying Try.underlying4, sizeOf, go_sem, hz]

set_option maxRecDepth 100000 in
set_option maxHeartbeats 4000000 in
theorem reach_c (l : List (Int × Int)) (hl : l.length ≤ 9223372036854775807) (a : Option Addr) (cap : Nat) (x : Int) (w : World) (he : EdR w w.heap.size a l) :
    Calls Try.prog 41 #[.slice a l.length cap, .int .i64 x] w fun e w' => ∃ v, RetK noB v w e w' ∧ OwnI w' w.heap.size v (reachL l x) := by
  cases hin : inC x
  · have hr : reachL l x = [] := reachL_out (by unfold inC at hin; simp at hin; omega)
    rw [hr]
    go_enter Try.func41, Try.ntmps41
    go_wp2_with (go_at_call 83; refine (cthere_c _ _).mono ?_; rintro e w' ⟨rfl, rfl⟩; rw [hin])
    go_ret
    exact ⟨_, ⟨rfl, Keeps.refl _ _⟩, World.ownsRow_nil _ _ _ _⟩
  · obtain ⟨y, rfl, hy⟩ := inC_open hin
    have hr : reachL l (y : Int) = rchN l y 4 := by unfold reachL; rw [if_pos (by simp; omega)]
    rw [hr]
    obtain ⟨i0, hi, hz0, hz1, hz2⟩ := info_parts info3
    have hsA : SeenAt (w.alloc (.cells (wscells fun _ => false) 129)) w.heap.size (fun _ => false) := heap_alloc_new _ _
    have hf := follow_c l hl a cap w.heap.size w.heap.size (Nat.le_refl _) 4 (fun _ => false) (w.alloc (.cells (wscells fun _ => false) 129)) y (by decide) hsA (he.keep ((Keeps.refl noB w).alloc _) (fun b _ => noB_not b))
    unfold wscells at hf
    go_enter Try.func41, Try.ntmps41
    go_wp2_with (first | (go_at_call 83; refine (cthere_c _ _).mono ?_; rintro e w' ⟨rfl, rfl⟩; rw [hin]) | (go_at_call 84; refine hf.mono ?_; rintro e w1 ⟨⟨rfl, hk1⟩, s, hs, hS⟩; have c0 := blk_cell hs (wscells_at s (y := 0) (by omega)); have c1 := blk_cell hs (wscells_at s (y := 1) (by omega)); have c2 := blk_cell hs (wscells_at s (y := 2) (by omega)); have c3 := blk_cell hs (wscells_at s (y := 3) (by omega))))
    have hkw : Keeps noB w w1 := ((Keeps.refl noB w).alloc _).trans hk1 (fun b hb h => by unfold oneB at h; omega)
    clear hf c0 c1 c2 c3
    go_loopw [6, 16] (fun v i wr => ∃ k : Nat, k ≤ 4 ∧ i = .int .i64 k ∧ Keeps noB w wr ∧ OwnI wr w.heap.size v (rchN l y k))
      (fun _ i _ => 4 - (intOf i).toNat)
    case atStart => exact ⟨0, by omega, rfl, hkw, World.ownsRow_nil _ _ _ _⟩
    case round =>
      obtain ⟨k, hk, rfl, hkp, hown⟩ := hrel
      have hsz := hkp.size
      by_cases hk4 : k < 4
      · have hix := index129 s k hk4
        have hle := rchN_le l y k
        have hiff := hS.iff k hk4
        cases hsk : s k
        · have hh : rchN l y (k + 1) = rchN l y k := by
            have : rchB l y k = false := by
              cases e : rchB l y k
              · rfl
              · rw [hiff.2 ((rchB_iff _ _ _).1 e)] at hsk; cases hsk
            rw [rchN, this, if_neg (by simp)]
          have HH := Lib.hid hh
          rw [hsk] at hix
          clear hh
          go_wp2_with fail
          go_roundw
          case rel => exact ⟨k + 1, by omega, by go_num, hkp, by rw [HH.out]; exact hown⟩
          case measure => simp [intOf]; omega
        · have hh : rchN l y (k + 1) = rchN l y k ++ [(k : Int)] := by
            rw [rchN, (rchB_iff _ _ _).2 (hiff.1 hsk), if_pos rfl]
          have HH := Lib.hid hh
          rw [hsk] at hix
          clear hh
          go_wp2_with (at_builtin; refine wpList_append1 rfl _ _ 34 rfl w.heap.size 3 i0 (.int .i64 0) 1 8 Try.underlying34 hi hz0 hz1 hz2 rfl (by decide) _ _ _ rfl (hown.alloc _) wr.heap.size 1 [.int .i64 k] 3 (0, 0) rfl (heap_alloc_new _ _) rfl rfl ?c3 ?c4 ?c5 ?_)
          case c3 => omega
          case c4 => omega
          case c5 => rw [alloc_size]; omega
          · intro v' w2 hown' hgrow
            have hk2 : Keeps noB w w2 := (hkp.alloc _).own (hown.alloc _) (Nat.le_refl _) hgrow
            clear hgrow
            go_wp2_with fail
            go_roundw
            case rel => exact ⟨k + 1, by omega, by go_num, hk2, by unfold OwnI; rw [HH.out]; simpa using hown'⟩
            case measure => simp [intOf]; omega
      · have : k = 4 := by omega
        subst this
        go_wp2_with fail
        go_ret
        exact ⟨_, ⟨rfl, hkp⟩, hown⟩
end Go.Proofs.Ytlpimkmkcfbddaa
