/- Walks of waits: Clone, IndexFunc, DeleteFunc, Without. No condition. -/
import Derived.Test.YtlpimkmkcfbddaaWaitEd
namespace Go.Proofs.Ytlpimkmkcfbddaa
open Go.RowKit

set_option maxRecDepth 100000 in
set_option maxHeartbeats 4000000 in
theorem clone_c (l : List (Int × Int)) (hl : l.length ≤ 1000) (a : Option Addr) (cap : Nat) (w : World) (he : EdR w w.heap.size a l) :
    Calls Try.prog 87 #[.slice a l.length cap] w fun e w' => ∃ a' c', RetK noB (.slice a' l.length c') w e w' ∧ ((a' = none ∧ l = []) ∨ ∃ g, a' = some ⟨g, 0, none⟩ ∧ w.heap.size ≤ g ∧ l.length ≤ c' ∧ c' ≤ maxLen ∧ EdB w' g l) := by
  have qT : ∀ (w : World) (a : Option Addr) (n c n' c' : Nat), (binOp .eql 62 (.slice a n c) (.slice none n' c')).run Try.prog w = .ok (.bool a.isNone) w := fun w a n c n' c' => Lib.run_eql_slice_nil w _ _ a n c n' c' Try.underlying62
  cases a with
  | none =>
    have : l = [] := by
      match l, he with
      | [], _ => rfl
      | e :: t, he => obtain ⟨b, off, h, _⟩ := he 0 (by simp); cases h
    subst this
    go_enter Try.func87, Try.ntmps87
    go_wp2_with fail
    go_ret
    exact ⟨_, _, ⟨rfl, Keeps.refl _ _⟩, .inl ⟨rfl, trivial⟩⟩
  | some ad =>
    obtain ⟨i1, hi, hz0, hz1, hz2⟩ := info_parts info61
    have hown : (w.alloc (.cells #[] 61)).ownsRow w.heap.size 61 2 (.slice (some ⟨w.heap.size, 0, none⟩) 0 0) 0 [] := ⟨rfl, .inr ⟨w.heap.size, 0, #[], rfl, Nat.le_refl _, heap_alloc_new _ _, Nat.le_refl _, Nat.zero_le _, rfl, rfl⟩⟩
    have hnews := (he.keep ((Keeps.refl noB w).alloc (.cells #[] 61)) (fun b _ => noB_not b)).news
    go_enter Try.func87, Try.ntmps87
    go_wp2_with (at_builtin; refine wpList_append_own _ rfl _ _ 62 rfl w.heap.size 61 i1 (.agg #[.int .i64 0, .int .i64 0]) 2 16 Try.underlying62 hi hz0 hz1 hz2 rfl (by decide) _ _ _ rfl hown ad l.length cap (ecells l) rfl (ecells_len l) hnews (ecells_one l) ?c1 ?c2 ?c3 ?_)
    case c1 => unfold maxLen; omega
    case c2 => omega
    case c3 => rw [alloc_size]; omega
    · intro v' w1 h1 h2 h3
      have hk1 : Keeps noB w w1 := ((Keeps.refl noB w).alloc _).own hown (Nat.le_refl _) h2
      obtain ⟨g, c, rfl, hB, hlc, hcm, hE⟩ := EdB.of_row h1 h3
      clear h1 h2 h3 hown hnews he qT
      go_wp2_with fail
      go_ret
      exact ⟨_, _, ⟨rfl, hk1⟩, .inr ⟨g, rfl, hB, hlc, hcm, hE⟩⟩

theorem without1_c (u v c : Int) (bc : Nat) (w : World) (hb : w.heap[bc]? = some (.cells #[.int .i64 c] 3 (0, 0))) :
    Calls Try.prog 88 #[.agg #[.int .i64 u, .int .i64 v], .pointer (some ⟨bc, 0, none⟩)] w (RetK noB (.bool (u == c)) w) := by
  have hlt := lt_of_blk hb
  have hc := blk_cell (w := w.alloc (.cells #[.int .i64 u, .int .i64 v] 61)) (b := bc) (by rw [alloc_old _ _ _ hlt]; exact hb) (i := 0) rfl
  go_enter Try.func88, Try.ntmps88
  go_wp2_with fail
  go_ret
  exact ⟨rfl, (Keeps.refl _ _).alloc _⟩

/-- The first edge that is to go. -/
def Hit (l : List (Int × Int)) (c r : Int) : Prop := (r = -1 ∧ ∀ e, e ∈ l → e.1 ≠ c) ∨ ∃ k : Nat, r = k ∧ k < l.length ∧ (∀ e, e ∈ l.take k → e.1 ≠ c) ∧ ∀ h : k < l.length, l[k].1 = c

set_option maxRecDepth 100000 in
set_option maxHeartbeats 4000000 in
theorem indexF_c (l : List (Int × Int)) (hl : l.length ≤ 9223372036854775807) (a : Option Addr) (cap : Nat) (c : Int) (bc : Nat) (w : World) (he : EdR w w.heap.size a l) (hb : w.heap[bc]? = some (.cells #[.int .i64 c] 3 (0, 0))) :
    Calls Try.prog 105 #[.slice a l.length cap, .func (.func 88) #[] #[.pointer (some ⟨bc, 0, none⟩)]] w fun e w' => ∃ r : Int, RetK noB (.int .i64 r) w e w' ∧ Hit l c r := by
  go_enter Try.func105, Try.ntmps105
  go_wp2_with fail
  go_loopw [8] (fun i wr => ∃ k : Nat, k ≤ l.length ∧ i = .int .i64 k ∧ Keeps noB w wr ∧ ∀ e, e ∈ l.take k → e.1 ≠ c)
    (fun i _ => l.length - (intOf i).toNat)
  case atStart => exact ⟨0, by omega, rfl, Keeps.refl _ _, by simp⟩
  case round =>
    obtain ⟨k, hk, rfl, hkp, hno⟩ := hrel
    by_cases hlt : k < l.length
    · have hbr := hkp.blk hb (noB_not _)
      obtain ⟨b, off, rfl, hbB, hbs, hc0, hc1⟩ := (he.keep hkp (fun b _ => noB_not b)) k hlt
      obtain ⟨u, v, hEd⟩ : ∃ u v, l[k] = (u, v) := ⟨_, _, rfl⟩
      rw [hEd] at hc0 hc1
      simp only at hc0 hc1
      have HE := Lib.hid hEd
      clear hEd
      have hc := without1_c u v c bc wr hbr
      by_cases hu : u = c
      · have hub : (u == c) = true := by simp [hu]
        rw [hub] at hc
        have HU := Lib.hid hu
        clear hu
        go_wp2_with fail
        refine hc.mono ?_
        rintro e w1 ⟨rfl, hk1⟩
        go_wp2_with fail
        go_ret
        refine ⟨_, ⟨rfl, hkp.trans_no hk1⟩, .inr ⟨k, rfl, hlt, hno, fun h => by rw [HE.out]; exact HU.out⟩⟩
      · have hub : (u == c) = false := by simp [hu]
        rw [hub] at hc
        have HU := Lib.hid hu
        clear hu
        go_wp2_with fail
        refine hc.mono ?_
        rintro e w1 ⟨rfl, hk1⟩
        go_wp2_with fail
        go_roundw
        case rel =>
          refine ⟨k + 1, by omega, by go_num, hkp.trans_no hk1, fun e h => ?_⟩
          rcases take_one hlt h with h | h
          · exact hno e h
          · rw [h, HE.out]; exact HU.out
        case measure => simp [intOf]; omega
    · have : k = l.length := by omega
      subst this
      rw [List.take_length] at hno
      go_wp2_with fail
      go_ret
      exact ⟨_, ⟨rfl, hkp⟩, .inl ⟨rfl, hno⟩⟩

theorem setCells_blk (b : Nat) (t : TypeId) (fr : Nat × Nat) : ∀ (vs : List Value) (o : Nat) (w : World) (cs : Array Value), w.heap[b]? = some (.cells cs t fr) →
    ∃ cs', (w.setCells b o vs).heap[b]? = some (.cells cs' t fr) ∧ cs'.size = cs.size ∧ ∀ k, k < o → cs'[k]? = cs[k]?
  | [], _, _, cs, h => ⟨cs, h, rfl, fun _ _ => rfl⟩
  | v :: r, o, w, cs, h => by
    obtain ⟨cs', h1, h2, h3⟩ := setCells_blk b t fr r (o + 1) (w.setCell ⟨b, o, none⟩ v) _ (heap_setCell_same w b o v h)
    refine ⟨cs', h1, by simpa using h2, fun k hk => ?_⟩
    rw [h3 k (by omega), Array.getElem?_setIfInBounds, if_neg (by omega)]
theorem setCells_keeps (b : Nat) : ∀ (vs : List Value) (o : Nat) (w : World), Keeps (oneB b) w (w.setCells b o vs)
  | [], _, w => Keeps.refl _ w
  | v :: r, o, w => ((Keeps.refl _ w).set1 o v).trans (setCells_keeps b r (o + 1) _) (fun _ _ h => h)
theorem zeroCells2 (x y : Value) (n : Nat) : (Builtin.zeroCells #[x, y] n).toList.length = n * 2 ∧ ∀ u ∈ (Builtin.zeroCells #[x, y] n).toList, u = x ∨ u = y := by
  constructor
  · simp [Builtin.zeroCells]
  · intro u hu
    simp only [Builtin.zeroCells, Array.mem_toList_iff] at hu
    obtain ⟨i, hi, rfl⟩ := Array.mem_iff_getElem.1 hu
    simp
    rcases Nat.mod_two_eq_zero_or_one i with h | h
    · simp [h]
    · simp [h]
theorem run_clear2 {P : Program} (w : World) (t e ty : TypeId) (x y : Value) (ht : P.underlying t = some (.slice e)) (hv : ∀ w, (zeroValue e).run P w = .ok (.agg #[x, y]) w) (h1 : x.oneCell' = true) (h2 : y.oneCell' = true) (b o n c : Nat)
    {cs : Array Value} {et : TypeId} (hb : w.heap[b]? = some (.cells cs et (0, 0))) (hle : o + n * 2 ≤ cs.size) :
    ∃ vs, (Builtin.clear_ #[t] ty #[.slice (some ⟨b, o, none⟩) n c]).run P w = .ok (.tuple #[]) (w.setCells b o vs) := by
  obtain ⟨hl, hm⟩ := zeroCells2 x y n
  rcases Nat.eq_zero_or_pos n with h0 | h0
  · subst h0
    exact ⟨[], by simp [Builtin.clear_, run_underlying ht, World.setCells]⟩
  · have hst := run_storeCells_cells (P := P) b o (Builtin.zeroCells #[x, y] n).toList 0 w
      (fun j hj => by rw [cell_of_row w b _ cs et (0, 0) hb]; simp; omega)
      (fun j _ => blk_free hb _)
      (fun v hv' => by rcases hm v hv' with rfl | rfl <;> assumption)
    refine ⟨(Builtin.zeroCells #[x, y] n).toList, ?_⟩
    obtain ⟨m, rfl⟩ : ∃ m, n = m + 1 := ⟨n - 1, by omega⟩
    simp only [Nat.add_zero] at hst
    simp [Builtin.clear_, run_underlying ht, hv, Value.cells, hst]
end Go.Proofs.Ytlpimkmkcfbddaa
