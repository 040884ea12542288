/- Bytes in memory. No condition. -/
import Derived.Test.YtoeikgaikdbpbaaBase
import Derived.Lib.SliceRun
import Derived.Laws.AppendOwnNone
namespace Go.Proofs.Ytoeikgaikdbpbaa
open Go.RowKit

theorem kcell {F : Nat → Prop} {w w1 : World} (h : Keeps F w w1) (a : Addr) (hlt : a.block < w.heap.size) (hF : ¬ F a.block) : w1.cell? a = w.cell? a := by
  unfold World.cell?
  rw [h.block a.block hlt hF]

/-- Bytes that read as l, in blocks of D. -/
def ByR (w : World) (D : Nat → Prop) (a : Option Addr) (l : List Int) : Prop :=
  ∀ k (h : k < l.length), ∃ b off, a = some ⟨b, off, none⟩ ∧ D b ∧ b < w.heap.size ∧ w.cell? ⟨b, off + k, none⟩ = some (.int .u8 l[k])
theorem ByR.keep {w w1 : World} {D : Nat → Prop} {a : Option Addr} {l : List Int} {F : Nat → Prop} (h : ByR w D a l) (hk : Keeps F w w1) (hF : ∀ b, D b → ¬ F b) : ByR w1 D a l := by
  intro k hkl
  obtain ⟨b, off, ha, hb, hs, h1⟩ := h k hkl
  exact ⟨b, off, ha, hb, Nat.lt_of_lt_of_le hs hk.size, (kcell hk _ hs (hF b hb)).trans h1⟩
theorem ByR.mono {w : World} {D E : Nat → Prop} {a : Option Addr} {l : List Int} (h : ByR w D a l) (hE : ∀ b, b < w.heap.size → D b → E b) : ByR w E a l := by
  intro k hkl
  obtain ⟨b, off, ha, hb, hs, h1⟩ := h k hkl
  exact ⟨b, off, ha, hE b hs hb, hs, h1⟩
theorem ByR.nil {w : World} {D : Nat → Prop} {l : List Int} (h : ByR w D none l) : l = [] := by
  match l, h with
  | [], _ => rfl
  | e :: t, h => obtain ⟨b, off, h, _⟩ := h 0 (by simp); cases h
def bcells (l : List Int) : List Value := l.map (Value.int .u8)
theorem bcells_len (l : List Int) : (bcells l).length = l.length * 1 := by simp [bcells]
theorem bcells_one (l : List Int) : ∀ u ∈ bcells l, u.oneCell' = true := by
  intro u hu
  obtain ⟨x, _, rfl⟩ := List.mem_map.1 hu
  rfl
theorem ByR.news {w : World} {D : Nat → Prop} {ad : Addr} {l : List Int} (h : ByR w D (some ad) l) : ∀ j u, (bcells l)[j]? = some u → w.cell? (ad.add j) = some u := by
  intro j u hj
  have hjl : j < l.length := by have := (List.getElem?_eq_some_iff.1 hj).1; simpa [bcells] using this
  obtain ⟨b, off, ha, _, _, h1⟩ := h j hjl
  simp at ha
  subst ha
  have hadd : (⟨b, off, none⟩ : Addr).add j = ⟨b, off + j, none⟩ := by unfold Addr.add; split <;> simp_all
  rw [hadd, h1]
  unfold bcells at hj
  rw [List.getElem?_map, List.getElem?_eq_getElem hjl] at hj
  exact hj

/-- A block of bytes of one's own (or nil). -/
def ByO (w : World) (B : Nat) (a : Option Addr) (c : Nat) (l : List Int) : Prop :=
  (a = none ∧ l = [] ∧ c = 0) ∨ ∃ g cs, a = some ⟨g, 0, none⟩ ∧ B ≤ g ∧ w.heap[g]? = some (.cells cs 5 (0, 0)) ∧ cs.size = c ∧ l.length ≤ c ∧ c ≤ maxLen ∧ ∀ k (h : k < l.length), cs[k]? = some (.int .u8 l[k])
theorem ByO.byr {w : World} {B c : Nat} {a : Option Addr} {l : List Int} (h : ByO w B a c l) : ByR w (fun x => B ≤ x) a l := by
  intro k hk
  rcases h with ⟨_, rfl, _⟩ | ⟨g, cs, rfl, hB, hb, _, _, _, hc⟩
  · simp at hk
  · exact ⟨g, 0, rfl, hB, lt_of_blk hb, by rw [Nat.zero_add]; exact blk_cell hb (hc k hk)⟩
theorem ByO.keep {w w1 : World} {B c : Nat} {a : Option Addr} {l : List Int} {F : Nat → Prop} (h : ByO w B a c l) (hk : Keeps F w w1) (hF : ∀ b, B ≤ b → b < w.heap.size → ¬ F b) : ByO w1 B a c l := by
  rcases h with h | ⟨g, cs, rfl, hB, hb, h⟩
  · exact .inl h
  · exact .inr ⟨g, cs, rfl, hB, hk.blk hb (hF g hB (lt_of_blk hb)), h⟩
theorem ByO.of_own {w : World} {B : Nat} {v : Value} {l : List Int} (h : w.ownsRow B 5 1 v l.length (bcells l)) : ∃ a c, v = .slice a l.length c ∧ ByO w B a c l := by
  obtain ⟨_, h⟩ := h
  rcases h with ⟨rfl, h0⟩ | ⟨g, cap, cur, rfl, hb, hg, hn, hm, hs, ht⟩
  · exact ⟨none, 0, by rw [h0], .inl ⟨rfl, List.length_eq_zero_iff.1 h0, rfl⟩⟩
  · refine ⟨_, cap, rfl, .inr ⟨g, cur, rfl, hb, hg, by omega, hn, hm, fun k hk => ?_⟩⟩
    have h1 : (cur.toList.take (l.length * 1))[k]? = (bcells l)[k]? := by rw [ht]
    rw [List.getElem?_take, if_pos (by omega), Array.getElem?_toList] at h1
    rw [h1]
    unfold bcells
    rw [List.getElem?_map, List.getElem?_eq_getElem hk]
    rfl
theorem own_bytes0 (w : World) : (w.alloc (.cells #[] 5)).ownsRow w.heap.size 5 1 (.slice (some ⟨w.heap.size, 0, none⟩) 0 0) 0 [] :=
  ⟨rfl, .inr ⟨w.heap.size, 0, #[], rfl, Nat.le_refl _, heap_alloc_new _ _, Nat.le_refl _, Nat.zero_le _, rfl, rfl⟩⟩

theorem info5 : (Try.prog.info? 5).map (fun i => (i.zero, i.size, i.bytes)) = some (some (.int .u8 0), 1, 1) := by kernel_rfl

set_option maxRecDepth 100000 in
set_option maxHeartbeats 4000000 in
theorem clone_c (l : List Int) (hl : l.length ≤ 1000000) (D : Nat → Prop) (a : Option Addr) (cap : Nat) (w : World) (he : ByR w D a l) :
    Calls Try.prog 21 #[.slice a l.length cap] w fun e w' => ∃ a' c', RetK noB (.slice a' l.length c') w e w' ∧ ByO w' w.heap.size a' c' l := by
  have qT : ∀ (w : World) (a : Option Addr) (n c n' c' : Nat), (binOp .eql 22 (.slice a n c) (.slice none n' c')).run Try.prog w = .ok (.bool a.isNone) w := fun w a n c n' c' => Lib.run_eql_slice_nil w _ _ a n c n' c' Try.underlying22
  cases a with
  | none =>
    have := he.nil
    subst this
    go_enter Try.func21, Try.ntmps21
    go_wp2_with fail
    go_ret
    exact ⟨_, _, ⟨rfl, Keeps.refl _ _⟩, .inl ⟨rfl, rfl, rfl⟩⟩
  | some ad =>
    obtain ⟨i1, hi, hz0, hz1, hz2⟩ := info_parts info5
    have hown := own_bytes0 w
    have hnews := (he.keep ((Keeps.refl noB w).alloc (.cells #[] 5)) (fun b _ => noB_not b)).news
    go_enter Try.func21, Try.ntmps21
    go_wp2_with (at_builtin; refine wpList_append_own _ rfl _ _ 22 rfl w.heap.size 5 i1 (.int .u8 0) 1 1 Try.underlying22 hi hz0 hz1 hz2 rfl (by decide) _ _ _ rfl hown ad l.length cap (bcells l) rfl (bcells_len l) hnews (bcells_one l) ?c1 ?c2 ?c3 ?_)
    case c1 => unfold maxLen; omega
    case c2 => omega
    case c3 => rw [alloc_size]; omega
    · intro v' w1 h1 h2 h3
      have hk1 : Keeps noB w w1 := ((Keeps.refl noB w).alloc _).own hown (Nat.le_refl _) h2
      obtain ⟨g, c, rfl, hE⟩ := ByO.of_own (l := l) (by simpa using h1)
      clear h1 h2 h3 hown hnews he qT
      go_wp2_with fail
      go_ret
      exact ⟨_, _, ⟨rfl, hk1⟩, hE⟩
end Go.Proofs.Ytoeikgaikdbpbaa
