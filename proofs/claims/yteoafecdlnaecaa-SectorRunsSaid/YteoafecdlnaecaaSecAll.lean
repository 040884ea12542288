/- The bytes of all sectors, and whether two such are the same. No condition. -/
import Derived.Test.YteoafecdlnaecaaSecDrv
namespace Go.Proofs.Yteoafecdlnaecaa
open Go.RowKit

/-- A slice of slices of bytes, all in blocks of their own. -/
def RowB (w : World) (B : Nat) (v : Value) (n : Nat) (T : Nat → List Int) : Prop :=
  ∃ xs : List Value, w.ownsRow B 22 1 v n xs ∧ xs.length = n ∧ ∀ i, i < n → ∃ a c, xs[i]? = some (.slice a (T i).length c) ∧ ByO w B a c (T i)
/-- A slice of slices of bytes that may be read. -/
def RowR (w : World) (D : Nat → Prop) (v : Value) (n : Nat) (T : Nat → List Int) : Prop :=
  ∃ a c, v = .slice a n c ∧ ∀ i, i < n → ∃ g off, a = some ⟨g, off, none⟩ ∧ g < w.heap.size ∧ D g ∧ ∃ a' c', w.cell? ⟨g, off + i, none⟩ = some (.slice a' (T i).length c') ∧ (T i).length ≤ maxLen ∧ ByR w D a' (T i)
theorem ByO.le {w : World} {B c : Nat} {a : Option Addr} {l : List Int} (h : ByO w B a c l) : l.length ≤ maxLen := by
  rcases h with ⟨_, rfl, _⟩ | ⟨g, cs, rfl, hB, hb, _, h1, h2, _⟩
  · exact Nat.zero_le _
  · omega
theorem ByO.lower {w : World} {B B' c : Nat} {a : Option Addr} {l : List Int} (h : ByO w B a c l) (hB : B' ≤ B) : ByO w B' a c l := by
  rcases h with h | ⟨g, cs, rfl, hb, h⟩
  · exact .inl h
  · exact .inr ⟨g, cs, rfl, by omega, h⟩
theorem RowB.row {w : World} {B n : Nat} {v : Value} {T : Nat → List Int} (h : RowB w B v n T) : RowR w (fromB B) v n T := by
  obtain ⟨xs, ⟨hl, ho⟩, hn, hx⟩ := h
  rcases ho with ⟨rfl, h0⟩ | ⟨g, cap, cur, rfl, hb, hg, _, _, _, ht⟩
  · exact ⟨none, 0, by rw [h0], fun i hi => by omega⟩
  · refine ⟨_, cap, rfl, fun i hi => ?_⟩
    obtain ⟨a, c, h1, h2⟩ := hx i hi
    refine ⟨g, 0, rfl, lt_of_blk hg, hb, a, c, ?_, h2.le, h2.byr⟩
    rw [Nat.zero_add]
    refine blk_cell hg ?_
    have h3 : (cur.toList.take (n * 1))[i]? = xs[i]? := by rw [ht]
    rw [List.getElem?_take, if_pos (by omega), Array.getElem?_toList] at h3
    rw [h3, h1]
theorem RowR.slice {w : World} {D : Nat → Prop} {v : Value} {n : Nat} {T : Nat → List Int} (h : RowR w D v n T) : ∃ a c, v = .slice a n c := by
  obtain ⟨a, c, h, _⟩ := h
  exact ⟨a, c, h⟩
theorem RowR.at_ {w : World} {D : Nat → Prop} {a : Option Addr} {n c : Nat} {T : Nat → List Int} (h : RowR w D (.slice a n c) n T) {i : Nat} (hi : i < n) :
    ∃ g off, a = some ⟨g, off, none⟩ ∧ ∃ a' c', w.cell? ⟨g, off + i, none⟩ = some (.slice a' (T i).length c') ∧ ByR w D a' (T i) := by
  obtain ⟨a1, c1, e, h⟩ := h
  simp at e
  obtain ⟨rfl, rfl⟩ := e
  obtain ⟨g, off, ha, _, _, a', c', h1, _, h3⟩ := h i hi
  exact ⟨g, off, ha, a', c', h1, h3⟩
theorem RowR.keep {w w1 : World} {D : Nat → Prop} {v : Value} {n : Nat} {T : Nat → List Int} {F : Nat → Prop} (h : RowR w D v n T) (hk : Keeps F w w1) (hF : ∀ b, b < w.heap.size → D b → ¬ F b) : RowR w1 D v n T := by
  obtain ⟨a, c, rfl, h⟩ := h
  refine ⟨a, c, rfl, fun i hi => ?_⟩
  obtain ⟨g, off, ha, hg, hD, a', c', h1, h2, h3⟩ := h i hi
  refine ⟨g, off, ha, Nat.lt_of_lt_of_le hg hk.size, hD, a', c', (kcell hk _ hg (hF g hg hD)).trans h1, h2, ?_⟩
  intro k hkl
  obtain ⟨b, o, e1, e2, e3, e4⟩ := h3 k hkl
  exact ⟨b, o, e1, e2, Nat.lt_of_lt_of_le e3 hk.size, (kcell hk _ e3 (hF b e3 e2)).trans e4⟩
theorem ByO.grown {w w1 : World} {B c : Nat} {a : Option Addr} {l : List Int} (h : ByO w B a c l) {v : Value} {n : Nat} {xs : List Value} {B' : Nat} (ho : w.ownsRow B' 22 1 v n xs) (hg : w.grownBy w1 v.ownBlock) : ByO w1 B a c l := by
  rcases h with h | ⟨g, cs, rfl, hB, hb, h⟩
  · exact .inl h
  · refine .inr ⟨g, cs, rfl, hB, (hg.block g (lt_of_blk hb) ?_).trans hb, h⟩
    intro e
    obtain ⟨_, ho⟩ := ho
    rcases ho with ⟨rfl, _⟩ | ⟨g', cap, cur, rfl, _, hg', _⟩
    · simp [Value.ownBlock] at e
    · simp [Value.ownBlock] at e
      subst e
      rw [hb] at hg'
      simp at hg'
theorem RowB.alloc {w : World} {B n : Nat} {v : Value} {T : Nat → List Int} (h : RowB w B v n T) (o : Obj) : RowB (w.alloc o) B v n T := by
  obtain ⟨xs, ho, hn, hx⟩ := h
  refine ⟨xs, ho.alloc _, hn, fun i hi => ?_⟩
  obtain ⟨a, c, h1, h2⟩ := hx i hi
  exact ⟨a, c, h1, h2.keep ((Keeps.refl noB w).alloc o) (fun b _ _ => noB_not b)⟩
theorem RowB.no {w w1 : World} {B n : Nat} {v : Value} {T : Nat → List Int} (h : RowB w B v n T) (hk : Keeps noB w w1) : RowB w1 B v n T := by
  obtain ⟨xs, ho, hn, hx⟩ := h
  refine ⟨xs, own_keep_no ho hk, hn, fun i hi => ?_⟩
  obtain ⟨a, c, h1, h2⟩ := hx i hi
  exact ⟨a, c, h1, h2.keep hk (fun b _ _ => noB_not b)⟩
theorem RowB.slice {w : World} {B n : Nat} {v : Value} {T : Nat → List Int} (h : RowB w B v n T) : ∃ a c, v = .slice a n c := by
  obtain ⟨a, c, h, _⟩ := h.row
  exact ⟨a, c, h⟩
theorem RowB.push {w w1 : World} {B n : Nat} {v v' : Value} {T : Nat → List Int} {xs : List Value} (ho : w.ownsRow B 22 1 v n xs) (hn : xs.length = n) (hx : ∀ i, i < n → ∃ a c, xs[i]? = some (.slice a (T i).length c) ∧ ByO w B a c (T i))
    {a : Option Addr} {c : Nat} (hO : ByO w B a c (T n)) (h' : w1.ownsRow B 22 1 v' (n + 1) (xs ++ [.slice a (T n).length c])) (hg : w.grownBy w1 v.ownBlock) : RowB w1 B v' (n + 1) T := by
  refine ⟨_, h', by simp [hn], fun i hi => ?_⟩
  by_cases e : i < n
  · obtain ⟨a1, c1, h1, h2⟩ := hx i e
    exact ⟨a1, c1, by rw [List.getElem?_append_left (by omega)]; exact h1, h2.grown ho hg⟩
  · have : i = n := by omega
    subst this
    exact ⟨a, c, by rw [List.getElem?_append_right (by omega)]; simp [hn], hO.grown ho hg⟩
theorem info22 : (Try.prog.info? 22).map (fun i => (i.zero, i.size, i.bytes)) = some (some (.slice none 0 0), 1, 24) := by kernel_rfl
theorem own_rows0 (w : World) : (w.alloc (.cells #[] 22)).ownsRow w.heap.size 22 1 (.slice (some ⟨w.heap.size, 0, none⟩) 0 0) 0 [] :=
  ⟨rfl, .inr ⟨w.heap.size, 0, #[], rfl, Nat.le_refl _, heap_alloc_new _ _, Nat.le_refl _, Nat.zero_le _, rfl, rfl⟩⟩

set_option maxRecDepth 100000 in
set_option maxHeartbeats 4000000 in
theorem all_s {w : World} {S : Nat → Prop} {b g n : Nat} {now st : Nat → List Int} {lo : Nat → Bool} (h : DrvS w S b g n now st lo) (hn : n ≤ 6) :
    Calls Try.prog 22 #[.pointer (some ⟨b, 0, none⟩)] w fun e w' => ∃ v, RetK noB v w e w' ∧ RowB w' w.heap.size v n now := by
  obtain ⟨i0, hi, hz0, hz1, hz2⟩ := info_parts info22
  go_enter Try.func22, Try.ntmps22
  go_wp2_with fail
  go_loopw [3, 4] (fun v i wr => ∃ k : Nat, k ≤ n ∧ i = .int .i64 k ∧ Keeps noB w wr ∧ RowB wr w.heap.size v k now)
    (fun _ i _ => n - (intOf i).toNat)
  case atStart => exact ⟨0, by omega, rfl, (Keeps.refl _ _).alloc _, [], own_rows0 w, rfl, fun i h => by omega⟩
  case round =>
    obtain ⟨k, hk, rfl, hkp, hrow⟩ := hrel
    have hsz := hkp.size
    have hd := h.no hkp
    have HH := Lib.hid h
    clear h
    obtain ⟨a0, c0, rfl⟩ := hrow.slice
    go_wp2_with fail
    refine (len_s hd).mono ?_
    rintro e w1 ⟨rfl, rfl⟩
    by_cases hlt : k < n
    · have hr := read_s hd k
      rw [inD_true hlt] at hr
      simp only [if_true, Int.toNat_natCast] at hr
      go_wp2_with fail
      refine hr.mono ?_
      rintro e w1 ⟨a1, c1, ⟨rfl, hk1⟩, hO1⟩
      clear hr
      obtain ⟨xs, ho, hn', hx⟩ := hrow.no hk1
      go_wp2_with (at_builtin; refine wpList_append1 rfl _ _ 38 rfl w.heap.size 22 i0 (.slice none 0 0) 1 24 Try.underlying38 hi hz0 hz1 hz2 rfl (by decide) _ _ _ rfl (ho.alloc _) w1.heap.size 1 [.slice a1 (now k).length c1] 22 (0, 0) rfl (heap_alloc_new _ _) rfl rfl ?d3 ?d4 ?d5 ?_)
      case d3 => omega
      case d4 => omega
      case d5 => rw [alloc_size]; have := hk1.size; omega
      · intro v' w2 hown' hgrow
        have hk2 : Keeps noB w w2 := ((hkp.trans_no hk1).alloc _).own (ho.alloc _) (Nat.le_refl _) hgrow
        have hrow2 := RowB.push (T := now) (ho.alloc _) hn' (fun i hi => by
          obtain ⟨a2, c2, h1, h2⟩ := hx i hi
          exact ⟨a2, c2, h1, h2.keep ((Keeps.refl noB w1).alloc _) (fun b _ _ => noB_not b)⟩) ((hO1.keep ((Keeps.refl noB w1).alloc _) (fun b _ _ => noB_not b)).lower hsz) hown' hgrow
        clear hown' hgrow ho hx
        go_wp2_with fail
        go_roundw
        case rel => exact ⟨k + 1, by omega, by go_num, hk2, hrow2⟩
        case measure => simp [intOf]; omega
    · have : k = n := by omega
      subst this
      go_wp2_with fail
      go_ret
      exact ⟨_, ⟨rfl, hkp⟩, hrow⟩
set_option maxRecDepth 100000 in
set_option maxHeartbeats 4000000 in
theorem same_true {w : World} {D E : Nat → Prop} {va vb : Value} {n : Nat} {S T : Nat → List Int} (ha : RowR w D va n S) (hb : RowR w E vb n T) (he : ∀ i, i < n → S i = T i) (hn : n ≤ 1000000) :
    Calls Try.prog 21 #[va, vb] w (RetK noB (.bool true) w) := by
  obtain ⟨a, c, rfl⟩ := ha.slice
  obtain ⟨b, d, rfl⟩ := hb.slice
  have HA := Lib.hid ha
  have HB := Lib.hid hb
  have HE := Lib.hid he
  clear ha hb he
  go_enter Try.func21, Try.ntmps21
  go_wp2_with fail
  go_loopw [13] (fun i wr => ∃ k : Nat, k ≤ n ∧ i = .int .i64 k ∧ Keeps noB w wr)
    (fun i _ => n - (intOf i).toNat)
  case atStart => exact ⟨0, by omega, rfl, Keeps.refl _ _⟩
  case round =>
    obtain ⟨k, hk, rfl, hkp⟩ := hrel
    by_cases hlt : k < n
    · obtain ⟨g1, o1, rfl, a1, c1, hc1, hr1⟩ := (HA.out.keep hkp (fun b _ _ => noB_not b)).at_ hlt
      obtain ⟨g2, o2, rfl, a2, c2, hc2, hr2⟩ := (HB.out.keep hkp (fun b _ _ => noB_not b)).at_ hlt
      rw [← HE.out k hlt] at hc2 hr2
      have s1 : ∀ m, (convert 22 9 (.slice a1 (S k).length c1)).run Try.prog (wr.drewN m) = .ok (.string (strOf (S k))) (wr.drewN m) := fun m => conv_c (hr1.keep ((Keeps.refl noB wr).drewN m) (fun b _ => noB_not b)) c1
      have s2 : ∀ m, (convert 22 9 (.slice a2 (S k).length c2)).run Try.prog (wr.drewN m) = .ok (.string (strOf (S k))) (wr.drewN m) := fun m => conv_c (hr2.keep ((Keeps.refl noB wr).drewN m) (fun b _ => noB_not b)) c2
      go_wp2_with fail
      go_quiet (fail)
      go_wp2_with fail
      go_roundw
      case rel => exact ⟨k + 1, by omega, by go_num, hkp.drewN _⟩
      case measure => simp [intOf]; omega
    · have : k = n := by omega
      subst this
      go_wp2_with fail
      go_ret
      exact ⟨rfl, hkp⟩
end Go.Proofs.Yteoafecdlnaecaa
