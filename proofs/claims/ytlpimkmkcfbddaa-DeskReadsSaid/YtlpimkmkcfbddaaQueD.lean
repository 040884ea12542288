/- The queue: cross, Ahead, Reserved. No condition. -/
import Derived.Test.YtlpimkmkcfbddaaQueC
import Derived.Test.YtlpimkmkcfbddaaTabPure
namespace Go.Proofs.Ytlpimkmkcfbddaa
open Go.RowKit

def crossB (a b : Wt) : Bool := a.p == b.p && (a.o == b.o && (a.c != b.c && (a.w || b.w)))
set_option maxHeartbeats 4000000 in
theorem cross_c (a b : Wt) (w : World) : Calls Try.prog 94 #[.agg #[.int .i64 a.c, .int .i64 a.p, .int .i64 a.o, .bool a.w], .agg #[.int .i64 b.c, .int .i64 b.p, .int .i64 b.o, .bool b.w]] w (RetK noB (.bool (crossB a b)) w) := by
  obtain ⟨c, p, o, x⟩ := a
  obtain ⟨c2, p2, o2, y⟩ := b
  unfold crossB
  simp only
  have hkA : Keeps noB w ((w.alloc (.cells #[.int .i64 c, .int .i64 p, .int .i64 o, .bool x] 73)).alloc (.cells #[.int .i64 c2, .int .i64 p2, .int .i64 o2, .bool y] 73)) := ((Keeps.refl _ _).alloc _).alloc _
  cases h1 : (p == p2)
  · go_enter Try.func94, Try.ntmps94
    go_wp2_with fail
    go_ret
    exact ⟨rfl, hkA⟩
  · cases h2 : (o == o2)
    · go_enter Try.func94, Try.ntmps94
      go_wp2_with fail
      go_ret
      exact ⟨rfl, hkA⟩
    · cases h3 : (c != c2)
      · go_enter Try.func94, Try.ntmps94
        go_wp2_with fail
        go_ret
        exact ⟨rfl, hkA⟩
      · cases x <;> cases y
        all_goals
          go_enter Try.func94, Try.ntmps94
          go_wp2_with fail
          go_ret
          exact ⟨rfl, hkA⟩

/-- Numbers in a row of their own (or nil). -/
def OwnN (w : World) (B : Nat) (v : Value) (l : List Int) : Prop := w.ownsRow B 3 1 v l.length (l.map (Value.int .i64))
theorem infoN : (Try.prog.info? 3).map (fun i => (i.zero, i.size, i.bytes)) = some (some (.int .i64 0), 1, 8) := by kernel_rfl
theorem OwnN.slice {w : World} {B : Nat} {v : Value} {l : List Int} (h : OwnN w B v l) : ∃ a c, v = .slice a l.length c := by
  obtain ⟨_, h⟩ := h
  rcases h with ⟨rfl, h0⟩ | ⟨g, cap, cur, rfl, _⟩
  · exact ⟨none, 0, by rw [h0]⟩
  · exact ⟨_, _, rfl⟩
theorem own_lower {w : World} {B B' e size n : Nat} {v : Value} {xs : List Value} (h : w.ownsRow B e size v n xs) (hB : B' ≤ B) : w.ownsRow B' e size v n xs := by
  obtain ⟨h0, h⟩ := h
  refine ⟨h0, ?_⟩
  rcases h with h | ⟨g, c, cs, h1, h2, h3⟩
  · exact .inl h
  · exact .inr ⟨g, c, cs, h1, by omega, h3⟩
def ahd (x : Wt) (l : List Wt) : List Int := (l.filter fun y => crossB y x).map (·.c)
theorem ahd_true {x y : Wt} {l : List Wt} (h : crossB y x = true) : ahd x (l ++ [y]) = ahd x l ++ [y.c] := by simp [ahd, h]
theorem ahd_false {x y : Wt} {l : List Wt} (h : crossB y x = false) : ahd x (l ++ [y]) = ahd x l := by simp [ahd, h]
theorem ahd_le {x : Wt} {l : List Wt} : (ahd x l).length ≤ l.length := by
  unfold ahd; rw [List.length_map]; exact List.length_filter_le _ _
def aheadL (x : Wt) (ws : List Wt) : List Int := ((if 0 ≤ ofW x.c ws then ws.take (ofW x.c ws).toNat else ws).filter fun y => crossB y x).map (·.c)

set_option maxRecDepth 100000 in
set_option maxHeartbeats 8000000 in
theorem ahead_c {w : World} {S : Nat → Prop} {p r : Nat} {v : Value} {ws : List Wt} {l : List (Kc × Bool)} (hq : QAt w S p r v ws l) (hl : ws.length ≤ 1000) (x : Wt) :
    Calls Try.prog 53 #[.pointer (some ⟨p, 0, none⟩), .agg #[.int .i64 x.c, .int .i64 x.p, .int .i64 x.o, .bool x.w]] w fun e w' => ∃ v', RetK noB v' w e w' ∧ OwnN w' w.heap.size v' (aheadL x ws) := by
  obtain ⟨i0, hi, hz0, hz1, hz2⟩ := info_parts infoN
  obtain ⟨c, pg, o, b⟩ := x
  have hkA : Keeps noB w (w.alloc (.cells #[.int .i64 c, .int .i64 pg, .int .i64 o, .bool b] 73)) := (Keeps.refl _ _).alloc _
  have hA := hq.no hkA
  have hX := heap_alloc_new w (.cells #[.int .i64 c, .int .i64 pg, .int .i64 o, .bool b] 73)
  have hlt := lt_of_blk hX
  have x0 := blk_cell hX (i := 0) rfl
  obtain ⟨a, n, hv⟩ := hA.wants.slice
  subst hv
  have c0 := blk_cell hA.ptr (i := 0) rfl
  have hof := of_c hA (by omega) c
  have hge := ofW_ge (c := c) (ws := ws)
  have hlw := ofW_lt (c := c) (ws := ws)
  obtain ⟨pre, hpre⟩ : ∃ pre, pre = if 0 ≤ ofW c ws then ws.take (ofW c ws).toNat else ws := ⟨_, rfl⟩
  have hah : aheadL ⟨c, pg, o, b⟩ ws = ahd ⟨c, pg, o, b⟩ pre := by rw [hpre]; rfl
  have hpl : pre.length = if 0 ≤ ofW c ws then (ofW c ws).toNat else ws.length := by
    rw [hpre]; split
    · rw [List.length_take]; omega
    · rfl
  have hpi : ∀ i (h : i < pre.length), ∃ h' : i < ws.length, pre[i] = ws[i] := fun i h => by
    subst hpre
    split at h
    · rename_i h0
      rw [List.length_take] at h
      refine ⟨by omega, ?_⟩
      simp only [if_pos h0, List.getElem_take]
    · rename_i h0
      exact ⟨h, by simp only [if_neg h0]⟩
  rw [hah]
  have HX := Lib.hid hX
  have HA := Lib.hid hA
  have HPI := Lib.hid hpi
  have HPL := Lib.hid hpl
  have hsA := alloc_size w (.cells #[.int .i64 c, .int .i64 pg, .int .i64 o, .bool b] 73)
  clear hX hA hq hpi hah hpre hpl
  by_cases h0 : 0 ≤ ofW c ws
  · have he : ofW c ws = (pre.length : Int) := by rw [HPL.out, if_pos h0]; omega
    have hpw : pre.length < ws.length := by omega
    rw [he] at hof
    clear h0 hge hlw he
    go_enter Try.func53, Try.ntmps53
    go_wp2_with fail
    refine hof.mono ?_
    rintro e w1 ⟨rfl, hk1⟩
    clear hof
    have c0' := blk_cell (HA.out.no hk1).ptr (i := 0) rfl
    have hwl := HA.out.wants
    obtain ⟨g9, off9, ha9, _⟩ := HA.out.wants.at_ (i := 0) (by omega)
    obtain ⟨_, n9, e9, hn1, hn2, _⟩ := HA.out.wants
    simp at e9
    obtain ⟨rfl, rfl⟩ := e9
    unfold maxLen at hn2
    subst ha9
    clear hwl
    go_wp2_with fail
    clear c0'
    go_loopw [7, 28] (fun u i wr => ∃ k : Nat, k ≤ pre.length ∧ i = .int .i64 k ∧ Keeps noB (w.alloc (.cells #[.int .i64 c, .int .i64 pg, .int .i64 o, .bool b] 73)) wr ∧ OwnN wr (w.heap.size + 1) u (ahd ⟨c, pg, o, b⟩ (pre.take k)))
      (fun _ i _ => pre.length - (intOf i).toNat)
    case atStart => exact ⟨0, by omega, rfl, hk1, World.ownsRow_nil _ _ _ _⟩
    case round =>
      clear c0 x0 hk1
      obtain ⟨k, hk, rfl, hkp, hrow⟩ := hrel
      have hsz := hkp.size
      obtain ⟨ra, rc, hv⟩ := hrow.slice
      by_cases hltk : k < pre.length
      · obtain ⟨h', hpk⟩ := HPI.out k hltk
        obtain ⟨g, off, hga, y0, y1, y2, y3⟩ := (HA.out.no hkp).wants.at_ h'
        first | subst hga | (simp at hga; obtain ⟨rfl, rfl⟩ := hga)
        obtain ⟨y, hy⟩ : ∃ y, y = ws[k] := ⟨_, rfl⟩
        rw [← hy] at y0 y1 y2 y3 hpk
        have htk : pre.take (k + 1) = pre.take k ++ [y] := by rw [List.take_succ_eq_append_getElem hltk, hpk]
        have hkB : Keeps noB wr (wr.alloc (.cells #[.int .i64 y.c, .int .i64 y.p, .int .i64 y.o, .bool y.w] 73)) := (Keeps.refl _ _).alloc _
        have hX2 := hkB.blk (hkp.blk HX.out (noB_not _)) (noB_not _)
        have z0 := blk_cell hX2 (i := 0) rfl
        have z1 := blk_cell hX2 (i := 1) rfl
        have z2 := blk_cell hX2 (i := 2) rfl
        have z3 := blk_cell hX2 (i := 3) rfl
        have hY := heap_alloc_new wr (.cells #[.int .i64 y.c, .int .i64 y.p, .int .i64 y.o, .bool y.w] 73)
        have hC := cross_c y ⟨c, pg, o, b⟩ (wr.alloc (.cells #[.int .i64 y.c, .int .i64 y.p, .int .i64 y.o, .bool y.w] 73))
        simp only at hC
        have hle := ahd_le (x := ⟨c, pg, o, b⟩) (l := pre.take k)
        rw [List.length_take] at hle
        have HY := Lib.hid hY
        have HTK := Lib.hid htk
        clear hy hpk htk hX2 hY
        subst hv
        cases hcr : crossB y ⟨c, pg, o, b⟩
        · rw [hcr] at hC
          have HCR := Lib.hid hcr
          clear hcr
          go_wp2_with fail
          refine hC.mono ?_
          rintro e w2 ⟨rfl, hk2⟩
          go_wp2_with fail
          go_roundw
          case rel => exact ⟨k + 1, by omega, by go_num, (hkp.trans_no hkB).trans_no hk2, by rw [HTK.out, ahd_false HCR.out]; exact own_keep_no hrow (hkB.trans_no hk2)⟩
          case measure => simp [intOf]; omega
        · rw [hcr] at hC
          have HCR := Lib.hid hcr
          clear hcr
          go_wp2_with fail
          refine hC.mono ?_
          rintro e w2 ⟨rfl, hk2⟩
          clear z0 z1 z2 z3
          have hY2 := hk2.blk HY.out (noB_not _)
          have u0 := blk_cell hY2 (i := 0) rfl
          have hown := own_keep_no hrow (hkB.trans_no hk2)
          have HO := Lib.hid hown
          clear hY2 hown hC
          go_wp2_with (at_builtin; refine wpList_append1 rfl _ _ 34 rfl (w.heap.size + 1) 3 i0 (.int .i64 0) 1 8 Try.underlying34 hi hz0 hz1 hz2 rfl (by decide) _ _ _ rfl (HO.out.alloc _) w2.heap.size 1 [.int .i64 y.c] 3 (0, 0) rfl (heap_alloc_new _ _) rfl rfl ?d3 ?d4 ?d5 ?_)
          case d3 => omega
          case d4 => omega
          case d5 => rw [alloc_size]; have := hk2.size; have := hkB.size; omega
          · intro v' w3 hown' hgrow
            have hk4 : Keeps noB (w.alloc (.cells #[.int .i64 c, .int .i64 pg, .int .i64 o, .bool b] 73)) w3 := (((hkp.trans_no hkB).trans_no hk2).alloc _).own (HO.out.alloc _) (by rw [hsA]; exact Nat.le_refl _) hgrow
            clear hgrow
            go_wp2_with fail
            go_roundw
            case rel => exact ⟨k + 1, by omega, by go_num, hk4, by rw [HTK.out, ahd_true HCR.out]; unfold OwnN; simpa using hown'⟩
            case measure => simp [intOf]; omega
      · have : k = pre.length := by omega
        subst this
        rw [List.take_length] at hrow hv
        subst hv
        go_wp2_with fail
        go_ret
        exact ⟨_, ⟨rfl, hkA.trans_no hkp⟩, own_lower hrow (Nat.le_succ _)⟩
  · have he : ws.length = pre.length := by rw [HPL.out, if_neg h0]
    have he2 : ofW c ws = -1 := by omega
    rw [he2] at hof
    rw [he] at c0
    clear h0 hge hlw he2
    have HE := Lib.hid he
    clear he
    go_enter Try.func53, Try.ntmps53
    go_wp2_with fail
    refine hof.mono ?_
    rintro e w1 ⟨rfl, hk1⟩
    clear hof
    go_wp2_with fail
    go_loopw [7, 28] (fun u i wr => ∃ k : Nat, k ≤ pre.length ∧ i = .int .i64 k ∧ Keeps noB (w.alloc (.cells #[.int .i64 c, .int .i64 pg, .int .i64 o, .bool b] 73)) wr ∧ OwnN wr (w.heap.size + 1) u (ahd ⟨c, pg, o, b⟩ (pre.take k)))
      (fun _ i _ => pre.length - (intOf i).toNat)
    case atStart => exact ⟨0, by omega, rfl, hk1, World.ownsRow_nil _ _ _ _⟩
    case round =>
      clear c0 x0 hk1
      obtain ⟨k, hk, rfl, hkp, hrow⟩ := hrel
      have hsz := hkp.size
      obtain ⟨ra, rc, hv⟩ := hrow.slice
      by_cases hltk : k < pre.length
      · obtain ⟨h', hpk⟩ := HPI.out k hltk
        obtain ⟨g, off, hga, y0, y1, y2, y3⟩ := (HA.out.no hkp).wants.at_ h'
        first | subst hga | (simp at hga; obtain ⟨rfl, rfl⟩ := hga)
        obtain ⟨y, hy⟩ : ∃ y, y = ws[k] := ⟨_, rfl⟩
        rw [← hy] at y0 y1 y2 y3 hpk
        have htk : pre.take (k + 1) = pre.take k ++ [y] := by rw [List.take_succ_eq_append_getElem hltk, hpk]
        have hkB : Keeps noB wr (wr.alloc (.cells #[.int .i64 y.c, .int .i64 y.p, .int .i64 y.o, .bool y.w] 73)) := (Keeps.refl _ _).alloc _
        have hX2 := hkB.blk (hkp.blk HX.out (noB_not _)) (noB_not _)
        have z0 := blk_cell hX2 (i := 0) rfl
        have z1 := blk_cell hX2 (i := 1) rfl
        have z2 := blk_cell hX2 (i := 2) rfl
        have z3 := blk_cell hX2 (i := 3) rfl
        have hY := heap_alloc_new wr (.cells #[.int .i64 y.c, .int .i64 y.p, .int .i64 y.o, .bool y.w] 73)
        have hC := cross_c y ⟨c, pg, o, b⟩ (wr.alloc (.cells #[.int .i64 y.c, .int .i64 y.p, .int .i64 y.o, .bool y.w] 73))
        simp only at hC
        have hle := ahd_le (x := ⟨c, pg, o, b⟩) (l := pre.take k)
        rw [List.length_take] at hle
        have HY := Lib.hid hY
        have HTK := Lib.hid htk
        clear hy hpk htk hX2 hY
        subst hv
        cases hcr : crossB y ⟨c, pg, o, b⟩
        · rw [hcr] at hC
          have HCR := Lib.hid hcr
          clear hcr
          go_wp2_with fail
          refine hC.mono ?_
          rintro e w2 ⟨rfl, hk2⟩
          go_wp2_with fail
          go_roundw
          case rel => exact ⟨k + 1, by omega, by go_num, (hkp.trans_no hkB).trans_no hk2, by rw [HTK.out, ahd_false HCR.out]; exact own_keep_no hrow (hkB.trans_no hk2)⟩
          case measure => simp [intOf]; omega
        · rw [hcr] at hC
          have HCR := Lib.hid hcr
          clear hcr
          go_wp2_with fail
          refine hC.mono ?_
          rintro e w2 ⟨rfl, hk2⟩
          clear z0 z1 z2 z3
          have hY2 := hk2.blk HY.out (noB_not _)
          have u0 := blk_cell hY2 (i := 0) rfl
          have hown := own_keep_no hrow (hkB.trans_no hk2)
          have HO := Lib.hid hown
          clear hY2 hown hC
          go_wp2_with (at_builtin; refine wpList_append1 rfl _ _ 34 rfl (w.heap.size + 1) 3 i0 (.int .i64 0) 1 8 Try.underlying34 hi hz0 hz1 hz2 rfl (by decide) _ _ _ rfl (HO.out.alloc _) w2.heap.size 1 [.int .i64 y.c] 3 (0, 0) rfl (heap_alloc_new _ _) rfl rfl ?d3 ?d4 ?d5 ?_)
          case d3 => omega
          case d4 => omega
          case d5 => rw [alloc_size]; have := hk2.size; have := hkB.size; omega
          · intro v' w3 hown' hgrow
            have hk4 : Keeps noB (w.alloc (.cells #[.int .i64 c, .int .i64 pg, .int .i64 o, .bool b] 73)) w3 := (((hkp.trans_no hkB).trans_no hk2).alloc _).own (HO.out.alloc _) (by rw [hsA]; exact Nat.le_refl _) hgrow
            clear hgrow
            go_wp2_with fail
            go_roundw
            case rel => exact ⟨k + 1, by omega, by go_num, hk4, by rw [HTK.out, ahd_true HCR.out]; unfold OwnN; simpa using hown'⟩
            case measure => simp [intOf]; omega
      · have : k = pre.length := by omega
        subst this
        rw [List.take_length] at hrow hv
        subst hv
        go_wp2_with fail
        go_ret
        exact ⟨_, ⟨rfl, hkA.trans_no hkp⟩, own_lower hrow (Nat.le_succ _)⟩
end Go.Proofs.Ytlpimkmkcfbddaa
