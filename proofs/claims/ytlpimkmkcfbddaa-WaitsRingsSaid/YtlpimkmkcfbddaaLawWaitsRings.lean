/- WaitsRings: who waits in a ring: the law answers true at every input. No condition. -/
import Derived.Test.YtlpimkmkcfbddaaWaitRing
import Derived.Deep.RegionLaw
namespace Go.Proofs.Ytlpimkmkcfbddaa
open Go.RowKit Go.Deep Go.WideShapes Go.ChangeShapes

structure Q1 (f : Nat → Value) : Prop where
  i : IsI (f 0)
theorem rd3 {H : Type} {enc : TypeId × Value → H} {w : World} {base : Nat} {spare : Nat → Bool} {held : Bool} (cs : List Value) (n : Nat) (y : DataW H × List MemPlace)
  (h : DataW.trod enc Try.prog w base spare held n 3 cs = some y) : ∃ v0, cs = [v0] ∧ IsI v0 := trodI Try.underlying3 h

def RdI (w : World) (a : Option Addr) (r : List Int) : Prop := ∀ k, k < r.length → ∃ b off, a = some ⟨b, off, none⟩ ∧ b < w.heap.size ∧ w.cell? ⟨b, off + k, none⟩ = some (.int .i64 (r.getD k 0))
theorem RdI.go {w w1 : World} {a : Option Addr} {r : List Int} (h : RdI w a r) (hk : Keeps noB w w1) : RdI w1 a r := fun k hkl => by
  obtain ⟨b, off, ha, hb, hc⟩ := h k hkl
  exact ⟨b, off, ha, Nat.lt_of_lt_of_le hb hk.size, (kcell hk _ hb (noB_not _)).trans hc⟩
theorem rdi_of {w : World} {a : Option Addr} {len : Nat} {g : Nat → Nat → Value} (hr : RdS w 1 a len g) (hq : ∀ k, k < len → Q1 (g k)) : ∃ r : List Int, r.length = len ∧ RdI w a r := by
  refine ⟨(List.range len).map fun k => intOf (g k 0), by simp, fun k hk => ?_⟩
  have hk' : k < len := by simpa using hk
  obtain ⟨b, off, ha, hb, hc⟩ := hr k hk'
  have h0 := hc 0 (by omega)
  rw [isI_val (hq k hk').i] at h0
  refine ⟨b, off, ha, hb, ?_⟩
  rw [List.getD_eq_getElem?_getD, List.getElem?_map, List.getElem?_range hk']
  simpa using h0

/-- What the marks tell of the first k of r. -/
structure Marks (r : List Int) (s : Nat → Bool) (k : Nat) : Prop where
  le : ∀ i, i < k → 0 ≤ r.getD i 0 ∧ r.getD i 0 < 4
  inj : ∀ i j, i < k → j < k → r.getD i 0 = r.getD j 0 → i = j
  mark : ∀ y : Nat, y < 4 → (s y = true ↔ ∃ i, i < k ∧ r.getD i 0 = y)
theorem Marks.start (r : List Int) : Marks r (fun _ => false) 0 := ⟨fun i h => by omega, fun i j h => by omega, fun y _ => ⟨fun h => (by cases h), fun ⟨i, h, _⟩ => (by omega)⟩⟩
theorem Marks.step {r : List Int} {s : Nat → Bool} {k y : Nat} (h : Marks r s k) (hy : r.getD k 0 = y) (hy4 : y < 4) (hn : s y = false) : Marks r (upd s y) (k + 1) := by
  refine ⟨fun i hi => ?_, fun i j hi hj he => ?_, fun z hz => ?_⟩
  · by_cases e : i = k
    · subst e; omega
    · exact h.le i (by omega)
  · by_cases e1 : i = k
    · by_cases e2 : j = k
      · omega
      · subst e1
        have := (h.mark y hy4).2 ⟨j, by omega, by rw [← he, hy]⟩
        rw [hn] at this; cases this
    · by_cases e2 : j = k
      · subst e2
        have := (h.mark y hy4).2 ⟨i, by omega, by rw [he, hy]⟩
        rw [hn] at this; cases this
      · exact h.inj i j (by omega) (by omega) he
  · unfold upd
    by_cases e : z = y
    · subst e
      rw [if_pos rfl]
      exact ⟨fun _ => ⟨k, by omega, hy⟩, fun _ => rfl⟩
    · rw [if_neg e, h.mark z hz]
      constructor
      · rintro ⟨i, h1, h2⟩; exact ⟨i, by omega, h2⟩
      · rintro ⟨i, h1, h2⟩
        refine ⟨i, ?_, h2⟩
        have : i ≠ k := fun e2 => by subst e2; omega
        omega

/-- The greatest of the first k. -/
def Most (r : List Int) (M : Int) (k : Nat) : Prop := (∀ j, j < k → r.getD j 0 ≤ M) ∧ ((k = 0 ∧ M = 0) ∨ ∃ j, j < k ∧ M = r.getD j 0)

theorem step_append_ed {w : World} {ops : Array Oper} {o : Oper} {a : Act} {K : Act → World → Prop} {Q : Exit → Act → World → Prop} {E : Prop} (hg : o.guard = none) (s x : Operand)
    (ho : o.op = Op.call { callee := Callee.builtin Builtin.append, args := #[s, x], argTypes := #[62, 62] }) (base : Nat) (v : Value) (n : Nat) (xs : List Value) (hv : a.eval s = v) (hown : w.ownsRow base 61 2 v n xs)
    (b : Option Addr) (m : List (Int × Int)) (k c B : Nat) (hk : k = m.length) (hx : a.eval x = Value.slice b k c) (he : EdR w B b m) (hn : n + m.length ≤ 100000) (hbase : base ≤ w.heap.size)
    (h : ∀ (v' : Value) (w' : World), w'.ownsRow base 61 2 v' (n + m.length) (xs ++ ecells m) → w.grownBy w' v.ownBlock → (v ≠ .slice none 0 0 → v' ≠ .slice none 0 0) → K (a.put o.dst v') w') : if Region.wanted o (yielded ops a.tmps) = true then Oper.wp Try.prog o a w K Q else E := by
  have hw : Region.wanted o (yielded ops a.tmps) = true := by simp [Region.wanted, hg]
  rw [if_pos hw]
  subst hk
  obtain ⟨i1, hi, hz0, hz1, hz2⟩ := info_parts info61
  cases b with
  | none =>
    have := he.nil
    subst this
    have hrun : (Builtin.append_ #[62, 62] o.type #[v, .slice none 0 c]).run Try.prog w = .ok v w := by
      rcases hown.2 with ⟨rfl, rfl⟩ | ⟨g, cap, cur, rfl, _, _, hnc, _⟩
      · simp [Builtin.append_, run_underlying Try.underlying62, sizeOf, typeInfo, hi, Builtin.lenOf, Builtin.firstCells]
      · simp [Builtin.append_, run_underlying Try.underlying62, sizeOf, typeInfo, hi, Builtin.lenOf, Builtin.firstCells, hnc, storeCells]
    simp only [List.length_nil] at hx
    have h' := h v w (by simpa [ecells] using hown) ⟨rfl, rfl, rfl, Nat.le_refl _, fun _ _ _ => rfl⟩ id
    unfold Oper.wp
    simp [execOp, ho, resolve, invoke, builtin, hv, hx, hrun, Result.andThen]
    exact h'
  | some ad =>
    refine wp_append_own w s x 62 ho base 61 i1 (.agg #[.int .i64 0, .int .i64 0]) 2 16 Try.underlying62 hi hz0 hz1 hz2 rfl (by decide) v n xs hv hown ad m.length c (ecells m) hx (ecells_len m) he.news (ecells_one m) ?_ ?_ hbase ?_
    · unfold maxLen; omega
    · omega
    · intro v' w' h1 h2 h3
      exact h v' w' h1 h2 (fun hne he => hne (h3.1 he).1)

theorem EdB.drop {w : World} {g B : Nat} {l : List (Int × Int)} (h : EdB w g l) (hB : g < B) (n : Nat) : EdR w B (some ⟨g, n * 2, none⟩) (l.drop n) := by
  obtain ⟨cs, hb, h1, h2⟩ := h
  intro k hk
  rw [List.length_drop] at hk
  obtain ⟨h3, h4⟩ := h2 (n + k) (by omega)
  refine ⟨g, n * 2, rfl, hB, lt_of_blk hb, ?_, ?_⟩
  · rw [List.getElem_drop, show n * 2 + k * 2 = (n + k) * 2 by omega]; exact blk_cell hb h3
  · rw [List.getElem_drop, show n * 2 + k * 2 + 1 = (n + k) * 2 + 1 by omega]; exact blk_cell hb h4

theorem wrap_id {n : Int} (h1 : -9223372036854775808 ≤ n) (h2 : n ≤ 9223372036854775807) : IntKind.i64.wrap n = n := by
  simp [IntKind.wrap, IntKind.bits, IntKind.signed]; omega
theorem row_two {w : World} {B : Nat} {v : Value} {l m : List (Int × Int)} (h : w.ownsRow B 61 2 v (0 + l.length + m.length) ([] ++ ecells l ++ ecells m)) : ∃ (al : List (Int × Int)) (a : Option Addr) (c : Nat), Hid (al = l ++ m) ∧ v = .slice a al.length c ∧ EdR w w.heap.size a al := by
  rw [Nat.zero_add, List.nil_append, ← ecells_append, ← List.length_append] at h
  by_cases hv : v = .slice none 0 0
  · subst hv
    obtain ⟨_, h⟩ := h
    rcases h with ⟨_, h⟩ | ⟨g, cap, cur, h, _⟩
    · exact ⟨l ++ m, none, 0, Lib.hid rfl, by rw [h], fun k hk => by omega⟩
    · simp at h
  · obtain ⟨g, c, h1, _, _, _, hE⟩ := EdB.of_row h hv
    exact ⟨l ++ m, _, c, Lib.hid rfl, h1, hE.edr hE.lt⟩
theorem vic_none_of {l : List (Int × Int)} (h : ∀ x : Int, cyc l x = false) : vicN l 4 = none := by simp [vicN, h]

set_option maxRecDepth 100000 in
set_option maxHeartbeats 4000000 in
theorem waitsRings_w (a : Option Addr) (len cap : Nat) (g : Nat → Nat → Value) (ms : Int) (w : World) (hl : len ≤ maxLen) (hr : RdS w 1 a len g) (hq : ∀ k, k < len → Q1 (g k)) (_hm : -9223372036854775808 ≤ ms ∧ ms ≤ 9223372036854775807) :
    Calls Try.prog 11 #[.slice a len cap, .int .i64 ms] w (RetK noB (.bool true) w) := by
  unfold maxLen at hl
  obtain ⟨r, rfl, he⟩ := rdi_of hr hq
  clear hr hq
  by_cases h1 : r.length < 1
  · have hd : decide ((r.length : Int) < 1) = true := decide_eq_true (by omega)
    go_enter Try.func11, Try.ntmps11
    go_wp2_with fail
    refine (waitsAlive_c _).mono ?_
    rintro e w0 ⟨rfl, hk0⟩
    go_wp2_with fail
    go_ret
    exact ⟨rfl, hk0⟩
  by_cases h4 : 4 < r.length
  · have hd : decide ((r.length : Int) < 1) = false := decide_eq_false (by omega)
    have hd2 : decide ((r.length : Int) > 4) = true := decide_eq_true (by omega)
    go_enter Try.func11, Try.ntmps11
    go_wp2_with fail
    refine (waitsAlive_c _).mono ?_
    rintro e w0 ⟨rfl, hk0⟩
    go_wp2_with fail
    go_ret
    exact ⟨rfl, hk0⟩
  have hd : decide ((r.length : Int) < 1) = false := decide_eq_false (by omega)
  have hd2 : decide ((r.length : Int) > 4) = false := decide_eq_false (by omega)
  go_enter Try.func11, Try.ntmps11
  go_wp2_with fail
  refine (waitsAlive_c _).mono ?_
  rintro e w0 ⟨rfl, hk0⟩
  have hM0 : MarkAt (w0.alloc (.cells (scells fun _ => false) 42)) w0.heap.size (fun _ => false) := heap_alloc_new _ _
  go_wp2_with fail
  go_loopw [31] (fun i wr => ∃ (k : Nat) (s : Nat → Bool), k ≤ r.length ∧ i = .int .i64 k ∧ Keeps noB w wr ∧ MarkAt wr w0.heap.size s ∧ Marks r s k)
    (fun i _ => r.length - (intOf i).toNat)
  case atStart => exact ⟨0, _, by omega, rfl, hk0.alloc _, hM0, Marks.start r⟩
  case round =>
    obtain ⟨k, s, hk, rfl, hkp, hMs, hMk⟩ := hrel
    by_cases hlt : k < r.length
    · obtain ⟨b, off, rfl, hb, hc⟩ := (he.go hkp) k hlt
      obtain ⟨c, hcr⟩ : ∃ c, r.getD k 0 = c := ⟨_, rfl⟩
      rw [hcr] at hc
      have HC := Lib.hid hcr
      clear hcr
      by_cases hc0 : c < 0
      · go_wp2_with fail
        go_ret
        exact ⟨rfl, hkp⟩
      · by_cases hc3 : 3 < c
        · have hdc : decide (c > 3) = true := decide_eq_true hc3
          go_wp2_with fail
          go_ret
          exact ⟨rfl, hkp⟩
        · obtain ⟨y, rfl⟩ := Int.eq_ofNat_of_zero_le (by omega : 0 ≤ c)
          have hy4 : y < 4 := by omega
          have hdc : decide ((y : Int) > 3) = false := decide_eq_false hc3
          have hcm := blk_cell hMs (scells_at s hy4)
          have hfr := blk_free hMs y
          have HM := Lib.hid hMs
          have HK := Lib.hid hMk
          clear hMk hMs hc0 hc3
          cases hsy : s y
          · rw [hsy] at hcm
            go_wp2_with fail
            go_roundw
            case rel => exact ⟨k + 1, _, by omega, by go_num, hkp.setCell _ _ (.inr hk0.size), HM.out.set hy4, HK.out.step HC.out hy4 hsy⟩
            case measure => simp [intOf]; omega
          · rw [hsy] at hcm
            go_wp2_with fail
            go_ret
            exact ⟨rfl, hkp⟩
    · have : k = r.length := by omega
      subst this
      clear hlt
      have hRing : Ring r := ⟨by omega, hMk.le, hMk.inj⟩
      obtain ⟨wo, rfl⟩ : ∃ wo : World, wo = wr := ⟨_, rfl⟩
      have hlm := lt_of_blk hMs
      go_wp2_with fail
      go_loopw [8, 9, 52] (fun v m i wr => ∃ (k : Nat) (M : Int), k ≤ r.length ∧ i = .int .i64 k ∧ m = .int .i64 M ∧ Most r M k ∧ v ≠ .slice none 0 0 ∧ Keeps noB wo wr ∧ wr.ownsRow wo.heap.size 61 2 v (ringE r k).length (ecells (ringE r k)))
        (fun _ _ i _ => r.length - (intOf i).toNat)
      case atStart => exact ⟨0, 0, by omega, rfl, rfl, ⟨fun j h => by omega, .inl ⟨rfl, rfl⟩⟩, by simp, (Keeps.refl noB wo).alloc _, own_lit0 wo⟩
      case round =>
        obtain ⟨k, M, hk, rfl, rfl, hMo, hne, hkq, hown⟩ := hrel
        have hsz := hkq.size
        by_cases hlt : k < r.length
        · have hkw := hkp.trans_no hkq
          obtain ⟨b, off, rfl, hb, hc⟩ := (he.go hkw) k hlt
          obtain ⟨_, _, hA0, _, hc0⟩ := (he.go hkw) 0 (by omega)
          simp only [Option.some.injEq, Addr.mk.injEq, and_true] at hA0
          obtain ⟨rfl, rfl⟩ := hA0
          simp only [Nat.add_zero] at hc0
          have hrl := ringE_len r k
          have hMost : Most r (if M < r.getD k 0 then r.getD k 0 else M) (k + 1) := by
            refine ⟨fun j hj => ?_, .inr ?_⟩
            · by_cases e : j = k
              · subst e; split <;> omega
              · have := hMo.1 j (by omega); split <;> omega
            · by_cases e : M < r.getD k 0
              · rw [if_pos e]; exact ⟨k, by omega, rfl⟩
              · rw [if_neg e]
                rcases hMo.2 with ⟨h, h0⟩ | ⟨j, h, h0⟩
                · subst h
                  have := hMk.le 0 (by omega)
                  exact ⟨0, by omega, by omega⟩
                · exact ⟨j, by omega, h0⟩
          have HMO := Lib.hid hMost
          by_cases hlast : k + 1 < r.length
          · obtain ⟨_, _, hA1, _, hc1⟩ := (he.go hkw) (k + 1) hlast
            simp only [Option.some.injEq, Addr.mk.injEq, and_true] at hA1
            obtain ⟨rfl, rfl⟩ := hA1
            have hx : ringE r (k + 1) = ringE r k ++ [(r.getD k 0, r.getD (k + 1) 0)] := by rw [ringE, if_pos hlast]
            have HX := Lib.hid hx
            have hdl : decide ((k : Int) < (r.length : Int) - 1) = true := decide_eq_true (by omega)
            have HR := Lib.hid hrl
            have HRG := Lib.hid hRing
            have HMK := Lib.hid hMk
            have HM0 := Lib.hid hMo
            clear hx hMost hrl hRing hMk hMo
            generalize r.getD 0 0 = r0 at *
            generalize r.getD k 0 = rk at *
            generalize r.getD (k + 1) 0 = r1 at *
            have hE2 : EdR (wr.alloc (.cells #[.int .i64 rk, .int .i64 r1] 61)) (wr.heap.size + 1) (some ⟨wr.heap.size, 0, none⟩) [(rk, r1)] := by
              refine EdB.edr ⟨_, heap_alloc_new _ _, by simp, fun k hk => ?_⟩ (by omega)
              match k, hk with
              | 0, _ => exact ⟨rfl, rfl⟩
            go_wp2_with (at_builtin; refine wpList_append_ed rfl _ _ rfl wo.heap.size _ _ _ rfl (hown.alloc _) _ [(rk, r1)] 1 _ rfl hE2 ?c1 ?c2 ?_)
            case c1 => rw [HR.out]; simp only [List.length_singleton]; omega
            case c2 => rw [alloc_size]; omega
            · intro v' w1 g1 g2 g3
              have hk1 : Keeps noB wo w1 := (hkq.alloc _).own (hown.alloc _) (Nat.le_refl _) g2
              have hne' : v' ≠ .slice none 0 0 := by first | exact g3 hne | exact g3
              clear g2 g3 hE2
              go_wp2_with fail
              refine ⟨⟨k + 1, _, by omega, by go_num, rfl, HMO.out, hne', hk1, ?_⟩, by simp [intOf]; omega⟩
              rw [HX.out, ecells_append, List.length_append]; exact g1
          · have hx : ringE r (k + 1) = ringE r k ++ [(r.getD k 0, r.getD 0 0)] := by rw [ringE, if_neg hlast]
            have HX := Lib.hid hx
            have hdl : decide ((k : Int) < (r.length : Int) - 1) = false := decide_eq_false (by omega)
            have HR := Lib.hid hrl
            have HRG := Lib.hid hRing
            have HMK := Lib.hid hMk
            have HM0 := Lib.hid hMo
            clear hx hMost hrl hRing hMk hMo
            generalize r.getD 0 0 = r1 at *
            generalize r.getD k 0 = rk at *
            have hE2 : EdR (wr.alloc (.cells #[.int .i64 rk, .int .i64 r1] 61)) (wr.heap.size + 1) (some ⟨wr.heap.size, 0, none⟩) [(rk, r1)] := by
              refine EdB.edr ⟨_, heap_alloc_new _ _, by simp, fun k hk => ?_⟩ (by omega)
              match k, hk with
              | 0, _ => exact ⟨rfl, rfl⟩
            go_wp2_with (at_builtin; refine wpList_append_ed rfl _ _ rfl wo.heap.size _ _ _ rfl (hown.alloc _) _ [(rk, r1)] 1 _ rfl hE2 ?c1 ?c2 ?_)
            case c1 => rw [HR.out]; simp only [List.length_singleton]; omega
            case c2 => rw [alloc_size]; omega
            · intro v' w1 g1 g2 g3
              have hk1 : Keeps noB wo w1 := (hkq.alloc _).own (hown.alloc _) (Nat.le_refl _) g2
              have hne' : v' ≠ .slice none 0 0 := by first | exact g3 hne | exact g3
              clear g2 g3 hE2
              go_wp2_with fail
              refine ⟨⟨k + 1, _, by omega, by go_num, rfl, HMO.out, hne', hk1, ?_⟩, by simp [intOf]; omega⟩
              rw [HX.out, ecells_append, List.length_append]; exact g1
        · have : k = r.length := by omega
          subst this
          obtain ⟨gd, c, rfl, hB, hlc, hcm, hE⟩ := EdB.of_row hown hne
          obtain ⟨v, hv, rfl⟩ := hRing.vic hMo.1 (by rcases hMo.2 with ⟨h, _⟩ | h; omega; exact h)
          have hcy := hRing.cycl
          have hbr := fun m hm x => hRing.broken (m := m) hm x
          have hll := ringE_len r r.length
          have hER := hE.edr hE.lt
          have hkw := hkp.trans_no hkq
          have hMs2 : MarkAt _ w0.heap.size s := hkq.blk hMs (noB_not _)
          generalize ringE r r.length = l at *
          have hV := victim_c l (by omega) (some ⟨gd, 0, none⟩) c _ hER
          rw [hv] at hV
          simp only [vicV] at hV
          have hmk : ∀ y : Nat, y < 4 → cyc l (y : Int) = s y := fun y hy => by
            cases e : s y
            · cases e2 : cyc l (y : Int)
              · rfl
              · obtain ⟨i, h1, h2⟩ := (hcy _).1 e2
                rw [(hMk.mark y hy).2 ⟨i, h1, h2.symm⟩] at e; cases e
            · obtain ⟨i, h1, h2⟩ := (hMk.mark y hy).1 e
              exact (hcy _).2 ⟨i, h1, h2.symm⟩
          have hl4 : l.length ≤ 4 := by omega
          have HLL := Lib.hid hll
          clear hll
          have HMK := Lib.hid hmk
          have HBR := Lib.hid hbr
          clear hown hne hMk hMs hcy hRing hmk hbr
          go_wp2_with fail
          refine hV.mono ?_
          rintro e w2 ⟨rfl, hk2⟩
          have hE2 := hE.keep hk2 (noB_not _)
          have hMs3 : MarkAt _ w0.heap.size s := hk2.blk hMs2 (noB_not _)
          have hkw2 := hkw.trans_no hk2
          clear hV hER hk2 hkw hE hMs2 hMo
          have hbv : ((v : Int) != (v : Int)) = false := by simp
          go_wp2_with fail
          go_loopw [15] (fun i wx => ∃ q : Nat, q ≤ 4 ∧ i = .int .i64 q ∧ Keeps noB w2 wx)
            (fun i _ => 4 - (intOf i).toNat)
          case atStart => exact ⟨0, by omega, rfl, Keeps.refl _ _⟩
          case round =>
            obtain ⟨q, hq4, rfl, hkx⟩ := hrel
            have hEx := hE2.keep hkx (noB_not _)
            have hMx : MarkAt _ w0.heap.size s := hkx.blk hMs3 (noB_not _)
            by_cases hqlt : q < 4
            · have hbq : (s q != s q) = false := by simp
              have hcq := HMK.out q hqlt
              have hcell := blk_cell hMx (scells_at s hqlt)
              have hC := cycle_c l (by omega) (some ⟨gd, 0, none⟩) c q _ ((hEx.edr hEx.lt).go ((Keeps.refl noB _).drewN 1))
              rw [hcq] at hC
              have HX := Lib.hid hMx
              have HE := Lib.hid hEx
              have HE2 := Lib.hid hE2
              have HKX := Lib.hid hkx
              have HKW := Lib.hid hkw2
              have HBQ := Lib.hid hbq
              have HV := Lib.hid hv
              clear hMx hEx hE2 hkx hkw2 hMs3 hbq hcq hv
              go_wp2_with fail
              go_region_with (go_at_call 42; refine hC.mono ?_; rintro e w3 ⟨rfl, hk3⟩; have hc3 := blk_cell (hk3.blk HX.out (noB_not _)) (scells_at s hqlt))
              all_goals go_wp2_with fail
              all_goals
                go_roundw
                case rel => exact ⟨q + 1, by omega, by go_num, (HKX.out.drewN 1).trans_no hk3⟩
                case measure => simp [intOf]; omega
            · have : q = 4 := by omega
              subst this
              have HMS := Lib.hid hMs3
              have HV := Lib.hid hv
              clear hMs3 hMx hv hqlt hE2
              have hkw3 := hkw2.trans_no hkx
              by_cases hm0 : ms < 0
              · have hd3 : decide (ms < 0) = true := decide_eq_true hm0
                go_wp2_with fail
                go_ret
                exact ⟨rfl, hkw3⟩
              · by_cases hml : ms < l.length
                · obtain ⟨m, rfl⟩ := Int.eq_ofNat_of_zero_le (by omega : 0 ≤ ms)
                  have hd3 : decide ((m : Int) < 0) = false := decide_eq_false hm0
                  have hd4 : decide ((m : Int) ≥ (l.length : Int)) = false := decide_eq_false (by omega)
                  have b1 : m ≤ c := by omega
                  have b2 : m + 1 ≤ l.length := by omega
                  have b3 : m + 1 ≤ c := by omega
                  clear hm0
                  have hown0 : ((wr.alloc (.cells #[] 61)).drew).ownsRow wr.heap.size 61 2 (.slice (some ⟨wr.heap.size, 0, none⟩) 0 0) 0 [] := own_lit0 wr
                  have hE1 : EdR ((wr.alloc (.cells #[] 61)).drew) (gd + 1) (some ⟨gd, 0, none⟩) (l.take m) := ((hEx.keep ((Keeps.refl noB wr).alloc (.cells #[] 61)).drew (noB_not _)).take m).edr (Nat.lt_succ_self _)
                  have hlm1 : m = (l.take m).length := by rw [List.length_take]; omega
                  have hlm2 : l.length - (m + 1) = (l.drop (m + 1)).length := by rw [List.length_drop]
                  have hn1 : 0 + (l.take m).length ≤ 100000 := by rw [← hlm1]; omega
                  have hn2 : 0 + (l.take m).length + (l.drop (m + 1)).length ≤ 100000 := by rw [← hlm1, ← hlm2]; omega
                  have hb1 : wr.heap.size ≤ ((wr.alloc (.cells #[] 61)).drew).heap.size := by show wr.heap.size ≤ (wr.alloc (.cells #[] 61)).heap.size; rw [alloc_size]; omega
                  have hal : ∀ al : List (Int × Int), al = l.take m ++ l.drop (m + 1) → al.length ≤ 9223372036854775807 := fun al h => by rw [h, List.length_append, ← hlm1, ← hlm2]; omega
                  have hvn : ∀ al : List (Int × Int), al = l.take m ++ l.drop (m + 1) → vicN al 4 = none := fun al h => by rw [h]; exact vic_none_of (HBR.out m (by have := HLL.out; omega))
                  have hwr : IntKind.i64.wrap ((m : Int) + 1) = (m : Int) + 1 := wrap_id (by omega) (by omega)
                  have b5 : (m : Int) + 1 ≤ (l.length : Int) := by omega
                  have b6 : (0 : Int) ≤ (m : Int) + 1 := by omega
                  have b7 : (m : Int) ≤ (m : Int) + 1 := by omega
                  have b8 : ((m : Int) + 1).toNat = m + 1 := by omega
                  have H1 := Lib.hid hlm1
                  have H2 := Lib.hid hlm2
                  have N1 := Lib.hid hn1
                  have N2 := Lib.hid hn2
                  have A1 := Lib.hid hal
                  have V1 := Lib.hid hvn
                  clear hn1 hn2 hal hvn
                  by_cases hcm1 : c = m + 1
                  · have hDROP : ∀ w1 : World, EdB w1 gd l → EdR w1 (gd + 1) (some ⟨gd, 0, none⟩) (l.drop (m + 1)) := fun w1 _ k hk => absurd hk (by rw [← hlm2]; omega)
                    clear hlm1 hlm2
                    go_wp2_with fail
                    go_region_law (first
                      | (refine step_append_ed rfl _ _ rfl wr.heap.size _ _ _ rfl hown0 (some ⟨gd, 0, none⟩) (l.take m) m _ _ H1.out rfl hE1 N1.out hb1 ?_; intro v1 w1 g1 g2 g3; have hk1 : Keeps noB wr w1 := ((Keeps.refl noB wr).alloc _).drew.own hown0 (Nat.le_refl _) g2; have hb2 := hk1.size; have hE3 := (hEx.keep hk1 (noB_not _)); clear g2 g3)
                      | (refine step_append_ed rfl _ _ rfl wr.heap.size _ _ _ rfl g1 _ (l.drop (m + 1)) (l.length - (m + 1)) _ _ H2.out rfl (hDROP w1 hE3) N2.out hb2 ?_; intro v2 w3 f1 f2 f3; have hk4 : Keeps noB wr w3 := hk1.own g1 (Nat.le_refl _) f2; clear f2 f3; obtain ⟨al, ga, cc, HA, rfl, hEE⟩ := row_two f1; have hV := victim_c al (A1.out al HA.out) ga cc w3 hEE; rw [V1.out al HA.out] at hV; simp only [vicV] at hV; clear f1)
                      | (go_simp; go_at_call 39; refine hV.mono ?_; rintro e w4 ⟨rfl, hk5⟩))
                    all_goals go_wp2_with fail
                    all_goals go_ret
                    all_goals exact ⟨rfl, (hkw3.trans_no hk4).trans_no hk5⟩
                  · have hDROP : ∀ w1 : World, EdB w1 gd l → EdR w1 (gd + 1) (some ⟨gd, (m + 1) * 2, none⟩) (l.drop (m + 1)) := fun w1 h => h.drop (Nat.lt_succ_self _) (m + 1)
                    clear hlm1 hlm2
                    go_wp2_with fail
                    go_region_law (first
                      | (refine step_append_ed rfl _ _ rfl wr.heap.size _ _ _ rfl hown0 (some ⟨gd, 0, none⟩) (l.take m) m _ _ H1.out rfl hE1 N1.out hb1 ?_; intro v1 w1 g1 g2 g3; have hk1 : Keeps noB wr w1 := ((Keeps.refl noB wr).alloc _).drew.own hown0 (Nat.le_refl _) g2; have hb2 := hk1.size; have hE3 := (hEx.keep hk1 (noB_not _)); clear g2 g3)
                      | (refine step_append_ed rfl _ _ rfl wr.heap.size _ _ _ rfl g1 _ (l.drop (m + 1)) (l.length - (m + 1)) _ _ H2.out rfl (hDROP w1 hE3) N2.out hb2 ?_; intro v2 w3 f1 f2 f3; have hk4 : Keeps noB wr w3 := hk1.own g1 (Nat.le_refl _) f2; clear f2 f3; obtain ⟨al, ga, cc, HA, rfl, hEE⟩ := row_two f1; have hV := victim_c al (A1.out al HA.out) ga cc w3 hEE; rw [V1.out al HA.out] at hV; simp only [vicV] at hV; clear f1)
                      | (go_simp; go_at_call 39; refine hV.mono ?_; rintro e w4 ⟨rfl, hk5⟩))
                    all_goals go_wp2_with fail
                    all_goals go_ret
                    all_goals exact ⟨rfl, (hkw3.trans_no hk4).trans_no hk5⟩
                · have hd3 : decide (ms < 0) = false := decide_eq_false hm0
                  have hd4 : decide (ms ≥ (l.length : Int)) = true := decide_eq_true (by omega)
                  go_wp2_with fail
                  go_ret
                  exact ⟨rfl, hkw3⟩
end Go.Proofs.Ytlpimkmkcfbddaa
