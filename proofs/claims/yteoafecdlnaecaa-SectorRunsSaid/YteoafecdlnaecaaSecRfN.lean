/- The reference's drive: New, Loose. No condition. -/
import Derived.Test.YteoafecdlnaecaaSecRfC
import Derived.Maps.AppendAt
namespace Go.Proofs.Yteoafecdlnaecaa
open Go.RowKit

theorem own_lower {w : World} {B B' e s n : Nat} {v : Value} {xs : List Value} (h : w.ownsRow B e s v n xs) (hB : B' ≤ B) : w.ownsRow B' e s v n xs := by
  obtain ⟨hl, h⟩ := h
  refine ⟨hl, ?_⟩
  rcases h with h | ⟨g, cap, cur, e1, hb, h⟩
  · exact .inl h
  · exact .inr ⟨g, cap, cur, e1, by omega, h⟩
set_option maxRecDepth 100000 in
set_option maxHeartbeats 16000000 in
theorem rloose_c {w : World} {D : Nat → Prop} {vN vS vL : Value} {n : Nat} {now st : Nat → List Int} {lo : Nat → Bool} (h : RdR w D vN vS vL n now st lo) (hn : n ≤ 6) :
    Calls Try.prog 24 #[.agg #[vN, vS, vL]] w fun e w' => ∃ v, RetK noB v w e w' ∧ OwnI w' w.heap.size v (looN lo n) := by
  obtain ⟨i0, hi, hz0, hz1, hz2⟩ := info_parts info3
  obtain ⟨a1, c1, a2, c2, a3, c3, rfl, rfl, rfl⟩ := h.slices
  have hkP : Keeps noB w (w.alloc (.cells #[.slice a1 n c1, .slice a2 n c2, .slice a3 n c3] 41)) := (Keeps.refl _ _).alloc _
  have hP := heap_alloc_new w (.cells #[.slice a1 n c1, .slice a2 n c2, .slice a3 n c3] 41)
  have hO : OwnI ((w.alloc (.cells #[.slice a1 n c1, .slice a2 n c2, .slice a3 n c3] 41)).alloc (.cells #[] 3)) (w.heap.size + 1) (.slice (some ⟨w.heap.size + 1, 0, none⟩) 0 0) (looN lo 0) := by
    refine ⟨rfl, .inr ⟨w.heap.size + 1, 0, #[], rfl, by omega, ?_, Nat.le_refl _, Nat.zero_le _, rfl, rfl⟩⟩
    rw [← alloc_size w (.cells #[.slice a1 n c1, .slice a2 n c2, .slice a3 n c3] 41)]
    exact heap_alloc_new _ _
  have H := Lib.hid h
  have HP := Lib.hid (And.intro hP (And.intro hkP hO))
  clear h hP hkP hO
  go_enter Try.func24, Try.ntmps24
  go_wp2_with fail
  go_loopw [3, 9] (fun v i wr => ∃ k : Nat, k ≤ n ∧ i = .int .i64 k ∧ Keeps noB (w.alloc (.cells #[.slice a1 n c1, .slice a2 n c2, .slice a3 n c3] 41)) wr ∧ OwnI wr (w.heap.size + 1) v (looN lo k))
    (fun _ i _ => n - (intOf i).toNat)
  case atStart => exact ⟨0, by omega, rfl, (Keeps.refl _ _).alloc _, HP.out.2.2⟩
  case round =>
    obtain ⟨k, hk, rfl, hkp, hown⟩ := hrel
    have hkw := HP.out.2.1.trans_no hkp
    have hsz := hkw.size
    have hsz2 := hkp.size
    rw [alloc_size] at hsz2
    by_cases hlt : k < n
    · have hle := looN_le lo k
      have hPr := hkp.blk HP.out.1 (noB_not _)
      have p2 := blk_cell hPr (i := 2) rfl
      have hR := (H.out.no hkw).2.2
      obtain ⟨a, c, e, hR⟩ := hR
      simp at e
      obtain ⟨rfl, rfl⟩ := e
      obtain ⟨g, off, rfl, _, _, hc⟩ := hR k hlt
      have g0 : (0 : Int) ≤ (k : Int) := by omega
      have g1 : (k : Int) < (n : Int) := by omega
      cases hlo : lo k
      · rw [hlo] at hc
        have hh : looN lo (k + 1) = looN lo k := by rw [looN, hlo, if_neg (by simp)]
        have HH := Lib.hid (And.intro hh (And.intro hkp hown))
        clear hh hkp hown hkw hR hPr hlo
        go_wp2_with fail
        go_roundw
        case rel => exact ⟨k + 1, by omega, by go_num, HH.out.2.1, by rw [HH.out.1]; exact HH.out.2.2⟩
        case measure => simp [intOf]; omega
      · rw [hlo] at hc
        have hh : looN lo (k + 1) = looN lo k ++ [(k : Int)] := by rw [looN, hlo, if_pos rfl]
        have HH := Lib.hid (And.intro hh hkp)
        have HO := Lib.hid hown
        clear hh hkw hR hPr hlo hkp
        go_wp2_with (at_builtin; refine wpList_append1 rfl _ _ 34 rfl (w.heap.size + 1) 3 i0 (.int .i64 0) 1 8 Try.underlying34 hi hz0 hz1 hz2 rfl (by decide) _ _ _ rfl (hown.alloc _) wr.heap.size 1 [.int .i64 k] 3 (0, 0) rfl (heap_alloc_new _ _) rfl rfl (by omega) (by decide) (by rw [alloc_size]; omega) ?_)
        intro v' w' h1 h2
        go_wp2_with fail
        go_roundw
        case rel =>
          refine ⟨k + 1, by omega, by go_num, HH.out.2.trans (((Keeps.refl (fun y => w.heap.size + 1 ≤ y) wr).alloc (.cells #[.int .i64 (k : Int)] 3)).grown h2 (fun y hy => ?_)) (fun y hy h => ?_), ?_⟩
          · exact .inr (HO.out.lt y hy).1
          · rw [alloc_size] at hy; omega
          · rw [HH.out.1]; unfold OwnI; simpa using h1
        case measure => simp [intOf]; omega
    · have : k = n := by omega
      subst this
      clear hkp
      have HH := Lib.hid (And.intro hkw hown)
      clear hkw hown
      go_wp2_with fail
      go_ret
      exact ⟨_, ⟨rfl, HH.out.1⟩, own_lower HH.out.2 (by omega)⟩
/-- 'append(out, x)' of one element; which block is the row's. -/
theorem wpList_append1x {w : World} {ops : Array Oper} {rest : List Oper} {o : Oper} {a : Act} {Q : Exit → Act → World → Prop} (hg : o.guard = none) (s x : Operand) (t : TypeId)
    (ho : o.op = Op.call { callee := Callee.builtin Builtin.append, args := #[s, x], argTypes := #[t, t] }) (base : Nat) (e : TypeId) (i : TypeInfo) (z : Value) (bytes : Nat)
    (ht : Try.prog.underlying t = some (TypeDesc.slice e)) (hi : Try.prog.info? e = some i) (hz0 : i.zero = some z) (hz1 : i.size = 1) (hz2 : i.bytes = bytes) (hzs : z.cells.size = 1)
    (v : Value) (n : Nat) (xs : List Value) (hv : a.eval s = v) (hown : w.ownsRow base e 1 v n xs) (g : Nat) (c : Nat) (u : Value) (e' : TypeId) (fr : Nat × Nat)
    (hx : a.eval x = Value.slice (some ⟨g, 0, none⟩) 1 c) (hu : w.heap[g]? = some (.cells #[u] e' fr)) (hone : u.oneCell' = true)
    (hn : n < 1000000) (hb : bytes ≤ 1000) (hbase : base ≤ w.heap.size)
    (h : ∀ (v' : Value) (w' : World), w'.ownsRow base e 1 v' (n + 1) (xs ++ [u]) → w.grownBy w' v.ownBlock → (v'.ownBlock = v.ownBlock ∨ v'.ownBlock = some w.heap.size) → wpList Try.prog ops Q rest (a.put o.dst v') w') : wpList Try.prog ops Q (o :: rest) a w := by
  refine wpList_plain hg fun K hK => ?_
  have hbb : (n + 1) * bytes ≤ 1000000 * 1000 := Nat.mul_le_mul (by omega) hb
  obtain ⟨v', w', hr, h1, h2, _, h5⟩ := run_append_own_at (P := Try.prog) w base t o.type e i z 1 bytes ht hi hz0 hz1 hz2 hzs (by decide) v n xs hown ⟨g, 0, none⟩ 1 c [u] rfl
    (fun j u' hj => by
      have hadd : (⟨g, 0, none⟩ : Addr).add j = ⟨g, j, none⟩ := by unfold Addr.add; split <;> simp_all
      rw [hadd]
      exact blk_cell hu (by simpa using hj))
    (fun u' hu' => by simp at hu'; rw [hu']; exact hone) (by unfold maxLen; omega) (by omega) hbase
  have hfin := h v' w' h1 h2 h5
  unfold Oper.wp execOp
  simp only [ho, resolve, invoke, builtin, Sem.run_bind, Sem.run_pure, Result.andThen_ok, List.map_toArray, List.map_cons, List.map_nil, hv, hx, hr]
  exact hK _ _ hfin
/-- The drive under way. -/
structure NwI (w wr : World) (kn ks kl : Nat) (vN vS vL : Value) : Prop where
  kp : Keeps noB w wr
  sz : w.heap.size + 2 ≤ wr.heap.size
  rn : ∃ xs, wr.ownsRow (w.heap.size + 2) 22 1 vN kn xs ∧ ∀ i, i < kn → ∃ a c, xs[i]? = some (.slice a 0 c)
  rs : ∃ xs, wr.ownsRow (w.heap.size + 2) 22 1 vS ks xs ∧ ∀ i, i < ks → ∃ a c, xs[i]? = some (.slice a 0 c)
  rl : ∃ xs, wr.ownsRow (w.heap.size + 2) 4 1 vL kl xs ∧ ∀ i, i < kl → xs[i]? = some (.bool false)
  ptr : wr.heap[w.heap.size + 1]? = some (.cells #[vN, vS, vL] 41 (0, 0))
  res : wr.heap[w.heap.size]? = some (.cells #[.slice none 0 0, .slice none 0 0, .slice none 0 0] 41 (0, 0))
  dis : ∀ y z, vN.ownBlock = some y → vS.ownBlock = some z → y ≠ z
theorem own_slice1 {w : World} {B e n : Nat} {v : Value} {xs : List Value} (h : w.ownsRow B e 1 v n xs) : ∃ a c, v = .slice a n c := by
  obtain ⟨_, h⟩ := h
  rcases h with ⟨rfl, rfl⟩ | ⟨g, cap, cur, rfl, _⟩
  · exact ⟨_, _, rfl⟩
  · exact ⟨_, _, rfl⟩
theorem own_type {w : World} {B e n y : Nat} {v : Value} {xs : List Value} (h : w.ownsRow B e 1 v n xs) (hy : v.ownBlock = some y) : ∃ cs, w.heap[y]? = some (.cells cs e (0, 0)) := by
  obtain ⟨_, h⟩ := h
  rcases h with ⟨rfl, _⟩ | ⟨g, cap, cur, rfl, _, hg, _⟩
  · simp [Value.ownBlock] at hy
  · simp [Value.ownBlock] at hy
    subst hy
    exact ⟨cur, hg⟩
theorem own_apart {w : World} {B B' e e' n n' : Nat} {v v' : Value} {xs xs' : List Value} (h : w.ownsRow B e 1 v n xs) (h' : w.ownsRow B' e' 1 v' n' xs') (he : e ≠ e') : ∀ y z, v.ownBlock = some y → v'.ownBlock = some z → y ≠ z := by
  intro y z hy hz hyz
  subst hyz
  obtain ⟨c1, g1⟩ := own_type h hy
  obtain ⟨c2, g2⟩ := own_type h' hz
  rw [g1] at g2
  simp at g2
  exact he g2.2
theorem snoc_at {xs : List Value} {k : Nat} {u : Value} (hl : xs.length = k * 1) {p : Value → Prop} (h : ∀ i, i < k → ∃ v, xs[i]? = some v ∧ p v) (hu : p u) : ∀ i, i < k + 1 → ∃ v, (xs ++ [u])[i]? = some v ∧ p v := by
  intro i hi
  by_cases e : i < k
  · obtain ⟨v, h1, h2⟩ := h i e
    exact ⟨v, by rw [List.getElem?_append_left (by omega)]; exact h1, h2⟩
  · exact ⟨u, by rw [List.getElem?_append_right (by omega), show i - xs.length = 0 by omega]; rfl, hu⟩
theorem NwI.pushN {w wr wA w' : World} {kn ks kl : Nat} {vN vS vL v' : Value} (h : NwI w wr kn ks kl vN vS vL) (hk : Keeps noB wr wA) (hg : wA.grownBy w' vN.ownBlock) (hob : v'.ownBlock = vN.ownBlock ∨ ∃ y, v'.ownBlock = some y ∧ wr.heap.size ≤ y) {xs : List Value} (hx : wr.ownsRow (w.heap.size + 2) 22 1 vN kn xs) (hx2 : ∀ i, i < kn → ∃ a c, xs[i]? = some (.slice a 0 c)) {a : Option Addr} {c : Nat}
    (hown : w'.ownsRow (w.heap.size + 2) 22 1 v' (kn + 1) (xs ++ [.slice a 0 c])) : NwI w (w'.setCell ⟨w.heap.size + 1, 0, none⟩ v') (kn + 1) ks kl v' vS vL := by
  obtain ⟨ys, s1, s2⟩ := h.rs
  obtain ⟨zs, l1, l2⟩ := h.rl
  have hkg : Keeps (fun y => vN.ownBlock = some y) wr w' := hk.of_no.grown hg (fun k hk => .inr hk)
  have hlo : ∀ y, vN.ownBlock = some y → w.heap.size + 2 ≤ y ∧ y < wr.heap.size := fun y hy => hx.lt y hy
  have hks : Keeps (oneB (w.heap.size + 1)) w' (w'.setCell ⟨w.heap.size + 1, 0, none⟩ v') := (Keeps.refl _ _).set1 _ _
  have hn1 : ∀ {e n : Nat} {v : Value} {xs : List Value} {W : World}, W.ownsRow (w.heap.size + 2) e 1 v n xs → ∀ y, v.ownBlock = some y → ¬ oneB (w.heap.size + 1) y := fun ho y hy e => by have := (ho.lt y hy).1; unfold oneB at e; omega
  have s3 := own_keep s1 hkg (fun y _ _ hy e => h.dis y y e hy rfl)
  have l3 := own_keep l1 hkg (fun y _ _ hy e => own_apart hx l1 (by decide) y y e hy rfl)
  have hptr := hkg.blk h.ptr (fun e => by have := (hlo _ e).1; omega)
  have hres := hkg.blk h.res (fun e => by have := (hlo _ e).1; omega)
  have hsz := hkg.size
  have hs0 := h.sz
  refine ⟨(h.kp.trans hkg (fun y hy e => by have := (hlo _ e).1; omega)).trans hks (fun y hy e => by unfold oneB at e; omega), by rw [setCell_size]; omega, ⟨_, own_keep hown hks (fun y _ _ hy => hn1 hown y hy), fun i hi => ?_⟩, ⟨ys, own_keep s3 hks (fun y _ _ hy => hn1 s3 y hy), s2⟩, ⟨zs, own_keep l3 hks (fun y _ _ hy => hn1 l3 y hy), l2⟩, heap_setCell_same _ _ _ _ hptr, hks.blk hres (by unfold oneB; omega), fun y z hy hz => ?_⟩
  · obtain ⟨v, e1, a1, c1, rfl⟩ := snoc_at (p := fun v => ∃ a c, v = .slice a 0 c) hx.1 (fun i hi => by obtain ⟨a, c, e⟩ := hx2 i hi; exact ⟨_, e, a, c, rfl⟩) ⟨a, c, rfl⟩ i hi
    exact ⟨a1, c1, e1⟩
  · rcases hob with e | ⟨x, e, hx3⟩
    · exact h.dis y z (e ▸ hy) hz
    · rw [e] at hy; simp at hy; have := (s1.lt z hz).2; omega
theorem NwI.pushS {w wr wA w' : World} {kn ks kl : Nat} {vN vS vL v' : Value} (h : NwI w wr kn ks kl vN vS vL) (hk : Keeps noB wr wA) (hg : wA.grownBy w' vS.ownBlock) (hob : v'.ownBlock = vS.ownBlock ∨ ∃ y, v'.ownBlock = some y ∧ wr.heap.size ≤ y) {xs : List Value} (hx : wr.ownsRow (w.heap.size + 2) 22 1 vS ks xs) (hx2 : ∀ i, i < ks → ∃ a c, xs[i]? = some (.slice a 0 c)) {a : Option Addr} {c : Nat}
    (hown : w'.ownsRow (w.heap.size + 2) 22 1 v' (ks + 1) (xs ++ [.slice a 0 c])) : NwI w (w'.setCell ⟨w.heap.size + 1, 1, none⟩ v') kn (ks + 1) kl vN v' vL := by
  obtain ⟨ys, s1, s2⟩ := h.rn
  obtain ⟨zs, l1, l2⟩ := h.rl
  have hkg : Keeps (fun y => vS.ownBlock = some y) wr w' := hk.of_no.grown hg (fun k hk => .inr hk)
  have hlo : ∀ y, vS.ownBlock = some y → w.heap.size + 2 ≤ y ∧ y < wr.heap.size := fun y hy => hx.lt y hy
  have hks : Keeps (oneB (w.heap.size + 1)) w' (w'.setCell ⟨w.heap.size + 1, 1, none⟩ v') := (Keeps.refl _ _).set1 _ _
  have hn1 : ∀ {e n : Nat} {v : Value} {xs : List Value} {W : World}, W.ownsRow (w.heap.size + 2) e 1 v n xs → ∀ y, v.ownBlock = some y → ¬ oneB (w.heap.size + 1) y := fun ho y hy e => by have := (ho.lt y hy).1; unfold oneB at e; omega
  have s3 := own_keep s1 hkg (fun y _ _ hy e => h.dis y y hy e rfl)
  have l3 := own_keep l1 hkg (fun y _ _ hy e => own_apart hx l1 (by decide) y y e hy rfl)
  have hptr := hkg.blk h.ptr (fun e => by have := (hlo _ e).1; omega)
  have hres := hkg.blk h.res (fun e => by have := (hlo _ e).1; omega)
  have hsz := hkg.size
  have hs0 := h.sz
  refine ⟨(h.kp.trans hkg (fun y hy e => by have := (hlo _ e).1; omega)).trans hks (fun y hy e => by unfold oneB at e; omega), by rw [setCell_size]; omega, ⟨ys, own_keep s3 hks (fun y _ _ hy => hn1 s3 y hy), s2⟩, ⟨_, own_keep hown hks (fun y _ _ hy => hn1 hown y hy), fun i hi => ?_⟩, ⟨zs, own_keep l3 hks (fun y _ _ hy => hn1 l3 y hy), l2⟩, heap_setCell_same _ _ _ _ hptr, hks.blk hres (by unfold oneB; omega), fun y z hy hz => ?_⟩
  · obtain ⟨v, e1, a1, c1, rfl⟩ := snoc_at (p := fun v => ∃ a c, v = .slice a 0 c) hx.1 (fun i hi => by obtain ⟨a, c, e⟩ := hx2 i hi; exact ⟨_, e, a, c, rfl⟩) ⟨a, c, rfl⟩ i hi
    exact ⟨a1, c1, e1⟩
  · rcases hob with e | ⟨x, e, hx3⟩
    · exact h.dis y z hy (e ▸ hz)
    · rw [e] at hz; simp at hz; have := (s1.lt y hy).2; omega
theorem NwI.pushL {w wr wA w' : World} {kn ks kl : Nat} {vN vS vL v' : Value} (h : NwI w wr kn ks kl vN vS vL) (hk : Keeps noB wr wA) (hg : wA.grownBy w' vL.ownBlock) {xs : List Value} (hx : wr.ownsRow (w.heap.size + 2) 4 1 vL kl xs) (hx2 : ∀ i, i < kl → xs[i]? = some (.bool false))
    (hown : w'.ownsRow (w.heap.size + 2) 4 1 v' (kl + 1) (xs ++ [.bool false])) : NwI w (w'.setCell ⟨w.heap.size + 1, 2, none⟩ v') kn ks (kl + 1) vN vS v' := by
  obtain ⟨ys, s1, s2⟩ := h.rn
  obtain ⟨zs, l1, l2⟩ := h.rs
  have hkg : Keeps (fun y => vL.ownBlock = some y) wr w' := hk.of_no.grown hg (fun k hk => .inr hk)
  have hlo : ∀ y, vL.ownBlock = some y → w.heap.size + 2 ≤ y ∧ y < wr.heap.size := fun y hy => hx.lt y hy
  have hks : Keeps (oneB (w.heap.size + 1)) w' (w'.setCell ⟨w.heap.size + 1, 2, none⟩ v') := (Keeps.refl _ _).set1 _ _
  have hn1 : ∀ {e n : Nat} {v : Value} {xs : List Value} {W : World}, W.ownsRow (w.heap.size + 2) e 1 v n xs → ∀ y, v.ownBlock = some y → ¬ oneB (w.heap.size + 1) y := fun ho y hy e => by have := (ho.lt y hy).1; unfold oneB at e; omega
  have s3 := own_keep s1 hkg (fun y _ _ hy e => own_apart s1 hx (by decide) y y hy e rfl)
  have l3 := own_keep l1 hkg (fun y _ _ hy e => own_apart l1 hx (by decide) y y hy e rfl)
  have hptr := hkg.blk h.ptr (fun e => by have := (hlo _ e).1; omega)
  have hres := hkg.blk h.res (fun e => by have := (hlo _ e).1; omega)
  have hsz := hkg.size
  have hs0 := h.sz
  refine ⟨(h.kp.trans hkg (fun y hy e => by have := (hlo _ e).1; omega)).trans hks (fun y hy e => by unfold oneB at e; omega), by rw [setCell_size]; omega, ⟨ys, own_keep s3 hks (fun y _ _ hy => hn1 s3 y hy), s2⟩, ⟨zs, own_keep l3 hks (fun y _ _ hy => hn1 l3 y hy), l2⟩, ⟨_, own_keep hown hks (fun y _ _ hy => hn1 hown y hy), fun i hi => ?_⟩, heap_setCell_same _ _ _ _ hptr, hks.blk hres (by unfold oneB; omega), h.dis⟩
  obtain ⟨v, e1, rfl⟩ := snoc_at (p := fun v => v = .bool false) hx.1 (fun i hi => ⟨_, hx2 i hi, rfl⟩) rfl i hi
  exact e1
set_option maxRecDepth 100000 in
set_option maxHeartbeats 16000000 in
theorem rnew_c (many : Int) (w : World) :
    Calls Try.prog 16 #[.int .i64 many] w fun e w' => ∃ uN uS uL, RetK noB (.agg #[uN, uS, uL]) w e w' ∧ RdR w' (fun y => w.heap.size ≤ y ∧ y < w'.heap.size) uN uS uL (newN many) noBy noBy noLo := by
  obtain ⟨i1, hi, hz0, hz1, hz2⟩ := info_parts info22
  obtain ⟨i2, hj, hy0, hy1, hy2⟩ := info_parts info4
  have hI0 : NwI w ((w.alloc (.cells #[.slice none 0 0, .slice none 0 0, .slice none 0 0] 41)).alloc (.cells #[.slice none 0 0, .slice none 0 0, .slice none 0 0] 41)) 0 0 0 (.slice none 0 0) (.slice none 0 0) (.slice none 0 0) :=
    ⟨((Keeps.refl _ _).alloc _).alloc _, by rw [alloc_size, alloc_size]; exact Nat.le_refl _, ⟨[], World.ownsRow_nil _ _ _ _, fun i hi => by omega⟩, ⟨[], World.ownsRow_nil _ _ _ _, fun i hi => by omega⟩, ⟨[], World.ownsRow_nil _ _ _ _, fun i hi => by omega⟩, heap_alloc2_new _ _ _, heap_alloc2_old _ _ _, fun y z hy => by simp [Value.ownBlock] at hy⟩
  have HI0 := Lib.hid hI0
  clear hI0
  have hn6 : newN many ≤ 6 := by unfold newN; split; omega; split <;> omega
  go_enter Try.func16, Try.ntmps16
  go_wp2_with fail
  go_loopw [4] (fun i wr => ∃ k : Nat, k ≤ newN many ∧ i = .int .i64 k ∧ ∃ vN vS vL, NwI w wr k k k vN vS vL)
    (fun i _ => 6 - (intOf i).toNat)
  case atStart => exact ⟨0, by omega, rfl, _, _, _, HI0.out⟩
  case round =>
    clear HI0
    obtain ⟨k, hk, rfl, vN, vS, vL, hI⟩ := hrel
    obtain ⟨xs, n1, n2⟩ := hI.rn
    obtain ⟨an, cn, rfl⟩ := own_slice1 n1
    by_cases hlt : k < newN many
    · have hkm : (k : Int) < 6 ∧ (k : Int) < many := by unfold newN at hlt; split at hlt <;> (try split at hlt) <;> omega
      obtain ⟨m1, m2⟩ := hkm
      have d1 : decide ((k : Int) < 6) = true := decide_eq_true m1
      have d2 : decide ((k : Int) < many) = true := decide_eq_true m2
      clear hlt
      have hkA : Keeps noB wr ((wr.alloc (.cells #[] 5)).alloc (.cells #[.slice (some ⟨wr.heap.size, 0, none⟩) 0 0] 22)) := ((Keeps.refl _ _).alloc _).alloc _
      have q0 := blk_cell hI.ptr (i := 0) rfl
      have hs0 := hI.sz
      have hoA := own_keep_no n1 hkA
      have hXA : ((wr.alloc (.cells #[] 5)).alloc (.cells #[.slice (some ⟨wr.heap.size, 0, none⟩) 0 0] 22)).heap[wr.heap.size + 1]? = some (.cells #[.slice (some ⟨wr.heap.size, 0, none⟩) 0 0] 22 (0, 0)) := heap_alloc2_new _ _ _
      have hszA : w.heap.size + 2 ≤ ((wr.alloc (.cells #[] 5)).alloc (.cells #[.slice (some ⟨wr.heap.size, 0, none⟩) 0 0] 22)).heap.size := by rw [alloc_size, alloc_size]; omega
      have HI := Lib.hid (And.intro hI (And.intro hkA (And.intro n1 n2)))
      clear hI hkA n1 n2
      go_wp2_with (at_builtin; refine wpList_append1x rfl _ _ 38 rfl (w.heap.size + 2) 22 i1 (.slice none 0 0) 24 Try.underlying38 hi hz0 hz1 hz2 rfl _ k xs rfl hoA (wr.heap.size + 1) 1 (.slice (some ⟨wr.heap.size, 0, none⟩) 0 0) 22 (0, 0) rfl hXA rfl (by omega) (by decide) hszA ?_)
      intro vN' w1 h1 h2 h5
      obtain ⟨an', cn', rfl⟩ := own_slice1 h1
      have hI1 := HI.out.1.pushN HI.out.2.1 h2 (h5.imp id (fun e => ⟨_, e, by first | omega | (rw [alloc_size, alloc_size]; omega)⟩)) HI.out.2.2.1 HI.out.2.2.2 h1
      have hkg1 : Keeps (fun y => (Value.slice an k cn).ownBlock = some y) wr w1 := HI.out.2.1.of_no.grown h2 (fun k hk => .inr hk)
      have hP1 := hkg1.blk HI.out.1.ptr (fun e => by have := (HI.out.2.2.1.lt _ e).1; omega)
      have z0 := blk_cell hP1 (i := 0) rfl
      have f0 := blk_free hP1 0
      have HI1 := Lib.hid hI1
      clear hI1 hkg1 hP1 h1 h2 h5 hoA hXA hszA q0 HI
      go_upto_region 6 with fail
      obtain ⟨xs2, s1, s2⟩ := HI1.out.rs
      obtain ⟨az, cs, rfl⟩ := own_slice1 s1
      generalize w1.setCell ⟨w.heap.size + 1, 0, none⟩ (.slice an' (k + 1) cn') = wb at *
      clear z0 f0
      have hkA : Keeps noB wb ((wb.alloc (.cells #[] 5)).alloc (.cells #[.slice (some ⟨wb.heap.size, 0, none⟩) 0 0] 22)) := ((Keeps.refl _ _).alloc _).alloc _
      have q1 := blk_cell HI1.out.ptr (i := 1) rfl
      have hs1 := HI1.out.sz
      have hoA := own_keep_no s1 hkA
      have hXA : ((wb.alloc (.cells #[] 5)).alloc (.cells #[.slice (some ⟨wb.heap.size, 0, none⟩) 0 0] 22)).heap[wb.heap.size + 1]? = some (.cells #[.slice (some ⟨wb.heap.size, 0, none⟩) 0 0] 22 (0, 0)) := heap_alloc2_new _ _ _
      have hszA : w.heap.size + 2 ≤ ((wb.alloc (.cells #[] 5)).alloc (.cells #[.slice (some ⟨wb.heap.size, 0, none⟩) 0 0] 22)).heap.size := by rw [alloc_size, alloc_size]; omega
      have HI := Lib.hid (And.intro hkA (And.intro s1 s2))
      clear hkA s1 s2
      go_wp2_with (at_builtin; refine wpList_append1x rfl _ _ 38 rfl (w.heap.size + 2) 22 i1 (.slice none 0 0) 24 Try.underlying38 hi hz0 hz1 hz2 rfl _ k xs2 rfl hoA (wb.heap.size + 1) 1 (.slice (some ⟨wb.heap.size, 0, none⟩) 0 0) 22 (0, 0) rfl hXA rfl (by omega) (by decide) hszA ?_)
      intro vS' w2 h1 h2 h5
      obtain ⟨az', cs', rfl⟩ := own_slice1 h1
      have hI2 := HI1.out.pushS HI.out.1 h2 (h5.imp id (fun e => ⟨_, e, by first | omega | (rw [alloc_size, alloc_size]; omega)⟩)) HI.out.2.1 HI.out.2.2 h1
      have hkg1 : Keeps (fun y => (Value.slice az k cs).ownBlock = some y) wb w2 := HI.out.1.of_no.grown h2 (fun k hk => .inr hk)
      have hP1 := hkg1.blk HI1.out.ptr (fun e => by have := (HI.out.2.1.lt _ e).1; omega)
      have z0 := blk_cell hP1 (i := 1) rfl
      have f0 := blk_free hP1 1
      have HI2 := Lib.hid hI2
      clear hI2 hkg1 hP1 h1 h2 h5 hoA hXA hszA q1 HI
      go_upto_region 7 with fail
      obtain ⟨xs3, l1, l2⟩ := HI2.out.rl
      obtain ⟨al, cl, rfl⟩ := own_slice1 l1
      generalize w2.setCell ⟨w.heap.size + 1, 1, none⟩ (.slice az' (k + 1) cs') = wc at *
      clear z0 f0
      have hkA : Keeps noB wc (wc.alloc (.cells #[.bool false] 4)) := (Keeps.refl _ _).alloc _
      have q2 := blk_cell HI2.out.ptr (i := 2) rfl
      have hs2 := HI2.out.sz
      have hoA := own_keep_no l1 hkA
      have hXA := heap_alloc_new wc (.cells #[.bool false] 4)
      have hszA : w.heap.size + 2 ≤ (wc.alloc (.cells #[.bool false] 4)).heap.size := by rw [alloc_size]; omega
      have HI := Lib.hid (And.intro hkA (And.intro l1 l2))
      clear hkA l1 l2
      go_wp2_with (at_builtin; refine wpList_append1x rfl _ _ 39 rfl (w.heap.size + 2) 4 i2 (.bool false) 1 Try.underlying39 hj hy0 hy1 hy2 rfl _ k xs3 rfl hoA wc.heap.size 1 (.bool false) 4 (0, 0) rfl hXA rfl (by omega) (by decide) hszA ?_)
      intro vL' w3 h1 h2 h5
      obtain ⟨al', cl', rfl⟩ := own_slice1 h1
      have hI3 := HI2.out.pushL HI.out.1 h2 HI.out.2.1 HI.out.2.2 h1
      have hkg1 : Keeps (fun y => (Value.slice al k cl).ownBlock = some y) wc w3 := HI.out.1.of_no.grown h2 (fun k hk => .inr hk)
      have hP1 := hkg1.blk HI2.out.ptr (fun e => by have := (HI.out.2.1.lt _ e).1; omega)
      have z0 := blk_cell hP1 (i := 2) rfl
      have f0 := blk_free hP1 2
      have HI3 := Lib.hid hI3
      clear hI3 hkg1 hP1 h1 h2 h5 hoA hXA hszA q2 HI
      go_wp2_with fail
      go_roundw
      case rel => exact ⟨k + 1, by unfold newN; split <;> (try split) <;> omega, by go_num, _, _, _, HI3.out⟩
      case measure => simp [intOf]; omega
    · have hke : k = newN many := by omega
      have hst : decide ((k : Int) < 6) = false ∨ (decide ((k : Int) < 6) = true ∧ decide ((k : Int) < many) = false) := by
        by_cases h6 : k < 6
        · exact .inr ⟨decide_eq_true (by omega), decide_eq_false (by unfold newN at hke; split at hke <;> (try split at hke) <;> omega)⟩
        · exact .inl (decide_eq_false (by omega))
      obtain ⟨ys, s1, s2⟩ := hI.rs
      obtain ⟨zs, l1, l2⟩ := hI.rl
      obtain ⟨az, cs, rfl⟩ := own_slice1 s1
      obtain ⟨al, cl, rfl⟩ := own_slice1 l1
      have hPE := hI.ptr
      have hZE := hI.res
      have hk6 : Keeps (oneB w.heap.size) wr (wr.setRow w.heap.size #[.slice an k cn, .slice az k cs, .slice al k cl]) := (Keeps.refl _ _).setRow _ _ (.inl rfl)
      have HH := Lib.hid (And.intro hI (And.intro n1 (And.intro n2 (And.intro s1 (And.intro s2 (And.intro l1 (And.intro l2 (And.intro hk6 hke))))))))
      clear hI n1 n2 s1 s2 l1 l2 hk6 hke hlt hn6
      rcases hst with d1 | ⟨d1, d2⟩
      all_goals
        go_wp2_with (first | with_reducible refine wpList_load_row rfl 41 _ rfl (w.heap.size + 1) rfl 41 _ (0, 0) _ hPE Try.underlying41 rfl (by kernel_rfl) ?_ | with_reducible refine wpList_store_row rfl 41 _ _ rfl w.heap.size #[.slice an k cn, .slice az k cs, .slice al k cl] rfl rfl 41 _ hZE (by kernel_rfl) rfl (by kernel_rfl) ?_)
        refine bodyPost_ret (results_cell_row (fn := Try.f16) Try.results16 _ _ w.heap.size 41 _ (0, 0) _ rfl (setRow_heap _ _ _ _ _ _ hZE) Try.underlying41 rfl (by kernel_rfl)) rfl ?_
        obtain ⟨hI, n1, n2, s1, s2, l1, l2, hk6, hke⟩ := HH.out
        rw [← hke]
        have hno : ∀ {e n : Nat} {v : Value} {xs : List Value}, wr.ownsRow (w.heap.size + 2) e 1 v n xs → ∀ y, v.ownBlock = some y → ¬ oneB w.heap.size y := fun ho y hy e => by have := (ho.lt y hy).1; unfold oneB at e; omega
        have n3 := own_keep n1 hk6 (fun y _ _ hy => hno n1 y hy)
        have s3 := own_keep s1 hk6 (fun y _ _ hy => hno s1 y hy)
        have l3 := own_keep l1 hk6 (fun y _ _ hy => hno l1 y hy)
        have hx1 := n1.1
        have hx2 := s1.1
        have hx3 := l1.1
        have hE : ∀ {e : TypeId} {v : Value} {xs : List Value}, xs.length = k * 1 → (wr.setRow w.heap.size #[.slice an k cn, .slice az k cs, .slice al k cl]).ownsRow (w.heap.size + 2) e 1 v k xs → OwE (wr.setRow w.heap.size #[.slice an k cn, .slice az k cs, .slice al k cl]) (w.heap.size + 2) e v xs := fun hl ho => .inl (by rw [hl, Nat.mul_one]; exact ho)
        refine ⟨_, _, _, ⟨rfl, hI.kp.trans hk6 (fun y hy e => by unfold oneB at e; omega)⟩, ((hE hx1 n3).rowR (D := noB) (T := noBy) ⟨by omega, fun i hi => ?_⟩).mono (fun b hlt hb => ?_), ((hE hx2 s3).rowR (D := noB) (T := noBy) ⟨by omega, fun i hi => ?_⟩).mono (fun b hlt hb => ?_), ((hE hx3 l3).blR (D := noB) (by omega) l2).mono (fun b hlt hb => ?_)⟩
        · obtain ⟨a, c, e⟩ := n2 i hi; exact ⟨a, c, e, fun j hj => absurd hj (by simp [noBy]), by simp [noBy]⟩
        · rcases hb with hb | hb
          · exact hb.elim
          · exact ⟨by omega, hlt⟩
        · obtain ⟨a, c, e⟩ := s2 i hi; exact ⟨a, c, e, fun j hj => absurd hj (by simp [noBy]), by simp [noBy]⟩
        · rcases hb with hb | hb
          · exact hb.elim
          · exact ⟨by omega, hlt⟩
        · rcases hb with hb | hb
          · exact hb.elim
          · exact ⟨by omega, hlt⟩
end Go.Proofs.Yteoafecdlnaecaa
