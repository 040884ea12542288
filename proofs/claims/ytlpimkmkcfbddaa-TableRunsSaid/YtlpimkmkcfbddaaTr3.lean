/- The document's table: what is free; who is alone. No condition. -/
import Derived.Test.YtlpimkmkcfbddaaTr2
namespace Go.Proofs.Ytlpimkmkcfbddaa
open Go.RowKit

theorem bcells_set (x : BitVec 4) (k : Nat) (b : Bool) (h : k < 4) : (bcells x).setIfInBounds k (.bool b) = bcells (sb x k b) := by
  have e : ∀ j, j < 4 → bt (sb x k b) j = if j = k then b else bt x j := fun j hj => by
    by_cases hjk : j = k
    · subst hjk; rw [if_pos rfl]; exact sb_same x b j hj
    · rw [if_neg hjk]; exact sb_ne x b k h j hj hjk
  unfold bcells
  rw [e 0 (by omega), e 1 (by omega), e 2 (by omega), e 3 (by omega)]
  rcases (show k = 0 ∨ k = 1 ∨ k = 2 ∨ k = 3 by omega) with rfl | rfl | rfl | rfl <;> simp
theorem holdN_nil (T : TB) {c p j : Nat} : ((T.holdN c p j false 4).length = 0) ↔ (T.oO c p).getLsbD j = false := by
  constructor
  · intro h
    cases e : (T.oO c p).getLsbD j
    · rfl
    · obtain ⟨k, h1, h2, h3⟩ := (oth_bit _ _ _ _ 4).1 e
      have : ((k : Nat) : Int) ∈ T.holdN c p j false 4 := (holdN_mem T c p j false 4 k).2 ⟨k, rfl, h1, h2, h3⟩
      rw [List.length_eq_zero_iff.1 h] at this
      exact absurd this (by simp)
  · intro h
    rw [List.length_eq_zero_iff]
    apply List.eq_nil_iff_forall_not_mem.2
    intro x hx
    obtain ⟨k, h1, h2, h3, h4⟩ := (holdN_mem T c p j false 4 x).1 hx
    have := (oth_bit T.ow c p j 4).2 ⟨k, h2, h3, h4⟩
    unfold TB.oO at h
    rw [h] at this
    cases this
theorem bt_not : ∀ (x : BitVec 4) (k : Nat), k < 4 → bt (~~~x) k = !(bt x k) := by decide +kernel
theorem holders_own (T : TB) {a q k : Nat} (ha : a < 4) (hq : q < 6) (hk : k < 4) : (((T.holders a q k false).length : Int) == 0) = bt (~~~(T.oO a q)) k := by
  rw [TB.holders_nat T ha hq hk, bt_not _ _ hk]
  cases e : bt (T.oO a q) k
  · have := (holdN_nil T (c := a) (p := q) (j := k)).2 e
    rw [this]; rfl
  · have h : ¬ ((T.holdN a q k false 4).length = 0) := fun h => by
      have := (holdN_nil T (c := a) (p := q) (j := k)).1 h
      rw [show (T.oO a q).getLsbD k = bt (T.oO a q) k from rfl, e] at this
      cases this
    simp
    exact fun h2 => h (by rw [h2]; rfl)
set_option maxRecDepth 100000 in
set_option maxHeartbeats 4000000 in
theorem free_r (c p : Int) (T : TB) (w : World) : Calls Try.prog 35 #[.agg (rcells T), .int .i64 c, .int .i64 p] w (RetK noB (.int .i64 (mv (T.free c p))) w) := by
  have hk0 : Keeps noB w (w.alloc (.cells (rcells T) 46)) := (Keeps.refl _ _).alloc _
  cases h : inT c p
  · have hr : T.free c p = 0#4 := by unfold TB.free; rw [h]; rfl
    have HR := Lib.hid (And.intro hr hk0)
    clear hr hk0
    go_enter Try.func35, Try.ntmps35
    go_wp2_with (go_at_call 81; refine (in_r _ _ _).mono ?_; rintro e w' ⟨rfl, rfl⟩; try rw [h])
    go_ret
    exact ⟨by rw [HR.out.1]; rfl, HR.out.2⟩
  · obtain ⟨a, q, rfl, rfl, ha, hq⟩ := inT_open h
    have hr : T.free a q = ~~~(T.oO a q) := by unfold TB.free; rw [h]; rfl
    rw [hr]
    obtain ⟨X, hX⟩ : ∃ X, X = ~~~(T.oO a q) := ⟨_, rfl⟩
    have hH : ∀ k : Nat, k < 4 → (((T.holders a q k false).length : Int) == 0) = bt X k := fun k hk => by rw [hX]; exact holders_own T ha hq hk
    rw [← hX]
    have hA0 : (w.alloc (.cells (rcells T) 46)).heap[w.heap.size]? = some (.cells (rcells T) 46 (0, 0)) := heap_alloc_new _ _
    have hs0 : (w.alloc (.cells (rcells T) 46)).heap.size = w.heap.size + 1 := alloc_size _ _
    have hB0 : ((w.alloc (.cells (rcells T) 46)).alloc (.cells #[.bool false, .bool false, .bool false, .bool false] 42)).heap[w.heap.size + 1]? = some (.cells (bcells (mix 0 0#4 X)) 42 (0, 0)) := by rw [← hs0, mix_0]; exact heap_alloc_new _ _
    have H0 := Lib.hid (And.intro (hk0.alloc (.cells #[.bool false, .bool false, .bool false, .bool false] 42)) (And.intro (((Keeps.refl noB _).alloc (.cells #[.bool false, .bool false, .bool false, .bool false] 42)).blk hA0 (noB_not _)) hB0))
    have HH := Lib.hid hH
    clear hr hX hH hA0 hs0 hB0 hk0
    go_enter Try.func35, Try.ntmps35
    go_wp2_with (go_at_call 81; refine (in_r _ _ _).mono ?_; rintro e w' ⟨rfl, rfl⟩; try rw [h])
    go_loopw [8] (fun i wd => ∃ k : Nat, k ≤ 4 ∧ i = .int .i64 k ∧ Keeps noB w wd ∧ RtAt wd w.heap.size T ∧ wd.heap[w.heap.size + 1]? = some (.cells (bcells (mix k 0#4 X)) 42 (0, 0)))
      (fun i _ => 4 - (intOf i).toNat)
    case atStart => exact ⟨0, by omega, rfl, H0.out.1, H0.out.2.1, H0.out.2.2⟩
    case round =>
      obtain ⟨k, hk, rfl, hkp, hR, hL⟩ := hrel
      by_cases hlt4 : k < 4
      · have hR' : wr.heap[w.heap.size]? = some (.cells (rcells T) 46 (0, 0)) := hR
        have HL := Lib.hid (And.intro hL (And.intro hkp hR))
        clear hL hR
        go_wp2_with (first | (with_reducible refine wpList_load_row rfl 46 _ rfl w.heap.size rfl 46 _ (0,0) _ hR' Try.underlying46 rfl (info46' T) ?_) | (go_at_call 38; refine (holders_r _ _ _ _ T _).mono ?_; rintro e w1 ⟨v1, ⟨rfl, hk1⟩, ho1⟩; obtain ⟨a1, c1, rfl⟩ := OwnN.slice ho1; have hlen := HH.out k hlt4; obtain ⟨ln, hln⟩ : ∃ n, n = (T.holders a q k false).length := ⟨_, rfl⟩; rw [← hln] at hlen; rw [← hln]; have hL1 := hk1.blk HL.out.1 (noB_not _); have z1 := blk_cell hL1 (bcells_at _ hlt4); have f1 := blk_free hL1 k; have H1 := Lib.hid (And.intro hk1 hL1); clear ho1 hk1 hL1 hR' hln))
        refine ⟨⟨k + 1, by omega, by go_num, (HL.out.2.1.trans_no H1.out.1).setCell _ _ (.inr (by show w.heap.size ≤ w.heap.size + 1; omega)), ((Keeps.refl (oneB (w.heap.size + 1)) w1).set1 k _).blk (H1.out.1.blk HL.out.2.2 (noB_not _)) (fun e => by unfold oneB at e; omega), ?_⟩, by simp [intOf]; omega⟩
        rw [heap_setCell_same _ _ _ _ H1.out.2, bcells_set _ _ _ hlt4, mix_put _ _ _ hlt4]
      · have hk4 : k = 4 := by omega
        subst hk4
        rw [mix_4] at hL
        have c0 := blk_cell hL (bcells_at X (i := 0) (by omega))
        have c1 := blk_cell hL (bcells_at X (i := 1) (by omega))
        have c2 := blk_cell hL (bcells_at X (i := 2) (by omega))
        have c3 := blk_cell hL (bcells_at X (i := 3) (by omega))
        have hM := mask_r X wr
        unfold bcells at hM
        have HM := Lib.hid (And.intro hM hkp)
        clear hM hkp hL
        go_wp2_with (go_at_call 82; refine HM.out.1.mono ?_; rintro e w' ⟨rfl, hk1⟩)
        go_ret
        exact ⟨rfl, HM.out.2.trans_no hk1⟩
theorem bt_zero : ∀ x : BitVec 4, (∀ k, k < 4 → bt x k = false) → x = 0#4 := by decide +kernel
theorem alone_f {T : TB} {a q k : Nat} (ha : a < 4) (hq : q < 6) (hk : k < 4) (h : (T.holders a q k true).length ≠ 0) : T.alone a q = false := by
  have hb : (T.oC a q).getLsbD k = true := by
    cases e : (T.oC a q).getLsbD k
    · exact absurd ((TB.holders_nil T ha hq hk).2 e) h
    · rfl
  unfold TB.alone
  rw [inT_nat ha hq]
  simp only [Int.toNat_natCast, Bool.true_and]
  have h0 : (T.oC a q == 0#4) = false := by
    cases e : (T.oC a q == 0#4)
    · rfl
    · rw [beq_iff_eq.1 e] at hb; simp at hb
  rw [h0]; rfl
theorem alone_t {T : TB} (hT : T.Inv) {a q : Nat} (ha : a < 4) (hq : q < 6) (h : ∀ k : Nat, k < 4 → (T.holders a q k true).length = 0) : T.alone a q = true := by
  have hc : T.oC a q = 0#4 := bt_zero _ (fun k hk => (TB.holders_nil T ha hq hk).1 (h k hk))
  have ho : T.oO a q = 0#4 := bt_zero _ (fun k hk => by
    cases e : bt (T.oO a q) k
    · rfl
    · obtain ⟨d, h1, h2, h3⟩ := (oth_bit _ _ _ _ 4).1 e
      have h4 := sub_bit _ _ (hT.1 d q) k hk h3
      have h5 : (T.oC a q).getLsbD k = true := (oth_bit _ _ _ _ 4).2 ⟨d, h1, h2, h4⟩
      rw [hc] at h5; simp at h5)
  unfold TB.alone
  rw [inT_nat ha hq]
  simp only [Int.toNat_natCast, Bool.true_and]
  rw [hc, ho]; rfl
set_option maxRecDepth 100000 in
set_option maxHeartbeats 4000000 in
theorem alone_r (c p : Int) (T : TB) (hT : T.Inv) (w : World) : Calls Try.prog 36 #[.agg (rcells T), .int .i64 c, .int .i64 p] w (RetK noB (.bool (T.alone c p)) w) := by
  have hk0 : Keeps noB w (w.alloc (.cells (rcells T) 46)) := (Keeps.refl _ _).alloc _
  have hT' := Lib.hid hT
  clear hT
  cases h : inT c p
  · have hr : T.alone c p = false := by unfold TB.alone; rw [h]; rfl
    have HR := Lib.hid (And.intro hr hk0)
    clear hr hk0
    go_enter Try.func36, Try.ntmps36
    go_wp2_with (go_at_call 81; refine (in_r _ _ _).mono ?_; rintro e w' ⟨rfl, rfl⟩; try rw [h])
    go_ret
    exact ⟨by rw [HR.out.1]; rfl, HR.out.2⟩
  · obtain ⟨a, q, rfl, rfl, ha, hq⟩ := inT_open h
    have hA0 : (w.alloc (.cells (rcells T) 46)).heap[w.heap.size]? = some (.cells (rcells T) 46 (0, 0)) := heap_alloc_new _ _
    have H0 := Lib.hid (And.intro hk0 hA0)
    obtain ⟨res, hres⟩ : ∃ b, b = T.alone a q := ⟨_, rfl⟩
    rw [← hres]
    have HE := Lib.hid hres
    clear hk0 hA0 hres
    go_enter Try.func36, Try.ntmps36
    go_wp2_with (go_at_call 81; refine (in_r _ _ _).mono ?_; rintro e w' ⟨rfl, rfl⟩; try rw [h])
    go_loopw [7] (fun i wd => ∃ k : Nat, k ≤ 4 ∧ i = .int .i64 k ∧ Keeps noB w wd ∧ RtAt wd w.heap.size T ∧ ∀ j, j < k → (T.holders a q j true).length = 0)
      (fun i _ => 4 - (intOf i).toNat)
    case atStart => exact ⟨0, by omega, rfl, H0.out.1, H0.out.2, fun j hj => by omega⟩
    case round =>
      obtain ⟨k, hk, rfl, hkp, hR, hall⟩ := hrel
      have HAL := Lib.hid hall
      clear hall
      by_cases hlt4 : k < 4
      · have hR' : wr.heap[w.heap.size]? = some (.cells (rcells T) 46 (0, 0)) := hR
        have HL := Lib.hid (And.intro hkp hR)
        clear hR
        obtain ⟨ln, hln⟩ : ∃ n, n = (T.holders a q k true).length := ⟨_, rfl⟩
        have HLN := Lib.hid hln
        clear hln
        by_cases hz : ln = 0
        · have hd : decide ((ln : Int) > 0) = false := decide_eq_false (by omega)
          have hd2 : decide ((0 : Int) < ln) = false := decide_eq_false (by omega)
          have hd3 : decide (0 < ln) = false := decide_eq_false (by omega)
          have HZ := Lib.hid hz
          clear hz
          go_wp2_with (first | (with_reducible refine wpList_load_row rfl 46 _ rfl w.heap.size rfl 46 _ (0,0) _ hR' Try.underlying46 rfl (info46' T) ?_) | (go_at_call 38; refine (holders_r _ _ _ _ T _).mono ?_; rintro e w1 ⟨v1, ⟨rfl, hk1⟩, ho1⟩; obtain ⟨a1, c1, rfl⟩ := OwnN.slice ho1; rw [← HLN.out]; have H1 := Lib.hid hk1; clear ho1 hk1 hR'))
          refine ⟨⟨k + 1, by omega, by go_num, HL.out.1.trans_no H1.out, HL.out.2.no H1.out, fun j hj => ?_⟩, by simp [intOf]; omega⟩
          by_cases e : j = k
          · subst e; rw [← HLN.out]; exact HZ.out
          · exact HAL.out j (by omega)
        · have hd : decide ((ln : Int) > 0) = true := decide_eq_true (by omega)
          have hd2 : decide ((0 : Int) < ln) = true := decide_eq_true (by omega)
          have hd3 : decide (0 < ln) = true := decide_eq_true (by omega)
          have hd4 : 0 < ln := by omega
          have HZ := Lib.hid hz
          clear hz
          go_wp2_with (first | (with_reducible refine wpList_load_row rfl 46 _ rfl w.heap.size rfl 46 _ (0,0) _ hR' Try.underlying46 rfl (info46' T) ?_) | (go_at_call 38; refine (holders_r _ _ _ _ T _).mono ?_; rintro e w1 ⟨v1, ⟨rfl, hk1⟩, ho1⟩; obtain ⟨a1, c1, rfl⟩ := OwnN.slice ho1; rw [← HLN.out]; have H1 := Lib.hid hk1; clear ho1 hk1 hR'))
          go_ret
          exact ⟨by rw [HE.out, alone_f ha hq hlt4 (by rw [← HLN.out]; exact HZ.out)]; rfl, HL.out.1.trans_no H1.out⟩
      · have hk4 : k = 4 := by omega
        subst hk4
        go_wp2_with fail
        go_ret
        exact ⟨by rw [HE.out, alone_t hT'.out ha hq HAL.out]; rfl, hkp⟩
end Go.Proofs.Ytlpimkmkcfbddaa
