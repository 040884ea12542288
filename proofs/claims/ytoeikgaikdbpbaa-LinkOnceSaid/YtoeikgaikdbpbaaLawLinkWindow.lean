/- LinkWindow: never more than eight bodies are under way; their numbers follow one another: the law answers true at every input. No condition. -/
import Derived.Test.YtoeikgaikdbpbaaLkAlive
import Derived.Test.YtoeikgaikdbpbaaSecArg
namespace Go.Proofs.Ytoeikgaikdbpbaa
open Go.RowKit

/-- The numbers of what is under way follow one another, up to the last. -/
def Cons (k : Lk) : Prop := ∀ j (h : j < k.L.length), k.L[j].s = k.sent - k.L.length + 1 + j
theorem Cons.add {k : Lk} (h : Cons k) {t : It} (ht : t.s = k.sent + 1) : Cons (k.add t) := by
  intro j hj
  unfold Lk.add at hj ⊢
  simp only [List.length_append, List.length_singleton] at hj ⊢
  by_cases e : j < k.L.length
  · rw [List.getElem_append_left e, h j e]; omega
  · have : j = k.L.length := by omega
    subst this
    rw [List.getElem_append_right (by omega)]
    simp [ht]
    omega
/-- Of a list whose numbers follow one another an acknowledgement leaves an end. -/
theorem kept_drop (ack : Int) : ∀ (L : List It) (a : Int), (∀ j (h : j < L.length), L[j].s = a + j) → ∃ n, n ≤ L.length ∧ kept ack L = L.drop n
  | [], _, _ => ⟨0, by simp, rfl⟩
  | t :: r, a, h => by
    have h0 : t.s = a := by
      have : t.s = a + ((0 : Nat) : Int) := h 0 (by simp)
      omega
    have hr : ∀ j (h : j < r.length), r[j].s = (a + 1) + j := fun j hj => by
      have : r[j].s = a + ((j + 1 : Nat) : Int) := h (j + 1) (by simp; omega)
      omega
    by_cases e : ack < t.s
    · refine ⟨0, by simp, ?_⟩
      unfold kept
      simp only [List.drop_zero]
      rw [List.filter_eq_self]
      intro x hx
      obtain ⟨i, hi, rfl⟩ := List.getElem_of_mem hx
      have := h i hi
      simp
      omega
    · obtain ⟨n, hn, he⟩ := kept_drop ack r (a + 1) hr
      refine ⟨n + 1, by simp; omega, ?_⟩
      unfold kept at he ⊢
      rw [List.filter_cons_of_neg (by simpa using e), he]
      rfl
theorem Cons.got {k : Lk} (h : Cons k) (q : Pq) : Cons (k.got q) := by
  unfold Lk.got
  split
  · obtain ⟨n, hn, he⟩ := kept_drop q.k k.L (k.sent - k.L.length + 1) (fun j hj => h j hj)
    intro j hj
    simp only [he, List.length_drop] at hj ⊢
    rw [List.getElem_drop, h (n + j) (by omega)]
    omega
  · exact h
theorem got_same (k : Lk) (q : Pq) : (k.got q).c = k.c ∧ (k.got q).e = k.e ∧ (k.got q).b = k.b ∧ (k.got q).v = k.v ∧ (k.got q).sent = k.sent := by
  unfold Lk.got
  split <;> exact ⟨rfl, rfl, rfl, rfl, rfl⟩
theorem pks_len (k : Lk) : k.pks.length = if k.L.length = 0 then 1 else k.L.length := by
  unfold Lk.pks
  by_cases e : k.L = []
  · rw [if_pos e, e]; rfl
  · rw [if_neg e, if_neg (fun h => e (List.length_eq_zero_iff.1 h))]; simp

theorem pks_seq {k : Lk} (h : Cons k) : ∀ j (hj : j < k.pks.length), k.pks[j].1 = if k.L.length = 0 then 0 else k.sent - k.L.length + 1 + j := by
  intro j hj
  unfold Lk.pks at hj ⊢
  by_cases e : k.L = []
  · simp only [if_pos e] at hj ⊢
    have h0 : k.L.length = 0 := by rw [e]; rfl
    have hj0 : j = 0 := by simpa using hj
    subst hj0
    exact (if_pos h0).symm
  · simp only [if_neg e, List.length_map] at hj ⊢
    rw [List.getElem_map, h j hj, if_neg (fun h => e (List.length_eq_zero_iff.1 h))]
theorem quiet_ret {P : Program} {f : FuncId} {args : Array Value} {w : World} {n : Nat} {v : Value}
    (h : Calls P f args (w.drewN n) (Ret v (w.drewN n))) : Calls P f args (w.drewN n) fun e w'' => e = .returned v ∧ ∃ m, w'' = w.drewN m :=
  h.mono fun _ _ ⟨he, hw⟩ => ⟨he, n, hw.symm⟩
theorem openm_c {w : World} {S : Nat → Prop} {p : Nat} {k : Lk} {vi : Value} {m : Nat} (h0 : m = k.L.length) (h : LkAt w S p k vi) : Calls Try.prog 14 #[.pointer (some ⟨p, 0, none⟩)] w (Ret (.int .i64 m) w) := by
  rw [h0]
  exact open_c h
theorem open0_c {w : World} {S : Nat → Prop} {p : Nat} {k : Lk} {vi : Value} (h0 : k.L.length = 0) (h : LkAt w S p k vi) : Calls Try.prog 14 #[.pointer (some ⟨p, 0, none⟩)] w (Ret (.int .i64 0) w) := by
  have := open_c h
  rw [h0] at this
  exact this
/-- The copy that 'append([]byte{}, x...)' makes. -/
theorem copy_own {w w1 : World} {v : Value} {l : List Int} (h : w1.ownsRow w.heap.size 5 1 v l.length (bcells l)) (hg : (w.alloc (.cells #[] 5)).grownBy w1 (Value.slice (some ⟨w.heap.size, 0, none⟩) 0 0).ownBlock) :
    Keeps noB w w1 ∧ ∃ a c, v = .slice a l.length c ∧ ByO w1 w.heap.size a c l :=
  ⟨((Keeps.refl noB w).alloc _).own (own_bytes0 w) (Nat.le_refl _) hg, ByO.of_own h⟩

set_option maxRecDepth 100000 in
set_option maxHeartbeats 8000000 in
theorem linkWindow_w (a : Option Addr) (len cap : Nat) (g : Nat → Nat → Value) (a2 : Option Addr) (len2 cap2 : Nat) (g2 : Nat → Nat → Value) (w : World) (hl : len ≤ maxLen) (hr : RdS w 1 a len g) (hq : ∀ k, k < len → IsByS w (g k 0)) (hl2 : len2 ≤ maxLen) (hr2 : RdS w 1 a2 len2 g2) (hq2 : ∀ k, k < len2 → IsI (g2 k 0)) :
    Calls Try.prog 8 #[.slice a len cap, .slice a2 len2 cap2] w (RetK noB (.bool true) w) := by
  unfold maxLen at hl hl2
  have HQ := Lib.hid hq
  have HQ2 := Lib.hid hq2
  clear hq hq2
  by_cases hb1 : len > 60
  · have d1 : decide ((len : Int) > 60) = true := decide_eq_true (by omega)
    go_enter Try.func8, Try.ntmps8
    go_wp2_with (go_at_call 9; refine (linkAlive_c w).mono ?_; rintro e w1 ⟨rfl, hk1⟩)
    go_ret
    exact ⟨rfl, hk1⟩
  have d1 : decide ((len : Int) > 60) = false := decide_eq_false (by omega)
  by_cases hb2 : len2 > 60
  · have d2 : decide ((len2 : Int) > 60) = true := decide_eq_true (by omega)
    go_enter Try.func8, Try.ntmps8
    go_wp2_with (go_at_call 9; refine (linkAlive_c w).mono ?_; rintro e w1 ⟨rfl, hk1⟩)
    go_ret
    exact ⟨rfl, hk1⟩
  have d2 : decide ((len2 : Int) > 60) = false := decide_eq_false (by omega)
  go_enter Try.func8, Try.ntmps8
  go_wp2_with (go_at_call 9; refine (linkAlive_c w).mono ?_; rintro e w1 ⟨rfl, hk1⟩)
  refine (new_c 2 3 4 true w1).mono ?_
  rintro e w2 ⟨⟨rfl, hk2⟩, hs2, ha2⟩
  have hs1 := hk1.size
  have HS2 := Lib.hid hs2
  have hkw := hk1.trans_no hk2
  clear hs2
  go_wp2_with fail
  go_loopw [27] (fun v wr => ∃ i : Nat, i ≤ len ∧ v = .int .i64 i ∧ Keeps noB w wr ∧ ∃ S k vi, LkAt wr S w1.heap.size k vi ∧ (∀ x, S x → w.heap.size ≤ x) ∧ k.c = 2 ∧ k.e = 3 ∧ k.b = 4 ∧ k.v = true ∧ k.sent ≤ i ∧ Cons k)
    (fun v _ => len - (intOf v).toNat)
  case atStart => exact ⟨0, by omega, rfl, hkw, _, _, _, ha2, fun x hx => by unfold oneB at hx; omega, rfl, rfl, rfl, rfl, by simp [newLk], fun j hj => by simp [newLk] at hj⟩
  case round =>
    clear hkw ha2 hk1 hk2
    obtain ⟨i, hi, rfl, hkp, S, k, vi, ha, hS, hkc, hke, hkb, hkv, hks, hcon⟩ := hrel
    have hsz := hkp.size
    by_cases hlt : i < len
    · obtain ⟨b, off, rfl, hbl, hc⟩ := (hr.keep hkp) i hlt
      obtain ⟨da, dl, dc, e2, hdl, hdr, _⟩ := (HQ.out i hlt).read
      have c0 : wr.cell? ⟨b, off + i, none⟩ = some (.slice da dl.length dc) := by rw [← e2]; have := hc 0 (by omega); simpa using this
      clear e2 hc
      have hdr1 := hdr.keep hkp (fun b _ => noB_not b)
      have hdr2 := hdr1.keep ((Keeps.refl noB wr).alloc (.cells #[] 5)) (fun b _ => noB_not b)
      have hop := open_c ha
      have hse := sent_c ha
      have hfew := ha.few
      have hsb := ha.sb
      have HK := Lib.hid (And.intro hkc (And.intro hke (And.intro hkb (And.intro hkv hcon))))
      have HSS := Lib.hid hS
      clear hkc hke hkb hkv hcon hS
      go_wp2_with (first | (go_at_call 14; refine hop.mono ?_; rintro e w' ⟨rfl, rfl⟩) | (go_at_call 17; refine hse.mono ?_; rintro e w' ⟨rfl, rfl⟩) | (at_builtin; refine wpList_append_by rfl _ _ rfl wr.heap.size _ _ _ rfl (own_bytes0 wr) da dl dc _ rfl hdr2 (by omega) (by rw [alloc_size]; omega) ?_))
      intro v' w3 hown' hgrow
      obtain ⟨hk3, a3, c3, rfl, hO3⟩ := copy_own (by simpa using hown') hgrow
      clear hown' hgrow
      have hP := push_c (ha.no hk3) _ a3 dl c3 hdl hO3.byr
      have hs3 := hk3.size
      have hcode : (pushE k dl = 0 ∧ decide ((dl.length : Int) ≤ 700) = true ∧ decide ((k.L.length : Int) < 8) = true) ∨ (pushE k dl = 101 ∧ decide ((dl.length : Int) ≤ 700) = false) ∨ (pushE k dl = 111 ∧ decide ((dl.length : Int) ≤ 700) = true ∧ decide ((k.L.length : Int) < 8) = false) := by
        unfold pushE
        by_cases h1 : 700 < dl.length
        · rw [if_pos h1]; exact .inr (.inl ⟨rfl, decide_eq_false (by omega)⟩)
        · rw [if_neg h1, if_neg (by omega)]
          by_cases h2 : 8 ≤ k.L.length
          · rw [if_pos h2]; exact .inr (.inr ⟨rfl, decide_eq_true (by omega), decide_eq_false (by omega)⟩)
          · rw [if_neg h2]; exact .inl ⟨rfl, decide_eq_true (by omega), decide_eq_true (by omega)⟩
      rcases hcode with ⟨h1, h2, h3⟩ | ⟨h1, h2⟩ | ⟨h1, h2, h3⟩
      · rw [h1] at hP
        simp only [if_true] at hP
        clear h1
        go_wp2_with fail
        refine hP.mono ?_
        rintro e w4 ⟨⟨rfl, hk4⟩, Sa, hSa1, hSa2, va, ta, hts, htl, ha4⟩
        clear hP
        have hse2 := sent_c ha4
        have hks1 : (k.add ta).sent = k.sent + 1 := rfl
        rw [hks1] at hse2
        have hne : (k.sent + 1 != k.sent) = true := by simp; omega
        obtain ⟨kz0, hz0⟩ : ∃ kz : Lk, kz = k.add ta := ⟨_, rfl⟩
        obtain ⟨g1, g2', g3, g4, g5⟩ := HK.out
        have hcon2 := g5.add hts
        have HP1 := Lib.hid (show kz0.c = 2 ∧ kz0.e = 3 ∧ kz0.b = 4 ∧ kz0.v = true ∧ Cons kz0 ∧ kz0.sent ≤ ((i + 1 : Nat) : Int) from by rw [hz0]; exact ⟨g1, g2', g3, g4, hcon2, by show k.sent + 1 ≤ _; omega⟩)
        have haz0 := ha4
        rw [← hz0] at haz0
        obtain ⟨Sz, hSz⟩ : ∃ Sz, Sz = Sa := ⟨_, rfl⟩
        obtain ⟨viz, hviz⟩ : ∃ viz, viz = va := ⟨_, rfl⟩
        rw [← hSz, ← hviz] at haz0
        have HSz := Lib.hid (show ∀ x, Sz x → w.heap.size ≤ x from fun x hx => by
          rw [hSz] at hx
          rcases hSa2 x hx with h | h
          · exact HSS.out x h
          · omega)
        have hkz0 : Keeps noB w w4 := (hkp.trans_no hk3).trans hk4 (fun x hx h => by have := HSS.out x h; omega)
        clear hSa1 hSa2 hts htl g1 g2' g3 g4 g5 hcon2 hks1 hz0 hSz hviz ha4 ha hdr hdr1 hdr2
        go_upto_region 13 with (go_at_call 17; refine hse2.mono ?_; rintro e w' ⟨rfl, rfl⟩)
        clear hse2
        by_cases hin : i < len2
        · obtain ⟨b2, off2, rfl, hbl2, hc2⟩ := (hr2.keep hkz0) i hin
          obtain ⟨ak, e3, ak1, ak2⟩ := HQ2.out i hin
          have c1 : w4.cell? ⟨b2, off2 + i, none⟩ = some (.int .i64 ak) := by rw [← e3]; have := hc2 0 (by omega); simpa using this
          clear e3 hc2
          have hG := got_c haz0 ⟨2, 3, 4, 0, ak, false, []⟩ (fun _ => False) (fun x hx _ => hx) none 0 (by simp) (fun i hi => absurd hi (by simp)) (by simp)
          simp only [List.length_nil] at hG
          obtain ⟨s1, s2, s3, s4, s5⟩ := got_same kz0 ⟨2, 3, 4, 0, ak, false, []⟩
          have HP0 := HP1
          obtain ⟨q1, q2, q3, q4, q5, q6⟩ := HP0.out
          have hcg := q5.got ⟨2, 3, 4, 0, ak, false, []⟩
          have HP2 := Lib.hid (show (kz0.got ⟨2, 3, 4, 0, ak, false, []⟩).c = 2 ∧ (kz0.got ⟨2, 3, 4, 0, ak, false, []⟩).e = 3 ∧ (kz0.got ⟨2, 3, 4, 0, ak, false, []⟩).b = 4 ∧ (kz0.got ⟨2, 3, 4, 0, ak, false, []⟩).v = true ∧ Cons (kz0.got ⟨2, 3, 4, 0, ak, false, []⟩) ∧ (kz0.got ⟨2, 3, 4, 0, ak, false, []⟩).sent ≤ ((i + 1 : Nat) : Int) from ⟨by rw [s1, q1], by rw [s2, q2], by rw [s3, q3], by rw [s4, q4], hcg, by rw [s5]; exact q6⟩)
          clear s1 s2 s3 s4 s5 q1 q2 q3 q4 q5 q6 hcg HP1 HP0
          go_wp2_with fail
          refine hG.mono ?_
          rintro e w5 ⟨a5, c5, ⟨rfl, hk5⟩, ⟨viz, haz⟩, hO5⟩
          clear hG hO5
          obtain ⟨kz, hkz⟩ : ∃ kz, kz = kz0.got ⟨2, 3, 4, 0, ak, false, []⟩ := ⟨_, rfl⟩
          rw [← hkz] at haz HP2
          have HP := HP2
          clear hkz HP2
          have hkz : Keeps noB w w5 := hkz0.trans hk5 (fun x hx h => by have := HSz.out x h; omega)
          have hpk := packets_c haz
          obtain ⟨q1, q2, q3, q4, q5, q6⟩ := HP.out
          have hhd : kz.hd = ⟨2, 3, 4, kz.heard, true⟩ := by unfold Lk.hd; rw [q1, q2, q3, q4]
          have hseq := pks_seq q5
          have hpl := pks_len kz
          have hfz := haz.few
          have hsz := haz.sb
          rw [hhd] at hpk
          clear q1 q2 q3 q4 q5 q6 hhd
          go_wp2_with fail
          refine hpk.mono ?_
          rintro e w6 ⟨v6, ⟨rfl, hk6⟩, hp6⟩
          clear hpk
          obtain ⟨a6, c6, rfl⟩ := hp6.slice
          have hz6 := haz.no hk6
          have hop6 := open_c hz6
          have hse6 := sent_c hz6
          have HZ6 := Lib.hid hz6
          have HR6 := Lib.hid hp6.row
          clear hz6 hp6 haz
          by_cases h0 : kz.L.length = 0
          · rw [if_pos h0] at hpl
            have HSEQ := Lib.hid (show ∀ j (h : j < kz.pks.length), kz.pks[j].1 = 0 from fun j h => by rw [hseq j h, if_pos h0])
            rw [h0] at hop6
            have HL0 := Lib.hid h0
            clear hseq h0
            go_wp2_with (go_at_call 14; refine hop6.mono ?_; rintro e w' ⟨rfl, rfl⟩)
            go_loopw [87] (fun v wy => ∃ j : Nat, j ≤ kz.pks.length ∧ v = .int .i64 j ∧ Keeps noB w6 wy)
              (fun v _ => kz.pks.length - (intOf v).toNat)
            case atStart => exact ⟨0, by omega, rfl, Keeps.refl _ _⟩
            case round =>
              obtain ⟨j, hj, rfl, hky⟩ := hrel
              by_cases hlt2 : j < kz.pks.length
              · obtain ⟨g6, o6, rfl, _, _, ab, cb, x0, x1, x2, x3, x4, x5, x6, _⟩ := (HR6.out.no hky).at_ hlt2
                rw [HSEQ.out j hlt2] at x3
                simp only at x0 x1 x2 x4 x5
                have hyA : Keeps noB wr (wr.alloc (.cells #[.int .i64 2, .int .i64 3, .int .i64 4, .int .i64 0, .int .i64 kz.heard, .bool true, .slice ab kz.pks[j].2.length cb] 24)) := (Keeps.refl _ _).alloc _
                have hz7 := (HZ6.out.no hky).no hyA
                go_wp2_with fail
                go_quiet ((first | (go_at_call 14; exact quiet_ret (open0_c HL0.out (hz7.no ((Keeps.refl noB _).drewN _)))) | (go_at_call 17; exact quiet_ret (sent_c (hz7.no ((Keeps.refl noB _).drewN _))))))
                go_wp2_with fail
                go_roundw
                case rel => exact ⟨j + 1, by omega, by go_num, (hky.trans_no hyA).drewN _⟩
                case measure => simp [intOf]; omega
              · have : j = kz.pks.length := by omega
                clear hop6 hse6
                go_wp2_with fail
                go_roundw
                case rel =>
                  obtain ⟨g1, g2', g3, g4, g5, g6⟩ := HP.out
                  exact ⟨i + 1, by omega, by go_num, (hkz.trans_no hk6).trans_no hky, Sz, kz, viz, HZ6.out.no hky, HSz.out, g1, g2', g3, g4, g6, g5⟩
                case measure => simp [intOf]; omega

          · rw [if_neg h0] at hpl
            obtain ⟨m, hm⟩ : ∃ m, m = kz.L.length := ⟨_, rfl⟩
            rw [← hm] at hpl hop6 h0 hfz
            rw [← hm] at hseq
            have HM := Lib.hid hm
            clear hm
            have HSEQ := Lib.hid (show ∀ j (h : j < kz.pks.length), kz.pks[j].1 = kz.sent - m + 1 + j from fun j h => by rw [hseq j h, if_neg h0])
            have d3 : decide ((m : Int) > 0) = true := decide_eq_true (by omega)
            have d5 : decide (0 < m) = true := decide_eq_true (by omega)
            have d6 : 0 < m := by omega
            have d4 : ((m : Int) == 0) = false := by simp; exact h0
            have hmx : (if (1 : Int) < m then (m : Int) else 1) = m := by split <;> omega
            clear hseq
            go_wp2_with (go_at_call 14; refine hop6.mono ?_; rintro e w' ⟨rfl, rfl⟩)
            go_loopw [87] (fun v wy => ∃ j : Nat, j ≤ kz.pks.length ∧ v = .int .i64 j ∧ Keeps noB w6 wy)
              (fun v _ => kz.pks.length - (intOf v).toNat)
            case atStart => exact ⟨0, by omega, rfl, Keeps.refl _ _⟩
            case round =>
              obtain ⟨j, hj, rfl, hky⟩ := hrel
              by_cases hlt2 : j < kz.pks.length
              · obtain ⟨g6, o6, rfl, _, _, ab, cb, x0, x1, x2, x3, x4, x5, x6, _⟩ := (HR6.out.no hky).at_ hlt2
                rw [HSEQ.out j hlt2] at x3
                simp only at x0 x1 x2 x4 x5
                have hyA : Keeps noB wr (wr.alloc (.cells #[.int .i64 2, .int .i64 3, .int .i64 4, .int .i64 (kz.sent - m + 1 + j), .int .i64 kz.heard, .bool true, .slice ab kz.pks[j].2.length cb] 24)) := (Keeps.refl _ _).alloc _
                have hz7 := (HZ6.out.no hky).no hyA
                go_wp2_with fail
                go_quiet ((first | (go_at_call 14; exact quiet_ret (openm_c HM.out (hz7.no ((Keeps.refl noB _).drewN _)))) | (go_at_call 17; exact quiet_ret (sent_c (hz7.no ((Keeps.refl noB _).drewN _))))))
                go_wp2_with fail
                go_roundw
                case rel => exact ⟨j + 1, by omega, by go_num, (hky.trans_no hyA).drewN _⟩
                case measure => simp [intOf]; omega
              · have : j = kz.pks.length := by omega
                clear hop6 hse6
                go_wp2_with fail
                go_roundw
                case rel =>
                  obtain ⟨g1, g2', g3, g4, g5, g6⟩ := HP.out
                  exact ⟨i + 1, by omega, by go_num, (hkz.trans_no hk6).trans_no hky, Sz, kz, viz, HZ6.out.no hky, HSz.out, g1, g2', g3, g4, g6, g5⟩
                case measure => simp [intOf]; omega

        · obtain ⟨kz, rfl⟩ : ∃ kz, kz = kz0 := ⟨_, rfl⟩
          have haz := haz0
          have HP := HP1
          have hkz := hkz0
          clear haz0 HP1 hkz0
          have hpk := packets_c haz
          obtain ⟨q1, q2, q3, q4, q5, q6⟩ := HP.out
          have hhd : kz.hd = ⟨2, 3, 4, kz.heard, true⟩ := by unfold Lk.hd; rw [q1, q2, q3, q4]
          have hseq := pks_seq q5
          have hpl := pks_len kz
          have hfz := haz.few
          have hsz := haz.sb
          rw [hhd] at hpk
          clear q1 q2 q3 q4 q5 q6 hhd
          go_wp2_with fail
          refine hpk.mono ?_
          rintro e w6 ⟨v6, ⟨rfl, hk6⟩, hp6⟩
          clear hpk
          obtain ⟨a6, c6, rfl⟩ := hp6.slice
          have hz6 := haz.no hk6
          have hop6 := open_c hz6
          have hse6 := sent_c hz6
          have HZ6 := Lib.hid hz6
          have HR6 := Lib.hid hp6.row
          clear hz6 hp6 haz
          by_cases h0 : kz.L.length = 0
          · rw [if_pos h0] at hpl
            have HSEQ := Lib.hid (show ∀ j (h : j < kz.pks.length), kz.pks[j].1 = 0 from fun j h => by rw [hseq j h, if_pos h0])
            rw [h0] at hop6
            have HL0 := Lib.hid h0
            clear hseq h0
            go_wp2_with (go_at_call 14; refine hop6.mono ?_; rintro e w' ⟨rfl, rfl⟩)
            go_loopw [87] (fun v wy => ∃ j : Nat, j ≤ kz.pks.length ∧ v = .int .i64 j ∧ Keeps noB w6 wy)
              (fun v _ => kz.pks.length - (intOf v).toNat)
            case atStart => exact ⟨0, by omega, rfl, Keeps.refl _ _⟩
            case round =>
              obtain ⟨j, hj, rfl, hky⟩ := hrel
              by_cases hlt2 : j < kz.pks.length
              · obtain ⟨g6, o6, rfl, _, _, ab, cb, x0, x1, x2, x3, x4, x5, x6, _⟩ := (HR6.out.no hky).at_ hlt2
                rw [HSEQ.out j hlt2] at x3
                simp only at x0 x1 x2 x4 x5
                have hyA : Keeps noB wr (wr.alloc (.cells #[.int .i64 2, .int .i64 3, .int .i64 4, .int .i64 0, .int .i64 kz.heard, .bool true, .slice ab kz.pks[j].2.length cb] 24)) := (Keeps.refl _ _).alloc _
                have hz7 := (HZ6.out.no hky).no hyA
                go_wp2_with fail
                go_quiet ((first | (go_at_call 14; exact quiet_ret (open0_c HL0.out (hz7.no ((Keeps.refl noB _).drewN _)))) | (go_at_call 17; exact quiet_ret (sent_c (hz7.no ((Keeps.refl noB _).drewN _))))))
                go_wp2_with fail
                go_roundw
                case rel => exact ⟨j + 1, by omega, by go_num, (hky.trans_no hyA).drewN _⟩
                case measure => simp [intOf]; omega
              · have : j = kz.pks.length := by omega
                clear hop6 hse6
                go_wp2_with fail
                go_roundw
                case rel =>
                  obtain ⟨g1, g2', g3, g4, g5, g6⟩ := HP.out
                  exact ⟨i + 1, by omega, by go_num, (hkz.trans_no hk6).trans_no hky, Sz, kz, viz, HZ6.out.no hky, HSz.out, g1, g2', g3, g4, g6, g5⟩
                case measure => simp [intOf]; omega

          · rw [if_neg h0] at hpl
            obtain ⟨m, hm⟩ : ∃ m, m = kz.L.length := ⟨_, rfl⟩
            rw [← hm] at hpl hop6 h0 hfz
            rw [← hm] at hseq
            have HM := Lib.hid hm
            clear hm
            have HSEQ := Lib.hid (show ∀ j (h : j < kz.pks.length), kz.pks[j].1 = kz.sent - m + 1 + j from fun j h => by rw [hseq j h, if_neg h0])
            have d3 : decide ((m : Int) > 0) = true := decide_eq_true (by omega)
            have d5 : decide (0 < m) = true := decide_eq_true (by omega)
            have d6 : 0 < m := by omega
            have d4 : ((m : Int) == 0) = false := by simp; exact h0
            have hmx : (if (1 : Int) < m then (m : Int) else 1) = m := by split <;> omega
            clear hseq
            go_wp2_with (go_at_call 14; refine hop6.mono ?_; rintro e w' ⟨rfl, rfl⟩)
            go_loopw [87] (fun v wy => ∃ j : Nat, j ≤ kz.pks.length ∧ v = .int .i64 j ∧ Keeps noB w6 wy)
              (fun v _ => kz.pks.length - (intOf v).toNat)
            case atStart => exact ⟨0, by omega, rfl, Keeps.refl _ _⟩
            case round =>
              obtain ⟨j, hj, rfl, hky⟩ := hrel
              by_cases hlt2 : j < kz.pks.length
              · obtain ⟨g6, o6, rfl, _, _, ab, cb, x0, x1, x2, x3, x4, x5, x6, _⟩ := (HR6.out.no hky).at_ hlt2
                rw [HSEQ.out j hlt2] at x3
                simp only at x0 x1 x2 x4 x5
                have hyA : Keeps noB wr (wr.alloc (.cells #[.int .i64 2, .int .i64 3, .int .i64 4, .int .i64 (kz.sent - m + 1 + j), .int .i64 kz.heard, .bool true, .slice ab kz.pks[j].2.length cb] 24)) := (Keeps.refl _ _).alloc _
                have hz7 := (HZ6.out.no hky).no hyA
                go_wp2_with fail
                go_quiet ((first | (go_at_call 14; exact quiet_ret (openm_c HM.out (hz7.no ((Keeps.refl noB _).drewN _)))) | (go_at_call 17; exact quiet_ret (sent_c (hz7.no ((Keeps.refl noB _).drewN _))))))
                go_wp2_with fail
                go_roundw
                case rel => exact ⟨j + 1, by omega, by go_num, (hky.trans_no hyA).drewN _⟩
                case measure => simp [intOf]; omega
              · have : j = kz.pks.length := by omega
                clear hop6 hse6
                go_wp2_with fail
                go_roundw
                case rel =>
                  obtain ⟨g1, g2', g3, g4, g5, g6⟩ := HP.out
                  exact ⟨i + 1, by omega, by go_num, (hkz.trans_no hk6).trans_no hky, Sz, kz, viz, HZ6.out.no hky, HSz.out, g1, g2', g3, g4, g6, g5⟩
                case measure => simp [intOf]; omega
      · rw [h1] at hP
        simp only [show ¬ ((101 : Int) = 0) by decide, if_false] at hP
        clear h1
        go_wp2_with fail
        refine hP.mono ?_
        rintro e w4 ⟨⟨rfl, hk4⟩, Sa, hSa1, hSa2, va, ta, hts, htl, ha4⟩
        clear hP
        have hse2 := sent_c ha4
        obtain ⟨kz0, hz0⟩ : ∃ kz : Lk, kz = k := ⟨_, rfl⟩
        obtain ⟨g1, g2', g3, g4, g5⟩ := HK.out
        have HP1 := Lib.hid (show kz0.c = 2 ∧ kz0.e = 3 ∧ kz0.b = 4 ∧ kz0.v = true ∧ Cons kz0 ∧ kz0.sent ≤ ((i + 1 : Nat) : Int) from by rw [hz0]; exact ⟨g1, g2', g3, g4, g5, by omega⟩)
        have haz0 := ha4
        rw [← hz0] at haz0
        obtain ⟨Sz, hSz⟩ : ∃ Sz, Sz = Sa := ⟨_, rfl⟩
        obtain ⟨viz, hviz⟩ : ∃ viz, viz = va := ⟨_, rfl⟩
        rw [← hSz, ← hviz] at haz0
        have HSz := Lib.hid (show ∀ x, Sz x → w.heap.size ≤ x from fun x hx => by
          rw [hSz] at hx
          rcases hSa2 x hx with h | h
          · exact HSS.out x h
          · omega)
        have hkz0 : Keeps noB w w4 := (hkp.trans_no hk3).trans hk4 (fun x hx h => by have := HSS.out x h; omega)
        clear hSa1 hSa2 hts htl g1 g2' g3 g4 g5 hz0 hSz hviz ha4 ha hdr hdr1 hdr2
        go_upto_region 13 with (go_at_call 17; refine hse2.mono ?_; rintro e w' ⟨rfl, rfl⟩)
        clear hse2
        by_cases hin : i < len2
        · obtain ⟨b2, off2, rfl, hbl2, hc2⟩ := (hr2.keep hkz0) i hin
          obtain ⟨ak, e3, ak1, ak2⟩ := HQ2.out i hin
          have c1 : w4.cell? ⟨b2, off2 + i, none⟩ = some (.int .i64 ak) := by rw [← e3]; have := hc2 0 (by omega); simpa using this
          clear e3 hc2
          have hG := got_c haz0 ⟨2, 3, 4, 0, ak, false, []⟩ (fun _ => False) (fun x hx _ => hx) none 0 (by simp) (fun i hi => absurd hi (by simp)) (by simp)
          simp only [List.length_nil] at hG
          obtain ⟨s1, s2, s3, s4, s5⟩ := got_same kz0 ⟨2, 3, 4, 0, ak, false, []⟩
          have HP0 := HP1
          obtain ⟨q1, q2, q3, q4, q5, q6⟩ := HP0.out
          have hcg := q5.got ⟨2, 3, 4, 0, ak, false, []⟩
          have HP2 := Lib.hid (show (kz0.got ⟨2, 3, 4, 0, ak, false, []⟩).c = 2 ∧ (kz0.got ⟨2, 3, 4, 0, ak, false, []⟩).e = 3 ∧ (kz0.got ⟨2, 3, 4, 0, ak, false, []⟩).b = 4 ∧ (kz0.got ⟨2, 3, 4, 0, ak, false, []⟩).v = true ∧ Cons (kz0.got ⟨2, 3, 4, 0, ak, false, []⟩) ∧ (kz0.got ⟨2, 3, 4, 0, ak, false, []⟩).sent ≤ ((i + 1 : Nat) : Int) from ⟨by rw [s1, q1], by rw [s2, q2], by rw [s3, q3], by rw [s4, q4], hcg, by rw [s5]; exact q6⟩)
          clear s1 s2 s3 s4 s5 q1 q2 q3 q4 q5 q6 hcg HP1 HP0
          go_wp2_with fail
          refine hG.mono ?_
          rintro e w5 ⟨a5, c5, ⟨rfl, hk5⟩, ⟨viz, haz⟩, hO5⟩
          clear hG hO5
          obtain ⟨kz, hkz⟩ : ∃ kz, kz = kz0.got ⟨2, 3, 4, 0, ak, false, []⟩ := ⟨_, rfl⟩
          rw [← hkz] at haz HP2
          have HP := HP2
          clear hkz HP2
          have hkz : Keeps noB w w5 := hkz0.trans hk5 (fun x hx h => by have := HSz.out x h; omega)
          have hpk := packets_c haz
          obtain ⟨q1, q2, q3, q4, q5, q6⟩ := HP.out
          have hhd : kz.hd = ⟨2, 3, 4, kz.heard, true⟩ := by unfold Lk.hd; rw [q1, q2, q3, q4]
          have hseq := pks_seq q5
          have hpl := pks_len kz
          have hfz := haz.few
          have hsz := haz.sb
          rw [hhd] at hpk
          clear q1 q2 q3 q4 q5 q6 hhd
          go_wp2_with fail
          refine hpk.mono ?_
          rintro e w6 ⟨v6, ⟨rfl, hk6⟩, hp6⟩
          clear hpk
          obtain ⟨a6, c6, rfl⟩ := hp6.slice
          have hz6 := haz.no hk6
          have hop6 := open_c hz6
          have hse6 := sent_c hz6
          have HZ6 := Lib.hid hz6
          have HR6 := Lib.hid hp6.row
          clear hz6 hp6 haz
          by_cases h0 : kz.L.length = 0
          · rw [if_pos h0] at hpl
            have HSEQ := Lib.hid (show ∀ j (h : j < kz.pks.length), kz.pks[j].1 = 0 from fun j h => by rw [hseq j h, if_pos h0])
            rw [h0] at hop6
            have HL0 := Lib.hid h0
            clear hseq h0
            go_wp2_with (go_at_call 14; refine hop6.mono ?_; rintro e w' ⟨rfl, rfl⟩)
            go_loopw [87] (fun v wy => ∃ j : Nat, j ≤ kz.pks.length ∧ v = .int .i64 j ∧ Keeps noB w6 wy)
              (fun v _ => kz.pks.length - (intOf v).toNat)
            case atStart => exact ⟨0, by omega, rfl, Keeps.refl _ _⟩
            case round =>
              obtain ⟨j, hj, rfl, hky⟩ := hrel
              by_cases hlt2 : j < kz.pks.length
              · obtain ⟨g6, o6, rfl, _, _, ab, cb, x0, x1, x2, x3, x4, x5, x6, _⟩ := (HR6.out.no hky).at_ hlt2
                rw [HSEQ.out j hlt2] at x3
                simp only at x0 x1 x2 x4 x5
                have hyA : Keeps noB wr (wr.alloc (.cells #[.int .i64 2, .int .i64 3, .int .i64 4, .int .i64 0, .int .i64 kz.heard, .bool true, .slice ab kz.pks[j].2.length cb] 24)) := (Keeps.refl _ _).alloc _
                have hz7 := (HZ6.out.no hky).no hyA
                go_wp2_with fail
                go_quiet ((first | (go_at_call 14; exact quiet_ret (open0_c HL0.out (hz7.no ((Keeps.refl noB _).drewN _)))) | (go_at_call 17; exact quiet_ret (sent_c (hz7.no ((Keeps.refl noB _).drewN _))))))
                go_wp2_with fail
                go_roundw
                case rel => exact ⟨j + 1, by omega, by go_num, (hky.trans_no hyA).drewN _⟩
                case measure => simp [intOf]; omega
              · have : j = kz.pks.length := by omega
                clear hop6 hse6
                go_wp2_with fail
                go_roundw
                case rel =>
                  obtain ⟨g1, g2', g3, g4, g5, g6⟩ := HP.out
                  exact ⟨i + 1, by omega, by go_num, (hkz.trans_no hk6).trans_no hky, Sz, kz, viz, HZ6.out.no hky, HSz.out, g1, g2', g3, g4, g6, g5⟩
                case measure => simp [intOf]; omega

          · rw [if_neg h0] at hpl
            obtain ⟨m, hm⟩ : ∃ m, m = kz.L.length := ⟨_, rfl⟩
            rw [← hm] at hpl hop6 h0 hfz
            rw [← hm] at hseq
            have HM := Lib.hid hm
            clear hm
            have HSEQ := Lib.hid (show ∀ j (h : j < kz.pks.length), kz.pks[j].1 = kz.sent - m + 1 + j from fun j h => by rw [hseq j h, if_neg h0])
            have d3 : decide ((m : Int) > 0) = true := decide_eq_true (by omega)
            have d5 : decide (0 < m) = true := decide_eq_true (by omega)
            have d6 : 0 < m := by omega
            have d4 : ((m : Int) == 0) = false := by simp; exact h0
            have hmx : (if (1 : Int) < m then (m : Int) else 1) = m := by split <;> omega
            clear hseq
            go_wp2_with (go_at_call 14; refine hop6.mono ?_; rintro e w' ⟨rfl, rfl⟩)
            go_loopw [87] (fun v wy => ∃ j : Nat, j ≤ kz.pks.length ∧ v = .int .i64 j ∧ Keeps noB w6 wy)
              (fun v _ => kz.pks.length - (intOf v).toNat)
            case atStart => exact ⟨0, by omega, rfl, Keeps.refl _ _⟩
            case round =>
              obtain ⟨j, hj, rfl, hky⟩ := hrel
              by_cases hlt2 : j < kz.pks.length
              · obtain ⟨g6, o6, rfl, _, _, ab, cb, x0, x1, x2, x3, x4, x5, x6, _⟩ := (HR6.out.no hky).at_ hlt2
                rw [HSEQ.out j hlt2] at x3
                simp only at x0 x1 x2 x4 x5
                have hyA : Keeps noB wr (wr.alloc (.cells #[.int .i64 2, .int .i64 3, .int .i64 4, .int .i64 (kz.sent - m + 1 + j), .int .i64 kz.heard, .bool true, .slice ab kz.pks[j].2.length cb] 24)) := (Keeps.refl _ _).alloc _
                have hz7 := (HZ6.out.no hky).no hyA
                go_wp2_with fail
                go_quiet ((first | (go_at_call 14; exact quiet_ret (openm_c HM.out (hz7.no ((Keeps.refl noB _).drewN _)))) | (go_at_call 17; exact quiet_ret (sent_c (hz7.no ((Keeps.refl noB _).drewN _))))))
                go_wp2_with fail
                go_roundw
                case rel => exact ⟨j + 1, by omega, by go_num, (hky.trans_no hyA).drewN _⟩
                case measure => simp [intOf]; omega
              · have : j = kz.pks.length := by omega
                clear hop6 hse6
                go_wp2_with fail
                go_roundw
                case rel =>
                  obtain ⟨g1, g2', g3, g4, g5, g6⟩ := HP.out
                  exact ⟨i + 1, by omega, by go_num, (hkz.trans_no hk6).trans_no hky, Sz, kz, viz, HZ6.out.no hky, HSz.out, g1, g2', g3, g4, g6, g5⟩
                case measure => simp [intOf]; omega

        · obtain ⟨kz, rfl⟩ : ∃ kz, kz = kz0 := ⟨_, rfl⟩
          have haz := haz0
          have HP := HP1
          have hkz := hkz0
          clear haz0 HP1 hkz0
          have hpk := packets_c haz
          obtain ⟨q1, q2, q3, q4, q5, q6⟩ := HP.out
          have hhd : kz.hd = ⟨2, 3, 4, kz.heard, true⟩ := by unfold Lk.hd; rw [q1, q2, q3, q4]
          have hseq := pks_seq q5
          have hpl := pks_len kz
          have hfz := haz.few
          have hsz := haz.sb
          rw [hhd] at hpk
          clear q1 q2 q3 q4 q5 q6 hhd
          go_wp2_with fail
          refine hpk.mono ?_
          rintro e w6 ⟨v6, ⟨rfl, hk6⟩, hp6⟩
          clear hpk
          obtain ⟨a6, c6, rfl⟩ := hp6.slice
          have hz6 := haz.no hk6
          have hop6 := open_c hz6
          have hse6 := sent_c hz6
          have HZ6 := Lib.hid hz6
          have HR6 := Lib.hid hp6.row
          clear hz6 hp6 haz
          by_cases h0 : kz.L.length = 0
          · rw [if_pos h0] at hpl
            have HSEQ := Lib.hid (show ∀ j (h : j < kz.pks.length), kz.pks[j].1 = 0 from fun j h => by rw [hseq j h, if_pos h0])
            rw [h0] at hop6
            have HL0 := Lib.hid h0
            clear hseq h0
            go_wp2_with (go_at_call 14; refine hop6.mono ?_; rintro e w' ⟨rfl, rfl⟩)
            go_loopw [87] (fun v wy => ∃ j : Nat, j ≤ kz.pks.length ∧ v = .int .i64 j ∧ Keeps noB w6 wy)
              (fun v _ => kz.pks.length - (intOf v).toNat)
            case atStart => exact ⟨0, by omega, rfl, Keeps.refl _ _⟩
            case round =>
              obtain ⟨j, hj, rfl, hky⟩ := hrel
              by_cases hlt2 : j < kz.pks.length
              · obtain ⟨g6, o6, rfl, _, _, ab, cb, x0, x1, x2, x3, x4, x5, x6, _⟩ := (HR6.out.no hky).at_ hlt2
                rw [HSEQ.out j hlt2] at x3
                simp only at x0 x1 x2 x4 x5
                have hyA : Keeps noB wr (wr.alloc (.cells #[.int .i64 2, .int .i64 3, .int .i64 4, .int .i64 0, .int .i64 kz.heard, .bool true, .slice ab kz.pks[j].2.length cb] 24)) := (Keeps.refl _ _).alloc _
                have hz7 := (HZ6.out.no hky).no hyA
                go_wp2_with fail
                go_quiet ((first | (go_at_call 14; exact quiet_ret (open0_c HL0.out (hz7.no ((Keeps.refl noB _).drewN _)))) | (go_at_call 17; exact quiet_ret (sent_c (hz7.no ((Keeps.refl noB _).drewN _))))))
                go_wp2_with fail
                go_roundw
                case rel => exact ⟨j + 1, by omega, by go_num, (hky.trans_no hyA).drewN _⟩
                case measure => simp [intOf]; omega
              · have : j = kz.pks.length := by omega
                clear hop6 hse6
                go_wp2_with fail
                go_roundw
                case rel =>
                  obtain ⟨g1, g2', g3, g4, g5, g6⟩ := HP.out
                  exact ⟨i + 1, by omega, by go_num, (hkz.trans_no hk6).trans_no hky, Sz, kz, viz, HZ6.out.no hky, HSz.out, g1, g2', g3, g4, g6, g5⟩
                case measure => simp [intOf]; omega

          · rw [if_neg h0] at hpl
            obtain ⟨m, hm⟩ : ∃ m, m = kz.L.length := ⟨_, rfl⟩
            rw [← hm] at hpl hop6 h0 hfz
            rw [← hm] at hseq
            have HM := Lib.hid hm
            clear hm
            have HSEQ := Lib.hid (show ∀ j (h : j < kz.pks.length), kz.pks[j].1 = kz.sent - m + 1 + j from fun j h => by rw [hseq j h, if_neg h0])
            have d3 : decide ((m : Int) > 0) = true := decide_eq_true (by omega)
            have d5 : decide (0 < m) = true := decide_eq_true (by omega)
            have d6 : 0 < m := by omega
            have d4 : ((m : Int) == 0) = false := by simp; exact h0
            have hmx : (if (1 : Int) < m then (m : Int) else 1) = m := by split <;> omega
            clear hseq
            go_wp2_with (go_at_call 14; refine hop6.mono ?_; rintro e w' ⟨rfl, rfl⟩)
            go_loopw [87] (fun v wy => ∃ j : Nat, j ≤ kz.pks.length ∧ v = .int .i64 j ∧ Keeps noB w6 wy)
              (fun v _ => kz.pks.length - (intOf v).toNat)
            case atStart => exact ⟨0, by omega, rfl, Keeps.refl _ _⟩
            case round =>
              obtain ⟨j, hj, rfl, hky⟩ := hrel
              by_cases hlt2 : j < kz.pks.length
              · obtain ⟨g6, o6, rfl, _, _, ab, cb, x0, x1, x2, x3, x4, x5, x6, _⟩ := (HR6.out.no hky).at_ hlt2
                rw [HSEQ.out j hlt2] at x3
                simp only at x0 x1 x2 x4 x5
                have hyA : Keeps noB wr (wr.alloc (.cells #[.int .i64 2, .int .i64 3, .int .i64 4, .int .i64 (kz.sent - m + 1 + j), .int .i64 kz.heard, .bool true, .slice ab kz.pks[j].2.length cb] 24)) := (Keeps.refl _ _).alloc _
                have hz7 := (HZ6.out.no hky).no hyA
                go_wp2_with fail
                go_quiet ((first | (go_at_call 14; exact quiet_ret (openm_c HM.out (hz7.no ((Keeps.refl noB _).drewN _)))) | (go_at_call 17; exact quiet_ret (sent_c (hz7.no ((Keeps.refl noB _).drewN _))))))
                go_wp2_with fail
                go_roundw
                case rel => exact ⟨j + 1, by omega, by go_num, (hky.trans_no hyA).drewN _⟩
                case measure => simp [intOf]; omega
              · have : j = kz.pks.length := by omega
                clear hop6 hse6
                go_wp2_with fail
                go_roundw
                case rel =>
                  obtain ⟨g1, g2', g3, g4, g5, g6⟩ := HP.out
                  exact ⟨i + 1, by omega, by go_num, (hkz.trans_no hk6).trans_no hky, Sz, kz, viz, HZ6.out.no hky, HSz.out, g1, g2', g3, g4, g6, g5⟩
                case measure => simp [intOf]; omega
      · rw [h1] at hP
        simp only [show ¬ ((111 : Int) = 0) by decide, if_false] at hP
        clear h1
        go_wp2_with fail
        refine hP.mono ?_
        rintro e w4 ⟨⟨rfl, hk4⟩, Sa, hSa1, hSa2, va, ta, hts, htl, ha4⟩
        clear hP
        have hse2 := sent_c ha4
        obtain ⟨kz0, hz0⟩ : ∃ kz : Lk, kz = k := ⟨_, rfl⟩
        obtain ⟨g1, g2', g3, g4, g5⟩ := HK.out
        have HP1 := Lib.hid (show kz0.c = 2 ∧ kz0.e = 3 ∧ kz0.b = 4 ∧ kz0.v = true ∧ Cons kz0 ∧ kz0.sent ≤ ((i + 1 : Nat) : Int) from by rw [hz0]; exact ⟨g1, g2', g3, g4, g5, by omega⟩)
        have haz0 := ha4
        rw [← hz0] at haz0
        obtain ⟨Sz, hSz⟩ : ∃ Sz, Sz = Sa := ⟨_, rfl⟩
        obtain ⟨viz, hviz⟩ : ∃ viz, viz = va := ⟨_, rfl⟩
        rw [← hSz, ← hviz] at haz0
        have HSz := Lib.hid (show ∀ x, Sz x → w.heap.size ≤ x from fun x hx => by
          rw [hSz] at hx
          rcases hSa2 x hx with h | h
          · exact HSS.out x h
          · omega)
        have hkz0 : Keeps noB w w4 := (hkp.trans_no hk3).trans hk4 (fun x hx h => by have := HSS.out x h; omega)
        clear hSa1 hSa2 hts htl g1 g2' g3 g4 g5 hz0 hSz hviz ha4 ha hdr hdr1 hdr2
        go_upto_region 13 with (go_at_call 17; refine hse2.mono ?_; rintro e w' ⟨rfl, rfl⟩)
        clear hse2
        by_cases hin : i < len2
        · obtain ⟨b2, off2, rfl, hbl2, hc2⟩ := (hr2.keep hkz0) i hin
          obtain ⟨ak, e3, ak1, ak2⟩ := HQ2.out i hin
          have c1 : w4.cell? ⟨b2, off2 + i, none⟩ = some (.int .i64 ak) := by rw [← e3]; have := hc2 0 (by omega); simpa using this
          clear e3 hc2
          have hG := got_c haz0 ⟨2, 3, 4, 0, ak, false, []⟩ (fun _ => False) (fun x hx _ => hx) none 0 (by simp) (fun i hi => absurd hi (by simp)) (by simp)
          simp only [List.length_nil] at hG
          obtain ⟨s1, s2, s3, s4, s5⟩ := got_same kz0 ⟨2, 3, 4, 0, ak, false, []⟩
          have HP0 := HP1
          obtain ⟨q1, q2, q3, q4, q5, q6⟩ := HP0.out
          have hcg := q5.got ⟨2, 3, 4, 0, ak, false, []⟩
          have HP2 := Lib.hid (show (kz0.got ⟨2, 3, 4, 0, ak, false, []⟩).c = 2 ∧ (kz0.got ⟨2, 3, 4, 0, ak, false, []⟩).e = 3 ∧ (kz0.got ⟨2, 3, 4, 0, ak, false, []⟩).b = 4 ∧ (kz0.got ⟨2, 3, 4, 0, ak, false, []⟩).v = true ∧ Cons (kz0.got ⟨2, 3, 4, 0, ak, false, []⟩) ∧ (kz0.got ⟨2, 3, 4, 0, ak, false, []⟩).sent ≤ ((i + 1 : Nat) : Int) from ⟨by rw [s1, q1], by rw [s2, q2], by rw [s3, q3], by rw [s4, q4], hcg, by rw [s5]; exact q6⟩)
          clear s1 s2 s3 s4 s5 q1 q2 q3 q4 q5 q6 hcg HP1 HP0
          go_wp2_with fail
          refine hG.mono ?_
          rintro e w5 ⟨a5, c5, ⟨rfl, hk5⟩, ⟨viz, haz⟩, hO5⟩
          clear hG hO5
          obtain ⟨kz, hkz⟩ : ∃ kz, kz = kz0.got ⟨2, 3, 4, 0, ak, false, []⟩ := ⟨_, rfl⟩
          rw [← hkz] at haz HP2
          have HP := HP2
          clear hkz HP2
          have hkz : Keeps noB w w5 := hkz0.trans hk5 (fun x hx h => by have := HSz.out x h; omega)
          have hpk := packets_c haz
          obtain ⟨q1, q2, q3, q4, q5, q6⟩ := HP.out
          have hhd : kz.hd = ⟨2, 3, 4, kz.heard, true⟩ := by unfold Lk.hd; rw [q1, q2, q3, q4]
          have hseq := pks_seq q5
          have hpl := pks_len kz
          have hfz := haz.few
          have hsz := haz.sb
          rw [hhd] at hpk
          clear q1 q2 q3 q4 q5 q6 hhd
          go_wp2_with fail
          refine hpk.mono ?_
          rintro e w6 ⟨v6, ⟨rfl, hk6⟩, hp6⟩
          clear hpk
          obtain ⟨a6, c6, rfl⟩ := hp6.slice
          have hz6 := haz.no hk6
          have hop6 := open_c hz6
          have hse6 := sent_c hz6
          have HZ6 := Lib.hid hz6
          have HR6 := Lib.hid hp6.row
          clear hz6 hp6 haz
          by_cases h0 : kz.L.length = 0
          · rw [if_pos h0] at hpl
            have HSEQ := Lib.hid (show ∀ j (h : j < kz.pks.length), kz.pks[j].1 = 0 from fun j h => by rw [hseq j h, if_pos h0])
            rw [h0] at hop6
            have HL0 := Lib.hid h0
            clear hseq h0
            go_wp2_with (go_at_call 14; refine hop6.mono ?_; rintro e w' ⟨rfl, rfl⟩)
            go_loopw [87] (fun v wy => ∃ j : Nat, j ≤ kz.pks.length ∧ v = .int .i64 j ∧ Keeps noB w6 wy)
              (fun v _ => kz.pks.length - (intOf v).toNat)
            case atStart => exact ⟨0, by omega, rfl, Keeps.refl _ _⟩
            case round =>
              obtain ⟨j, hj, rfl, hky⟩ := hrel
              by_cases hlt2 : j < kz.pks.length
              · obtain ⟨g6, o6, rfl, _, _, ab, cb, x0, x1, x2, x3, x4, x5, x6, _⟩ := (HR6.out.no hky).at_ hlt2
                rw [HSEQ.out j hlt2] at x3
                simp only at x0 x1 x2 x4 x5
                have hyA : Keeps noB wr (wr.alloc (.cells #[.int .i64 2, .int .i64 3, .int .i64 4, .int .i64 0, .int .i64 kz.heard, .bool true, .slice ab kz.pks[j].2.length cb] 24)) := (Keeps.refl _ _).alloc _
                have hz7 := (HZ6.out.no hky).no hyA
                go_wp2_with fail
                go_quiet ((first | (go_at_call 14; exact quiet_ret (open0_c HL0.out (hz7.no ((Keeps.refl noB _).drewN _)))) | (go_at_call 17; exact quiet_ret (sent_c (hz7.no ((Keeps.refl noB _).drewN _))))))
                go_wp2_with fail
                go_roundw
                case rel => exact ⟨j + 1, by omega, by go_num, (hky.trans_no hyA).drewN _⟩
                case measure => simp [intOf]; omega
              · have : j = kz.pks.length := by omega
                clear hop6 hse6
                go_wp2_with fail
                go_roundw
                case rel =>
                  obtain ⟨g1, g2', g3, g4, g5, g6⟩ := HP.out
                  exact ⟨i + 1, by omega, by go_num, (hkz.trans_no hk6).trans_no hky, Sz, kz, viz, HZ6.out.no hky, HSz.out, g1, g2', g3, g4, g6, g5⟩
                case measure => simp [intOf]; omega

          · rw [if_neg h0] at hpl
            obtain ⟨m, hm⟩ : ∃ m, m = kz.L.length := ⟨_, rfl⟩
            rw [← hm] at hpl hop6 h0 hfz
            rw [← hm] at hseq
            have HM := Lib.hid hm
            clear hm
            have HSEQ := Lib.hid (show ∀ j (h : j < kz.pks.length), kz.pks[j].1 = kz.sent - m + 1 + j from fun j h => by rw [hseq j h, if_neg h0])
            have d3 : decide ((m : Int) > 0) = true := decide_eq_true (by omega)
            have d5 : decide (0 < m) = true := decide_eq_true (by omega)
            have d6 : 0 < m := by omega
            have d4 : ((m : Int) == 0) = false := by simp; exact h0
            have hmx : (if (1 : Int) < m then (m : Int) else 1) = m := by split <;> omega
            clear hseq
            go_wp2_with (go_at_call 14; refine hop6.mono ?_; rintro e w' ⟨rfl, rfl⟩)
            go_loopw [87] (fun v wy => ∃ j : Nat, j ≤ kz.pks.length ∧ v = .int .i64 j ∧ Keeps noB w6 wy)
              (fun v _ => kz.pks.length - (intOf v).toNat)
            case atStart => exact ⟨0, by omega, rfl, Keeps.refl _ _⟩
            case round =>
              obtain ⟨j, hj, rfl, hky⟩ := hrel
              by_cases hlt2 : j < kz.pks.length
              · obtain ⟨g6, o6, rfl, _, _, ab, cb, x0, x1, x2, x3, x4, x5, x6, _⟩ := (HR6.out.no hky).at_ hlt2
                rw [HSEQ.out j hlt2] at x3
                simp only at x0 x1 x2 x4 x5
                have hyA : Keeps noB wr (wr.alloc (.cells #[.int .i64 2, .int .i64 3, .int .i64 4, .int .i64 (kz.sent - m + 1 + j), .int .i64 kz.heard, .bool true, .slice ab kz.pks[j].2.length cb] 24)) := (Keeps.refl _ _).alloc _
                have hz7 := (HZ6.out.no hky).no hyA
                go_wp2_with fail
                go_quiet ((first | (go_at_call 14; exact quiet_ret (openm_c HM.out (hz7.no ((Keeps.refl noB _).drewN _)))) | (go_at_call 17; exact quiet_ret (sent_c (hz7.no ((Keeps.refl noB _).drewN _))))))
                go_wp2_with fail
                go_roundw
                case rel => exact ⟨j + 1, by omega, by go_num, (hky.trans_no hyA).drewN _⟩
                case measure => simp [intOf]; omega
              · have : j = kz.pks.length := by omega
                clear hop6 hse6
                go_wp2_with fail
                go_roundw
                case rel =>
                  obtain ⟨g1, g2', g3, g4, g5, g6⟩ := HP.out
                  exact ⟨i + 1, by omega, by go_num, (hkz.trans_no hk6).trans_no hky, Sz, kz, viz, HZ6.out.no hky, HSz.out, g1, g2', g3, g4, g6, g5⟩
                case measure => simp [intOf]; omega

        · obtain ⟨kz, rfl⟩ : ∃ kz, kz = kz0 := ⟨_, rfl⟩
          have haz := haz0
          have HP := HP1
          have hkz := hkz0
          clear haz0 HP1 hkz0
          have hpk := packets_c haz
          obtain ⟨q1, q2, q3, q4, q5, q6⟩ := HP.out
          have hhd : kz.hd = ⟨2, 3, 4, kz.heard, true⟩ := by unfold Lk.hd; rw [q1, q2, q3, q4]
          have hseq := pks_seq q5
          have hpl := pks_len kz
          have hfz := haz.few
          have hsz := haz.sb
          rw [hhd] at hpk
          clear q1 q2 q3 q4 q5 q6 hhd
          go_wp2_with fail
          refine hpk.mono ?_
          rintro e w6 ⟨v6, ⟨rfl, hk6⟩, hp6⟩
          clear hpk
          obtain ⟨a6, c6, rfl⟩ := hp6.slice
          have hz6 := haz.no hk6
          have hop6 := open_c hz6
          have hse6 := sent_c hz6
          have HZ6 := Lib.hid hz6
          have HR6 := Lib.hid hp6.row
          clear hz6 hp6 haz
          by_cases h0 : kz.L.length = 0
          · rw [if_pos h0] at hpl
            have HSEQ := Lib.hid (show ∀ j (h : j < kz.pks.length), kz.pks[j].1 = 0 from fun j h => by rw [hseq j h, if_pos h0])
            rw [h0] at hop6
            have HL0 := Lib.hid h0
            clear hseq h0
            go_wp2_with (go_at_call 14; refine hop6.mono ?_; rintro e w' ⟨rfl, rfl⟩)
            go_loopw [87] (fun v wy => ∃ j : Nat, j ≤ kz.pks.length ∧ v = .int .i64 j ∧ Keeps noB w6 wy)
              (fun v _ => kz.pks.length - (intOf v).toNat)
            case atStart => exact ⟨0, by omega, rfl, Keeps.refl _ _⟩
            case round =>
              obtain ⟨j, hj, rfl, hky⟩ := hrel
              by_cases hlt2 : j < kz.pks.length
              · obtain ⟨g6, o6, rfl, _, _, ab, cb, x0, x1, x2, x3, x4, x5, x6, _⟩ := (HR6.out.no hky).at_ hlt2
                rw [HSEQ.out j hlt2] at x3
                simp only at x0 x1 x2 x4 x5
                have hyA : Keeps noB wr (wr.alloc (.cells #[.int .i64 2, .int .i64 3, .int .i64 4, .int .i64 0, .int .i64 kz.heard, .bool true, .slice ab kz.pks[j].2.length cb] 24)) := (Keeps.refl _ _).alloc _
                have hz7 := (HZ6.out.no hky).no hyA
                go_wp2_with fail
                go_quiet ((first | (go_at_call 14; exact quiet_ret (open0_c HL0.out (hz7.no ((Keeps.refl noB _).drewN _)))) | (go_at_call 17; exact quiet_ret (sent_c (hz7.no ((Keeps.refl noB _).drewN _))))))
                go_wp2_with fail
                go_roundw
                case rel => exact ⟨j + 1, by omega, by go_num, (hky.trans_no hyA).drewN _⟩
                case measure => simp [intOf]; omega
              · have : j = kz.pks.length := by omega
                clear hop6 hse6
                go_wp2_with fail
                go_roundw
                case rel =>
                  obtain ⟨g1, g2', g3, g4, g5, g6⟩ := HP.out
                  exact ⟨i + 1, by omega, by go_num, (hkz.trans_no hk6).trans_no hky, Sz, kz, viz, HZ6.out.no hky, HSz.out, g1, g2', g3, g4, g6, g5⟩
                case measure => simp [intOf]; omega

          · rw [if_neg h0] at hpl
            obtain ⟨m, hm⟩ : ∃ m, m = kz.L.length := ⟨_, rfl⟩
            rw [← hm] at hpl hop6 h0 hfz
            rw [← hm] at hseq
            have HM := Lib.hid hm
            clear hm
            have HSEQ := Lib.hid (show ∀ j (h : j < kz.pks.length), kz.pks[j].1 = kz.sent - m + 1 + j from fun j h => by rw [hseq j h, if_neg h0])
            have d3 : decide ((m : Int) > 0) = true := decide_eq_true (by omega)
            have d5 : decide (0 < m) = true := decide_eq_true (by omega)
            have d6 : 0 < m := by omega
            have d4 : ((m : Int) == 0) = false := by simp; exact h0
            have hmx : (if (1 : Int) < m then (m : Int) else 1) = m := by split <;> omega
            clear hseq
            go_wp2_with (go_at_call 14; refine hop6.mono ?_; rintro e w' ⟨rfl, rfl⟩)
            go_loopw [87] (fun v wy => ∃ j : Nat, j ≤ kz.pks.length ∧ v = .int .i64 j ∧ Keeps noB w6 wy)
              (fun v _ => kz.pks.length - (intOf v).toNat)
            case atStart => exact ⟨0, by omega, rfl, Keeps.refl _ _⟩
            case round =>
              obtain ⟨j, hj, rfl, hky⟩ := hrel
              by_cases hlt2 : j < kz.pks.length
              · obtain ⟨g6, o6, rfl, _, _, ab, cb, x0, x1, x2, x3, x4, x5, x6, _⟩ := (HR6.out.no hky).at_ hlt2
                rw [HSEQ.out j hlt2] at x3
                simp only at x0 x1 x2 x4 x5
                have hyA : Keeps noB wr (wr.alloc (.cells #[.int .i64 2, .int .i64 3, .int .i64 4, .int .i64 (kz.sent - m + 1 + j), .int .i64 kz.heard, .bool true, .slice ab kz.pks[j].2.length cb] 24)) := (Keeps.refl _ _).alloc _
                have hz7 := (HZ6.out.no hky).no hyA
                go_wp2_with fail
                go_quiet ((first | (go_at_call 14; exact quiet_ret (openm_c HM.out (hz7.no ((Keeps.refl noB _).drewN _)))) | (go_at_call 17; exact quiet_ret (sent_c (hz7.no ((Keeps.refl noB _).drewN _))))))
                go_wp2_with fail
                go_roundw
                case rel => exact ⟨j + 1, by omega, by go_num, (hky.trans_no hyA).drewN _⟩
                case measure => simp [intOf]; omega
              · have : j = kz.pks.length := by omega
                clear hop6 hse6
                go_wp2_with fail
                go_roundw
                case rel =>
                  obtain ⟨g1, g2', g3, g4, g5, g6⟩ := HP.out
                  exact ⟨i + 1, by omega, by go_num, (hkz.trans_no hk6).trans_no hky, Sz, kz, viz, HZ6.out.no hky, HSz.out, g1, g2', g3, g4, g6, g5⟩
                case measure => simp [intOf]; omega
    · have : i = len := by omega
      subst this
      go_wp2_with fail
      go_ret
      exact ⟨rfl, hkp⟩
end Go.Proofs.Ytoeikgaikdbpbaa
