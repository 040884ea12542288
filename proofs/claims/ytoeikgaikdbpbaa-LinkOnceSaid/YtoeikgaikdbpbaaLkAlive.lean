/- linkAlive, LinkNames. No condition. -/
import Derived.Test.YtoeikgaikdbpbaaLkGot
import Derived.Lib.SlBytesConst
namespace Go.Proofs.Ytoeikgaikdbpbaa
open Go.RowKit

@[go_sem] theorem conv22two (w : World) (x y : Value) (n c : Nat) : (convert 22 22 (.slice (some ⟨w.heap.size, 0, none⟩) n c)).run Try.prog (w.alloc (.cells #[x, y] 5)) = .ok (.slice (some ⟨w.heap.size, 0, none⟩) n c) (w.alloc (.cells #[x, y] 5 (2, 3))) :=
  Lib.run_convert_bytes_const w 22 5 #[x, y] n c Try.underlying22 Try.underlying5
theorem two_byr {w : World} (x y : Int) (fr : Nat × Nat) : ByR (w.alloc (.cells #[.int .u8 x, .int .u8 y] 5 fr)) (fun z => w.heap.size ≤ z) (some ⟨w.heap.size, 0, none⟩) [x, y] := by
  intro k hk
  have h2 : k < 2 := by simpa using hk
  refine ⟨w.heap.size, 0, rfl, Nat.le_refl _, by rw [alloc_size]; omega, ?_⟩
  match k, h2 with
  | 0, _ => exact blk_cell (heap_alloc_new _ _) rfl
  | 1, _ => exact blk_cell (heap_alloc_new _ _) rfl

set_option maxRecDepth 100000 in
set_option maxHeartbeats 8000000 in
theorem linkAlive_c (w : World) : Calls Try.prog 9 #[] w (RetK noB (.bool true) w) := by
  go_enter Try.func9, Try.ntmps9
  go_wp2_with fail
  refine (new_c 1 2 3 false w).mono ?_
  rintro e w1 ⟨⟨rfl, hk1⟩, hs1, ha1⟩
  go_wp2_with fail
  refine (new_c 1 2 3 true w1).mono ?_
  rintro e w2 ⟨⟨rfl, hk2⟩, hs2, hb2⟩
  have ha2 := ha1.no hk2
  clear ha1
  have HS1 := Lib.hid hs1
  have HS2 := Lib.hid hs2
  clear hs1 hs2
  have hkL := (Keeps.refl noB w2).alloc (.cells #[.int .u8 104, .int .u8 105] 5 (2, 3))
  have hP := push_c (ha2.no hkL) _ _ [104, 105] 2 (by simp) (two_byr 104 105 (2, 3))
  have hpe : pushE (newLk 1 2 3 false) [104, 105] = 0 := by decide
  rw [hpe] at hP
  simp only [if_true, List.length_cons, List.length_nil, Nat.zero_add, Nat.reduceAdd] at hP
  go_wp2_with fail
  refine hP.mono ?_
  rintro e w3 ⟨⟨rfl, hk3⟩, Sa, hSa1, hSa2, va, ta, hts, htl, ha3⟩
  clear hP hpe hSa1
  obtain ⟨ka, hka⟩ : ∃ ka, ka = (newLk 1 2 3 false).add ta := ⟨_, rfl⟩
  have hka1 : ka.pks = [(1, [104, 105])] := by rw [hka]; unfold Lk.pks Lk.add newLk; rw [if_neg (by simp)]; simp [hts, htl, newLk]
  have hka2 : ka.hd = ⟨1, 2, 3, 0, false⟩ := by rw [hka]; rfl
  have hb3 : LkAt w3 (oneB w1.heap.size) w1.heap.size (newLk 1 2 3 true) (.slice none 0 0) := (hb2.no hkL).keep hk3 (fun x hx h => by
    unfold oneB at hx h; have := hk1.size; have := HS1.out; omega)
  have hSab : ∀ x, Sa x → x ≠ w1.heap.size := fun x hx e => by
    have h1 := HS1.out; have h2 := HS2.out
    rcases hSa2 x hx with h | h
    · unfold oneB at h; omega
    · rw [alloc_size] at h; omega
  have hpks := packets_c ha3
  rw [← hka] at hpks ha3
  rw [hka1, hka2] at hpks
  have hSw : ∀ x, Sa x → w.heap.size ≤ x := fun x hx => by
    have h1 := HS1.out; have h2 := HS2.out
    rcases hSa2 x hx with h | h
    · unfold oneB at h; omega
    · rw [alloc_size] at h; omega
  have HSw := Lib.hid hSw
  clear hSw
  have HKA := Lib.hid hka
  have HTS := Lib.hid hts
  have hs23 := hk3.size
  rw [alloc_size] at hs23
  have HS23 := Lib.hid hs23
  clear hs23
  have HSab := Lib.hid hSab
  have HB3 := Lib.hid hb3
  have HA3 := Lib.hid ha3
  have hw3 : Keeps noB w w3 := ((hk1.trans_no hk2).trans_no hkL).trans hk3 (fun x hx h => by unfold oneB at h; omega)
  clear hka hka1 hka2 hSa2 hSab hb3 ha3 hts htl ha2 hb2 hkL hk3
  go_wp2_with fail
  refine hpks.mono ?_
  rintro e w4 ⟨v4, ⟨rfl, hk4⟩, hp4⟩
  clear hpks
  obtain ⟨a4, c4, rfl⟩ := hp4.slice
  obtain ⟨g4, o4, rfl, hg4, hB4, ab4, cb4, x0, x1, x2, x3, x4, x5, x6, hb4⟩ := hp4.row.at_ (i := 0) (by simp)
  have hb3' := HB3.out.no hk4
  have hG1 := got_c hb3' ⟨1, 2, 3, 1, 0, false, [104, 105]⟩ _ (fun x hx h => by have := HB3.out.lt x h; omega) ab4 cb4 (by simp) hb4 (by simp)
  have gt1 : (newLk 1 2 3 true).takes ⟨1, 2, 3, 1, 0, false, [104, 105]⟩ = true := by decide
  have gg1 : (newLk 1 2 3 true).got ⟨1, 2, 3, 1, 0, false, [104, 105]⟩ = ⟨1, 2, 3, true, [], 0, 1⟩ := by rfl
  have gl1 : gotL (newLk 1 2 3 true) ⟨1, 2, 3, 1, 0, false, [104, 105]⟩ = [104, 105] := by unfold gotL; rw [gt1]; rfl
  rw [gt1, gg1, gl1] at hG1
  clear gt1 gg1 gl1 hb3'
  have hr4 := hp4.row
  have HR4 := Lib.hid hr4
  clear hr4 hp4
  simp only [List.getElem_cons_zero, Nat.zero_mul, Nat.add_zero, List.length_cons, List.length_nil, Nat.zero_add, Nat.reduceAdd] at x0 x1 x2 x3 x4 x5 x6 hG1
  go_wp2_with fail
  refine hG1.mono ?_
  rintro e w5 ⟨a5, c5, ⟨rfl, hk5⟩, ⟨vb5, hb5⟩, hO5⟩
  clear hG1 x0 x1 x2 x3 x4 x5 x6
  have h13 : w1.heap.size < w3.heap.size := by have h1 := HS1.out; have h2 := HS2.out; have h3 := HS23.out; omega
  have hr5 := HR4.out.keep hk5 (fun b _ h1 h2 => by unfold oneB at h2; omega)
  obtain ⟨g5, o5, hg5, hgl5, hB5, ab5, cb5, x0, x1, x2, x3, x4, x5, x6, hb5'⟩ := hr5.at_ (i := 0) (by simp)
  simp at hg5
  obtain ⟨rfl, rfl⟩ := hg5
  have hG2 := got_c hb5 ⟨1, 2, 3, 1, 0, false, [104, 105]⟩ _ (fun x hx h => by unfold oneB at h; omega) ab5 cb5 (by simp) hb5' (by simp)
  have gt1 : (⟨1, 2, 3, true, [], 0, 1⟩ : Lk).takes ⟨1, 2, 3, 1, 0, false, [104, 105]⟩ = false := by decide
  have gg1 : (⟨1, 2, 3, true, [], 0, 1⟩ : Lk).got ⟨1, 2, 3, 1, 0, false, [104, 105]⟩ = ⟨1, 2, 3, true, [], 0, 1⟩ := by rfl
  have gl1 : gotL (⟨1, 2, 3, true, [], 0, 1⟩ : Lk) ⟨1, 2, 3, 1, 0, false, [104, 105]⟩ = [] := by unfold gotL; rw [gt1]; rfl
  rw [gt1, gg1, gl1] at hG2
  clear gt1 gg1 gl1 hr5 hb5
  simp only [List.getElem_cons_zero, Nat.zero_mul, Nat.add_zero, List.length_cons, List.length_nil, Nat.zero_add, Nat.reduceAdd] at x0 x1 x2 x3 x4 x5 x6 hG2
  go_wp2_with fail
  refine hG2.mono ?_
  rintro e w6 ⟨a6, c6, ⟨rfl, hk6⟩, ⟨vb6, hb6⟩, hO6⟩
  clear hG2 x0 x1 x2 x3 x4 x5 x6 hO6 hb5'
  have hpk := packets_c hb6
  have p1 : (⟨1, 2, 3, true, [], 0, 1⟩ : Lk).pks = [(0, [])] := by rfl
  have p2 : (⟨1, 2, 3, true, [], 0, 1⟩ : Lk).hd = ⟨1, 2, 3, 1, true⟩ := by rfl
  rw [p1, p2] at hpk
  clear p1 p2
  go_wp2_with fail
  refine hpk.mono ?_
  rintro e w7 ⟨v7, ⟨rfl, hk7⟩, hp7⟩
  clear hpk
  obtain ⟨a7, c7, rfl⟩ := hp7.slice
  obtain ⟨g7, o7, rfl, hg7, hB7, ab7, cb7, x0, x1, x2, x3, x4, x5, x6, hb7⟩ := hp7.row.at_ (i := 0) (by simp)
  have hs4 := hk4.size
  have hs5 := hk5.size
  have hs6 := hk6.size
  have hs7 := hk7.size
  have ha7 := (((HA3.out.no hk4).keep hk5 (fun x hx h => HSab.out x hx h)).keep hk6 (fun x hx h => HSab.out x hx h)).no hk7
  have hG3 := got_c ha7 ⟨1, 2, 3, 0, 1, true, []⟩ _ (fun x hx h => by have := HA3.out.lt x h; omega) ab7 cb7 (by simp) hb7 (by simp)
  have gt1 : ka.takes ⟨1, 2, 3, 0, 1, true, []⟩ = false := by unfold Lk.takes; simp
  have gg1 : (ka.got ⟨1, 2, 3, 0, 1, true, []⟩).L = [] := by
    have h1 := HTS.out
    rw [HKA.out]
    simp [Lk.got, Lk.mine, mineB, Lk.add, newLk, kept, h1]
  have gl1 : gotL ka ⟨1, 2, 3, 0, 1, true, []⟩ = [] := by unfold gotL; rw [gt1]; rfl
  rw [gt1, gl1] at hG3
  have HGG := Lib.hid gg1
  clear gt1 gg1 gl1 ha7
  simp only [List.getElem_cons_zero, Nat.zero_mul, Nat.add_zero, List.length_nil] at x0 x1 x2 x3 x4 x5 x6 hG3
  have HP7 := Lib.hid hp7
  clear hp7
  go_wp2_with fail
  refine hG3.mono ?_
  rintro e w8 ⟨a8, c8, ⟨rfl, hk8⟩, ⟨va8, ha8⟩, hO8⟩
  clear hG3 x0 x1 x2 x3 x4 x5 x6
  have hst : strOf [104, 105] = { data := #[104, 105] } := rfl
  have hSa : ∀ x, w4.heap.size ≤ x → ¬ Sa x := fun x hx h => by have := HA3.out.lt x h; omega
  have hO58 := ((hO5.keep hk6 (fun b h1 _ h2 => by unfold oneB at h2; omega)).keep hk7 (fun b _ _ => noB_not b)).keep hk8 (fun b h1 _ => hSa b h1)
  have hcv := conv_c hO58.byr c5
  rw [hst] at hcv
  simp only [List.length_cons, List.length_nil, Nat.zero_add, Nat.reduceAdd] at hcv
  have hop := open_c ha8
  rw [HGG.out] at hop
  have hhe := heard_c ((hb6.no hk7).keep hk8 (fun x hx h => by unfold oneB at hx; subst hx; exact HSab.out _ h rfl))
  simp only [List.length_nil] at hop hhe
  clear hst
  have hk58 : Keeps noB w w8 := ((((hw3.trans_no hk4).trans hk5 (fun x hx h => by unfold oneB at h; have := hk1.size; omega)).trans hk6 (fun x hx h => by unfold oneB at h; have := hk1.size; omega)).trans_no hk7).trans hk8 (fun x hx h => by
    have h1 := HSw.out x h
    omega)
  go_wp2_with (first | (go_at_call 14; refine hop.mono ?_; rintro e w9 ⟨rfl, rfl⟩) | (go_at_call 15; refine hhe.mono ?_; rintro e w9 ⟨rfl, rfl⟩))
  go_ret
  exact ⟨rfl, hk58⟩
end Go.Proofs.Ytoeikgaikdbpbaa
