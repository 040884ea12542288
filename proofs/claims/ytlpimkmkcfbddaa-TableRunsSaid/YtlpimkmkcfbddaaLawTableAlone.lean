/- TableAlone: whatever is done, an object that a client owns is a copy of it, and of nobody else: the law answers true at every input. -/
import Derived.Test.YtlpimkmkcfbddaaTabAlive
import Derived.Test.YtlpimkmkcfbddaaTabInv
import Derived.Test.YtlpimkmkcfbddaaRd
namespace Go.Proofs.Ytlpimkmkcfbddaa
open Go.RowKit

/-- The five numbers of an act. -/
def Q5 (f : Nat → Value) : Prop := IsI (f 0) ∧ IsI (f 1) ∧ IsI (f 2) ∧ IsI (f 3) ∧ IsI (f 4)

theorem TB.owns_sub {T : TB} (h : T.Inv) (c p : Nat) : (T.owns c p &&& ~~~(T.copies c p)) = 0#4 := by
  unfold TB.owns TB.copies
  by_cases e : inT c p = true
  · rw [if_pos e, if_pos e]; exact h.1 _ _
  · rw [if_neg e, if_neg e]; decide
theorem TB.owns_apart {T : TB} (h : T.Inv) (c d p : Nat) (hne : c ≠ d) : (T.owns c p &&& T.copies d p) = 0#4 := by
  unfold TB.owns TB.copies
  by_cases e : inT c p = true
  · rw [if_pos e]
    by_cases e2 : inT d p = true
    · rw [if_pos e2]
      obtain ⟨a, q, h1, h2, h3, h4⟩ := inT_open e
      obtain ⟨a2, q2, g1, g2, g3, g4⟩ := inT_open e2
      simp only [Int.toNat_natCast]
      exact h.2 _ _ _ (by omega) (by omega) hne
    · rw [if_neg e2]; simp
  · rw [if_neg e]; simp

set_option maxRecDepth 100000 in
set_option maxHeartbeats 4000000 in
theorem tableAlone_w (a : Option Addr) (len cap : Nat) (g : Nat → Nat → Value) (w : World) (hl : len ≤ maxLen) (hr : RdS w 5 a len g) (hq : ∀ k, k < len → Q5 (g k)) :
    Calls Try.prog 3 #[.slice a len cap] w (RetK noB (.bool true) w) := by
  unfold maxLen at hl
  by_cases h100 : 100 < len
  · go_enter Try.func3, Try.ntmps3
    go_wp2_with (go_at_call 20; refine (tableAlive_c _).mono ?_; rintro e w1 ⟨rfl, hk1⟩)
    go_ret
    exact ⟨rfl, hk1⟩
  · go_enter Try.func3, Try.ntmps3
    go_wp2_with (first | (go_at_call 20; refine (tableAlive_c _).mono ?_; rintro e w1 ⟨rfl, hk1⟩) | (go_at_call 21; refine (new_c _).mono ?_; rintro e w2 ⟨rfl, hk2, ht2⟩))
    go_loopw [17] (fun i wr => ∃ k : Nat, k ≤ len ∧ i = .int .i64 k ∧ Keeps noB w wr ∧ ∃ T : TB, T.Inv ∧ TabAt wr w1.heap.size T)
      (fun i _ => len - (intOf i).toNat)
    case atStart => exact ⟨0, by omega, rfl, hk1.trans_no hk2, TB.zero, TB.Inv.zero, ht2⟩
    case round =>
      obtain ⟨k, hk, rfl, hkp, T, hT, ht⟩ := hrel
      by_cases hlt : k < len
      · obtain ⟨b, off, rfl, hb, hc⟩ := (hr.keep hkp) k hlt
        obtain ⟨⟨n0, e0, l0, m0⟩, ⟨n1, e1, _⟩, ⟨n2, e2, _⟩, ⟨n3, e3, _⟩, ⟨n4, e4, _⟩⟩ := hq k hlt
        have c0 : wr.cell? ⟨b, off + k * 5, none⟩ = some (.int .i64 n0) := by rw [← e0]; exact hc 0 (by omega)
        have c1 : wr.cell? ⟨b, off + k * 5 + 1, none⟩ = some (.int .i64 n1) := by rw [← e1]; exact hc 1 (by omega)
        have c2 : wr.cell? ⟨b, off + k * 5 + 2, none⟩ = some (.int .i64 n2) := by rw [← e2]; exact hc 2 (by omega)
        have c3 : wr.cell? ⟨b, off + k * 5 + 3, none⟩ = some (.int .i64 n3) := by rw [← e3]; exact hc 3 (by omega)
        have c4 : wr.cell? ⟨b, off + k * 5 + 4, none⟩ = some (.int .i64 n4) := by rw [← e4]; exact hc 4 (by omega)
        clear e0 e1 e2 e3 e4 hc
        go_upto_block 2 with (fail)
        go_cut [] (fun wx => ∃ T' : TB, T'.Inv ∧ TabAt wx w1.heap.size T' ∧ Keeps noB w wx)
        case first =>
          have hta := ht.keep ((Keeps.refl noB wr).alloc (.cells #[.int .i64 n0, .int .i64 n1, .int .i64 n2, .int .i64 n3, .int .i64 n4] 27)) (noB_not _)
          have hno : ∀ x, x < w.heap.size → oneB w1.heap.size x → noB x := fun x hx h => by unfold oneB at h; have := hk1.size; omega
          go_wp2_with (first
            | (go_at_call 22; refine (grant_c _ _ _ _ _ _ _ hta).mono ?_; rintro e w3 ⟨⟨rfl, hk3⟩, ht3⟩)
            | (go_at_call 23; refine (drop_c _ _ _ _ _ _ _ hta).mono ?_; rintro e w3 ⟨⟨rfl, hk3⟩, ht3⟩)
            | (go_at_call 24; refine (clear_c _ _ _ _ hta).mono ?_; rintro e w3 ⟨⟨rfl, hk3⟩, ht3⟩))
          · go_meet
            exact ⟨_, hT.grant _ _ _ _, ht3, (hkp.alloc _).trans hk3 hno⟩
          · go_meet
            exact ⟨_, hT.drop _ _ _ _, ht3, (hkp.alloc _).trans hk3 hno⟩
          · go_meet
            exact ⟨_, hT.clr _, ht3, (hkp.alloc _).trans hk3 hno⟩
          · go_meet
            exact ⟨_, hT, hta, hkp.alloc _⟩
        case rest =>
          obtain ⟨T', hT', ht', hk'⟩ := hcut
          clear hT ht c0 c1 c2 c3 c4
          go_wp2_with fail
          go_loop [6] (fun v => ∃ p : Nat, p ≤ 6 ∧ v = .int .i64 p) (fun v => 6 - (intOf v).toNat)
          case atStart => exact ⟨0, by omega, rfl⟩
          case round =>
            obtain ⟨p, hp, rfl⟩ := hrel
            by_cases hp6 : p < 6
            · go_wp2_with fail
              go_loop [7] (fun v => ∃ c : Nat, c ≤ 4 ∧ v = .int .i64 c) (fun v => 4 - (intOf v).toNat)
              case atStart => exact ⟨0, by omega, rfl⟩
              case round =>
                obtain ⟨c, hc, rfl⟩ := hrel
                by_cases hc4 : c < 4
                · have hs := TB.owns_sub hT' c p
                  go_wp2_with (first | (go_at_call 25; refine (own_c _ _ _ _ _ ht').mono ?_; rintro e w' ⟨rfl, rfl⟩) | (go_at_call 26; refine (copies_c _ _ _ _ _ ht').mono ?_; rintro e w' ⟨rfl, rfl⟩))
                  clear hs
                  go_loop [8] (fun v => ∃ d : Nat, d ≤ 4 ∧ v = .int .i64 d) (fun v => 4 - (intOf v).toNat)
                  case atStart => exact ⟨0, by omega, rfl⟩
                  case round =>
                    obtain ⟨d, hd, rfl⟩ := hrel
                    by_cases hd4 : d < 4
                    · by_cases hcd : c = d
                      · have hb0 : ((c : Int) != (d : Int)) = false := by simp; omega
                        go_wp2_with fail
                        go_round
                        case rel => exact ⟨d + 1, by omega, by go_num⟩
                        case measure => simp [intOf]; omega
                      · have hb0 : ((c : Int) != (d : Int)) = true := by simp; omega
                        have hs := TB.owns_apart hT' c d p hcd
                        go_wp2_with (first | (go_at_call 25; refine (own_c _ _ _ _ _ ht').mono ?_; rintro e w' ⟨rfl, rfl⟩) | (go_at_call 26; refine (copies_c _ _ _ _ _ ht').mono ?_; rintro e w' ⟨rfl, rfl⟩))
                        go_round
                        case rel => exact ⟨d + 1, by omega, by go_num⟩
                        case measure => simp [intOf]; omega
                    · go_wp2_with fail
                      go_round
                      case rel => exact ⟨c + 1, by omega, by go_num⟩
                      case measure => simp [intOf]; omega
                · go_wp2_with fail
                  go_round
                  case rel => exact ⟨p + 1, by omega, by go_num⟩
                  case measure => simp [intOf]; omega
            · go_wp2_with fail
              go_roundw
              case rel => exact ⟨k + 1, by omega, by go_num, hk', T', hT', ht'⟩
              case measure => simp [intOf]; omega
      · go_wp2_with fail
        go_ret
        exact ⟨rfl, hkp⟩
end Go.Proofs.Ytlpimkmkcfbddaa
