/- SamePackets; a packet that isn't for a link. No condition. -/
import Derived.Test.YtoeikgaikdbpbaaLawLinkWindow
namespace Go.Proofs.Ytoeikgaikdbpbaa
open Go.RowKit

set_option maxRecDepth 100000 in
set_option maxHeartbeats 8000000 in
theorem samePk_c {w : World} {D E : Nat → Prop} (c e b s k : Int) (v : Bool) (l : List Int) (a a' : Option Addr) (m m' : Nat) (h1 : ByR w D a l) (h2 : ByR w E a' l) :
    Calls Try.prog 26 #[.agg #[.int .i64 c, .int .i64 e, .int .i64 b, .int .i64 s, .int .i64 k, .bool v, .slice a l.length m], .agg #[.int .i64 c, .int .i64 e, .int .i64 b, .int .i64 s, .int .i64 k, .bool v, .slice a' l.length m']] w (RetK noB (.bool true) w) := by
  have hkA : Keeps noB w ((w.alloc (.cells #[.int .i64 c, .int .i64 e, .int .i64 b, .int .i64 s, .int .i64 k, .bool v, .slice a l.length m] 24)).alloc (.cells #[.int .i64 c, .int .i64 e, .int .i64 b, .int .i64 s, .int .i64 k, .bool v, .slice a' l.length m'] 24)) := ((Keeps.refl _ _).alloc _).alloc _
  have s1 := conv_c (h1.keep hkA (fun b _ => noB_not b)) m
  have s2 := conv_c (h2.keep hkA (fun b _ => noB_not b)) m'
  go_enter Try.func26, Try.ntmps26
  go_wp2_with fail
  go_ret
  exact ⟨rfl, hkA⟩

set_option maxRecDepth 100000 in
set_option maxHeartbeats 8000000 in
theorem samePks_true {w : World} {D E : Nat → Prop} {va vb : Value} {h : Hd} {ps : List (Int × List Int)} (ha : PkR w D va h ps) (hb : PkR w E vb h ps) (hn : ps.length ≤ 1000000) : Calls Try.prog 16 #[va, vb] w (RetK noB (.bool true) w) := by
  obtain ⟨a, c, rfl⟩ := ha.slice
  obtain ⟨b, d, rfl⟩ := hb.slice
  have HA := Lib.hid ha
  have HB := Lib.hid hb
  clear ha hb
  go_enter Try.func16, Try.ntmps16
  go_wp2_with fail
  go_loopw [13] (fun i wr => ∃ k : Nat, k ≤ ps.length ∧ i = .int .i64 k ∧ Keeps noB w wr)
    (fun i _ => ps.length - (intOf i).toNat)
  case atStart => exact ⟨0, by omega, rfl, Keeps.refl _ _⟩
  case round =>
    obtain ⟨k, hk, rfl, hkp⟩ := hrel
    by_cases hlt : k < ps.length
    · obtain ⟨g1, o1, rfl, _, _, a1, c1, x0, x1, x2, x3, x4, x5, x6, hx⟩ := (HA.out.no hkp).at_ hlt
      obtain ⟨g2, o2, rfl, _, _, a2, c2, y0, y1, y2, y3, y4, y5, y6, hy⟩ := (HB.out.no hkp).at_ hlt
      have hC := samePk_c h.c h.e h.b ps[k].1 h.k h.v ps[k].2 a1 a2 c1 c2 hx hy
      have hC1 := samePk_c (w := wr.drew) h.c h.e h.b ps[k].1 h.k h.v ps[k].2 a1 a2 c1 c2 (hx.keep ((Keeps.refl noB wr).drew) (fun b _ => noB_not b)) (hy.keep ((Keeps.refl noB wr).drew) (fun b _ => noB_not b))
      have hC2 := samePk_c (w := wr.drewN 1) h.c h.e h.b ps[k].1 h.k h.v ps[k].2 a1 a2 c1 c2 (hx.keep ((Keeps.refl noB wr).drewN 1) (fun b _ => noB_not b)) (hy.keep ((Keeps.refl noB wr).drewN 1) (fun b _ => noB_not b))
      go_wp2_with fail
      go_region_with (go_at_call 26; (first | refine hC.mono ?_ | refine hC1.mono ?_ | refine hC2.mono ?_); rintro e w1 ⟨rfl, hk1⟩)
      all_goals
        go_wp2_with fail
        go_roundw
        case rel => exact ⟨k + 1, by omega, by go_num, hkp.trans_no (by first | exact hk1 | exact ((Keeps.refl noB wr).drew).trans_no hk1 | exact ((Keeps.refl noB wr).drewN 1).trans_no hk1)⟩
        case measure => simp [intOf]; omega
    · have : k = ps.length := by omega
      go_wp2_with fail
      go_ret
      exact ⟨rfl, hkp⟩

set_option maxRecDepth 100000 in
set_option maxHeartbeats 8000000 in
theorem got_no {w : World} {S : Nat → Prop} {p : Nat} {k : Lk} {vi : Value} (h : LkAt w S p k vi) (pc pe pb ps pa : Int) (pv : Bool) (ab : Option Addr) (n cb : Nat) (hm : mineB k pc pe pb pa pv = false) :
    Calls Try.prog 13 #[.pointer (some ⟨p, 0, none⟩), .agg #[.int .i64 pc, .int .i64 pe, .int .i64 pb, .int .i64 ps, .int .i64 pa, .bool pv, .slice ab n cb]] w (RetK noB (.tuple #[.slice none 0 0, .bool false]) w) := by
  have hkA : Keeps noB w (w.alloc (.cells #[.int .i64 pc, .int .i64 pe, .int .i64 pb, .int .i64 ps, .int .i64 pa, .bool pv, .slice ab n cb] 24)) := (Keeps.refl _ _).alloc _
  have hmi := mine_c (h.no hkA) pc pe pb ps pa pv ab n cb
  rw [hm] at hmi
  go_enter Try.func13, Try.ntmps13
  go_wp2_with fail
  refine hmi.mono ?_
  rintro e w1 ⟨rfl, hk1⟩
  go_wp2_with fail
  go_ret2
  exact ⟨rfl, hkA.trans_no hk1⟩
end Go.Proofs.Ytoeikgaikdbpbaa
