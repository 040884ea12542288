/- Got: whether a packet belongs to a link, and what is dropped. No condition. -/
import Derived.Test.YtoeikgaikdbpbaaLkAll
namespace Go.Proofs.Ytoeikgaikdbpbaa
open Go.RowKit

def mineB (k : Lk) (pc pe pb pa : Int) (pv : Bool) : Bool := pc == k.c && (pe == k.e && (pb == k.b && (pv != k.v && decide (pa ≤ k.sent))))

set_option maxRecDepth 100000 in
set_option maxHeartbeats 8000000 in
theorem mine_c {w : World} {S : Nat → Prop} {p : Nat} {k : Lk} {vi : Value} (h : LkAt w S p k vi) (pc pe pb ps pa : Int) (pv : Bool) (ab : Option Addr) (n cb : Nat) :
    Calls Try.prog 23 #[.pointer (some ⟨p, 0, none⟩), .agg #[.int .i64 pc, .int .i64 pe, .int .i64 pb, .int .i64 ps, .int .i64 pa, .bool pv, .slice ab n cb]] w (RetK noB (.bool (mineB k pc pe pb pa pv)) w) := by
  have hkA : Keeps noB w (w.alloc (.cells #[.int .i64 pc, .int .i64 pe, .int .i64 pb, .int .i64 ps, .int .i64 pa, .bool pv, .slice ab n cb] 24)) := (Keeps.refl _ _).alloc _
  have hA := h.no hkA
  have c0 := hA.c0
  have c1 := hA.c1
  have c2 := hA.c2
  have c5 := hA.c5
  have c8 := hA.c8
  have h5 := heap_alloc_new w (.cells #[.int .i64 pc, .int .i64 pe, .int .i64 pb, .int .i64 ps, .int .i64 pa, .bool pv, .slice ab n cb] 24)
  have q0 := blk_cell h5 (i := 0) rfl
  have q1 := blk_cell h5 (i := 1) rfl
  have q2 := blk_cell h5 (i := 2) rfl
  have q4 := blk_cell h5 (i := 4) rfl
  have q5 := blk_cell h5 (i := 5) rfl
  clear h hA h5
  unfold mineB
  generalize k.c = kc at *
  generalize k.e = ke at *
  generalize k.b = kb at *
  generalize k.v = kv at *
  generalize k.sent = kt at *
  generalize hw : w.alloc (.cells #[.int .i64 pc, .int .i64 pe, .int .i64 pb, .int .i64 ps, .int .i64 pa, .bool pv, .slice ab n cb] 24) = wA at *
  have HW := Lib.hid hw
  go_enter Try.func23, Try.ntmps23
  cases h1 : (pc == kc)
  · go_upto_region 1 with fail
    clear hw
    go_quiet (fail)
    go_wp2_with fail
    go_quiet (fail)
    go_wp2_with fail
    go_ret
    exact ⟨rfl, (hkA.drewN _).drewN _⟩
  · cases h2 : (pe == ke)
    · go_upto_region 1 with fail
      clear hw
      go_quiet (fail)
      go_wp2_with fail
      go_quiet (fail)
      go_wp2_with fail
      go_ret
      exact ⟨rfl, (hkA.drewN _).drewN _⟩
    · cases h3 : (pb == kb)
      · go_upto_region 1 with fail
        clear hw
        go_quiet (fail)
        go_wp2_with fail
        go_quiet (fail)
        go_wp2_with fail
        go_ret
        exact ⟨rfl, (hkA.drewN _).drewN _⟩
      · cases pv
        · cases kv
          · go_upto_region 1 with fail
            clear hw
            go_quiet (fail)
            go_wp2_with fail
            go_quiet (fail)
            go_wp2_with fail
            go_ret
            exact ⟨rfl, (hkA.drewN _).drewN _⟩
          · cases h5 : decide (pa ≤ kt)
            · go_upto_region 1 with fail
              clear hw
              go_quiet (fail)
              go_wp2_with fail
              go_quiet (fail)
              go_wp2_with fail
              go_ret
              exact ⟨rfl, (hkA.drewN _).drewN _⟩
            · go_upto_region 1 with fail
              clear hw
              go_quiet (fail)
              go_wp2_with fail
              go_quiet (fail)
              go_wp2_with fail
              go_ret
              exact ⟨rfl, (hkA.drewN _).drewN _⟩
        · cases kv
          · cases h5 : decide (pa ≤ kt)
            · go_upto_region 1 with fail
              clear hw
              go_quiet (fail)
              go_wp2_with fail
              go_quiet (fail)
              go_wp2_with fail
              go_ret
              exact ⟨rfl, (hkA.drewN _).drewN _⟩
            · go_upto_region 1 with fail
              clear hw
              go_quiet (fail)
              go_wp2_with fail
              go_quiet (fail)
              go_wp2_with fail
              go_ret
              exact ⟨rfl, (hkA.drewN _).drewN _⟩
          · go_upto_region 1 with fail
            clear hw
            go_quiet (fail)
            go_wp2_with fail
            go_quiet (fail)
            go_wp2_with fail
            go_ret
            exact ⟨rfl, (hkA.drewN _).drewN _⟩
end Go.Proofs.Ytoeikgaikdbpbaa
