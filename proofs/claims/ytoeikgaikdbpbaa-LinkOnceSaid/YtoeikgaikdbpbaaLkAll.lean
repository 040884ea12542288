/- Packets: what is under way. No condition. -/
import Derived.Test.YtoeikgaikdbpbaaLkPs
namespace Go.Proofs.Ytoeikgaikdbpbaa
open Go.RowKit

theorem take_map_snoc {α β : Type} (f : α → β) {L : List α} {i : Nat} (h : i < L.length) : (L.map f).take (i + 1) = (L.map f).take i ++ [f L[i]] := by
  rw [take_snoc (by simpa using h), List.getElem_map]

theorem packet_l {w : World} {S : Nat → Prop} {p : Nat} {k : Lk} {vi : Value} (h : LkAt w S p k vi) (D : Nat → Prop) (s : Int) (a : Option Addr) (l : List Int) (cap : Nat) (hl : l.length ≤ 1000000) (hr : ByR w D a l) :
    Calls Try.prog 22 #[.pointer (some ⟨p, 0, none⟩), .agg #[.int .i64 s, .slice a l.length cap]] w fun e w' => ∃ a' c', RetK noB (.agg #[.int .i64 k.c, .int .i64 k.e, .int .i64 k.b, .int .i64 s, .int .i64 k.heard, .bool k.v, .slice a' l.length c']) w e w' ∧ ByO w' w.heap.size a' c' l := packet_c h D s a l cap hl hr

set_option maxRecDepth 100000 in
set_option maxHeartbeats 8000000 in
theorem packets_c {w : World} {S : Nat → Prop} {p : Nat} {k : Lk} {vi : Value} (h : LkAt w S p k vi) :
    Calls Try.prog 12 #[.pointer (some ⟨p, 0, none⟩)] w fun e w' => ∃ v, RetK noB v w e w' ∧ PkO w' w.heap.size v k.hd k.pks := by
  obtain ⟨ia, ic, hvi⟩ := h.its.slice
  subst hvi
  have h7 := h.c7
  have hfew := h.few
  by_cases h0 : k.L = []
  · have hp : k.pks = [(0, [])] := by unfold Lk.pks; rw [if_pos h0]
    have hlen : k.L.length = 0 := by rw [h0]; rfl
    rw [hp]
    rw [hlen] at h7
    have hC := packet_l h (fun _ => True) 0 none [] 0 (by simp) (fun i hi => absurd hi (by simp))
    simp only [List.length_nil] at hC
    have HH := Lib.hid h
    clear h h0 hlen hfew
    go_enter Try.func12, Try.ntmps12
    go_wp2_with fail
    refine hC.mono ?_
    rintro e w1 ⟨a', c', ⟨rfl, hk1⟩, hO⟩
    have hs1 := hk1.size
    go_wp2_with fail
    go_ret
    refine ⟨_, ⟨rfl, hk1.alloc _⟩, (pk7 k.hd 0 a' 0 c').toList, ⟨rfl, .inr ⟨w1.heap.size, 1, _, rfl, hs1, heap_alloc_new _ _, Nat.le_refl _, by unfold maxLen; omega, rfl, rfl⟩⟩, fun i hi => ?_⟩
    obtain rfl : i = 0 := by simpa using hi
    exact ⟨a', c', fun j hj => by simp [pk7], hO.keep ((Keeps.refl noB w1).alloc _) (fun b _ _ => noB_not b)⟩
  · have hp : k.pks = k.L.map fun t => (t.s, t.l) := by unfold Lk.pks; rw [if_neg h0]
    have hlen : ((k.L.length : Int) == 0) = false := by
      have : k.L.length ≠ 0 := fun e => h0 (List.length_eq_zero_iff.1 e)
      simp; exact h0
    rw [hp]
    have HP := Lib.hid hp
    clear hp h0
    go_enter Try.func12, Try.ntmps12
    go_wp2_with fail
    go_loopw [3, 21] (fun v i wr => ∃ n : Nat, n ≤ k.L.length ∧ i = .int .i64 n ∧ Keeps noB w wr ∧ PkO wr w.heap.size v k.hd ((k.L.map fun t => (t.s, t.l)).take n))
      (fun _ i _ => k.L.length - (intOf i).toNat)
    case atStart => exact ⟨0, by omega, rfl, Keeps.refl _ _, [], World.ownsRow_nil _ _ _ _, fun i hi => absurd hi (by simp)⟩
    case round =>
      obtain ⟨n, hn, rfl, hkp, hrow⟩ := hrel
      have hsz := hkp.size
      by_cases hlt : n < k.L.length
      · have hr := h.no hkp
        have HH := Lib.hid h
        clear h h7
        have hits := hr.its
        obtain ⟨hbS, hbl⟩ := hr.bods k.L[n] (List.getElem_mem hlt)
        have hsn := take_map_snoc (fun t : It => (t.s, t.l)) hlt
        obtain ⟨it, hit⟩ : ∃ it, it = k.L[n] := ⟨_, rfl⟩
        rw [← hit] at hbS hbl hsn
        rcases hits with ⟨_, hL⟩ | ⟨g, c, hv, hSg, hcm, hb⟩
        · rw [hL] at hlt; simp at hlt
        · simp at hv
          obtain ⟨rfl, rfl⟩ := hv
          obtain ⟨x0, x1⟩ := hb.cell hlt
          rw [← hit] at x0 x1
          have HIT := Lib.hid hit
          have HSN := Lib.hid hsn
          have HB := Lib.hid hb
          clear hit hsn hb
          have hkA : Keeps noB wr (wr.alloc (.cells #[.int .i64 it.s, .slice it.a it.l.length it.c] 63)) := (Keeps.refl _ _).alloc _
          have hC := packet_l (hr.no hkA) S it.s it.a it.l it.c (by omega) (hbS.byr.keep hkA (fun b _ => noB_not b))
          have hsA := alloc_size wr (.cells #[.int .i64 it.s, .slice it.a it.l.length it.c] 63)
          have hrow1 := hrow.no hkA
          obtain ⟨ra, rc, hv⟩ := hrow.slice
          have hml : ((k.L.map fun t => (t.s, t.l)).take n).length = n := by simp; omega
          rw [hml] at hv
          subst hv
          have HML := Lib.hid hml
          clear hrow hml
          go_wp2_with fail
          refine hC.mono ?_
          rintro e w1 ⟨a', c', ⟨rfl, hk1⟩, hO⟩
          clear hC
          have hs1 := hk1.size
          have hk2 := hk1.alloc (.cells #[.int .i64 k.c, .int .i64 k.e, .int .i64 k.b, .int .i64 it.s, .int .i64 k.heard, .bool k.v, .slice a' it.l.length c'] 24)
          have hO2 := (hO.keep ((Keeps.refl noB w1).alloc (.cells #[.int .i64 k.c, .int .i64 k.e, .int .i64 k.b, .int .i64 it.s, .int .i64 k.heard, .bool k.v, .slice a' it.l.length c'] 24)) (fun b _ _ => noB_not b)).lower (B' := w.heap.size) (by omega)
          have hrow2 := hrow1.no hk2
          have hs2 := alloc_size w1 (.cells #[.int .i64 k.c, .int .i64 k.e, .int .i64 k.b, .int .i64 it.s, .int .i64 k.heard, .bool k.v, .slice a' it.l.length c'] 24)
          go_wp2_with (at_builtin; refine wpList_append_pk rfl _ _ rfl w.heap.size _ k.hd _ n HML.out.symm rfl hrow2 w1.heap.size 1 it.s a' it.l c' (0, 0) rfl (heap_alloc_new w1 (.cells #[.int .i64 k.c, .int .i64 k.e, .int .i64 k.b, .int .i64 it.s, .int .i64 k.heard, .bool k.v, .slice a' it.l.length c'] 24)) hO2 (by omega) (by rw [HML.out]; omega) ?_)
          intro v' w2 g1 g2 g3
          rw [← HSN.out] at g1
          have hk3 : Keeps noB w w2 := ((hkp.trans_no hkA).trans_no hk2).grown g2 (fun k hk => .inl (g3 k hk))
          clear g2 g3 hrow2 hrow1 hO2 hk2
          go_wp2_with fail
          go_roundw
          case rel => exact ⟨n + 1, by omega, by go_num, hk3, g1⟩
          case measure => simp [intOf]; omega
      · have : n = k.L.length := by omega
        subst this
        rw [show ((k.L.map fun t => (t.s, t.l)).take k.L.length) = k.L.map fun t => (t.s, t.l) from List.take_of_length_le (by simp)] at hrow
        obtain ⟨ra, rc, rfl⟩ := hrow.slice
        go_wp2_with fail
        go_ret
        exact ⟨_, ⟨rfl, hkp⟩, hrow⟩
end Go.Proofs.Ytoeikgaikdbpbaa
