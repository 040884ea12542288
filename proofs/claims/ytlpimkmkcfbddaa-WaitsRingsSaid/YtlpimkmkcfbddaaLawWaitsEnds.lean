/- WaitsEnds: who gives way frees the others: the law answers true at every input. No condition. -/
import Derived.Test.YtlpimkmkcfbddaaWaitAlive
import Derived.Test.YtlpimkmkcfbddaaRd
namespace Go.Proofs.Ytlpimkmkcfbddaa
open Go.RowKit

def Q2 (f : Nat → Value) : Prop := IsI (f 0) ∧ IsI (f 1)
theorem isI_val {v : Value} (h : IsI v) : v = .int .i64 (intOf v) := by
  obtain ⟨n, rfl, _⟩ := h; rfl
theorem edr_of {w : World} {a : Option Addr} {len : Nat} {g : Nat → Nat → Value} (hr : RdS w 2 a len g) (hq : ∀ k, k < len → Q2 (g k)) : ∃ l : List (Int × Int), l.length = len ∧ EdR w w.heap.size a l := by
  refine ⟨(List.range len).map fun k => (intOf (g k 0), intOf (g k 1)), by simp, fun k hk => ?_⟩
  have hk' : k < len := by simpa using hk
  obtain ⟨b, off, ha, hb, hc⟩ := hr k hk'
  have h0 := hc 0 (by omega)
  have h1 := hc 1 (by omega)
  rw [isI_val (hq k hk').1] at h0
  rw [isI_val (hq k hk').2] at h1
  refine ⟨b, off, ha, hb, hb, ?_, ?_⟩
  · simpa using h0
  · simpa [Nat.add_assoc] using h1

theorem without_sub (l : List (Int × Int)) (c : Int) : ∀ e, e ∈ without l c → e ∈ l := fun _ h => (List.mem_filter.1 h).1
theorem without_le (l : List (Int × Int)) (c : Int) : (without l c).length ≤ l.length := List.length_filter_le _ _
theorem cyc_without_self (l : List (Int × Int)) (c : Int) : cyc (without l c) c = false := cyc_f fun h => by
  obtain ⟨z, he, _⟩ := h.out
  have := (List.mem_filter.1 he.1).2
  simp at this
theorem cyc_without {l : List (Int × Int)} {c x : Int} (h : cyc l x = false) : cyc (without l c) x = false := by
  cases e : cyc (without l c) x
  · rfl
  · obtain ⟨hx, hr⟩ := (cyc_iff _ _).1 e
    rw [(cyc_iff _ _).2 ⟨hx, hr.mono (without_sub l c)⟩] at h
    cases h

set_option maxRecDepth 100000 in
set_option maxHeartbeats 1000000 in
theorem nobody_c (l : List (Int × Int)) (hl : l.length ≤ 1000) (a : Option Addr) (cap : Nat) (w : World) (he : EdR w w.heap.size a l) (hno : ∀ c : Nat, c < 4 → cyc l c = false) :
    Calls Try.prog 44 #[.slice a l.length cap] w (RetK noB (.bool true) w) := by
  go_enter Try.func44, Try.ntmps44
  go_wp2_with fail
  go_loopw [3] (fun i wr => ∃ k : Nat, k ≤ 4 ∧ i = .int .i64 k ∧ Keeps noB w wr)
    (fun i _ => 4 - (intOf i).toNat)
  case atStart => exact ⟨0, by omega, rfl, Keeps.refl _ _⟩
  case round =>
    obtain ⟨k, hk, rfl, hkp⟩ := hrel
    by_cases hlt : k < 4
    · have hc := cycle_c l (by omega) a cap k wr (he.go hkp)
      rw [hno k hlt] at hc
      go_wp2_with fail
      refine hc.mono ?_
      rintro e w1 ⟨rfl, hk1⟩
      clear hc
      go_wp2_with fail
      go_roundw
      case rel => exact ⟨k + 1, by omega, by go_num, hkp.trans_no hk1⟩
      case measure => simp [intOf]; omega
    · have : k = 4 := by omega
      subst this
      go_wp2_with fail
      go_ret
      exact ⟨rfl, hkp⟩

set_option maxRecDepth 100000 in
set_option maxHeartbeats 4000000 in
theorem waitsEnds_w (a : Option Addr) (len cap : Nat) (g : Nat → Nat → Value) (w : World) (hl : len ≤ maxLen) (hr : RdS w 2 a len g) (hq : ∀ k, k < len → Q2 (g k)) :
    Calls Try.prog 9 #[.slice a len cap] w (RetK noB (.bool true) w) := by
  unfold maxLen at hl
  obtain ⟨l, rfl, he⟩ := edr_of hr hq
  clear hr hq
  by_cases h200 : l.length ≤ 200
  · go_enter Try.func9, Try.ntmps9
    go_wp2_with fail
    refine (waitsAlive_c _).mono ?_
    rintro e w0 ⟨rfl, hk0⟩
    have he0 := he.go hk0
    go_wp2_with fail
    go_loopw [3, 4] (fun s i wr => ∃ (k : Nat) (m : List (Int × Int)) (b : Option Addr) (c : Nat), k ≤ 4 ∧ i = .int .i64 k ∧ s = .slice b m.length c ∧ m.length ≤ 200 ∧ Keeps noB w wr ∧ EdR wr wr.heap.size b m ∧ ∀ x : Nat, x < 4 → 4 ≤ x + k → cyc m x = false)
      (fun _ i _ => 4 - (intOf i).toNat)
    case atStart => exact ⟨0, l, a, cap, by omega, rfl, rfl, h200, hk0, he0, fun x h1 h2 => by omega⟩
    case round =>
      obtain ⟨k, m, b, c, hk, rfl, rfl, hm, hkp, hE, hno⟩ := hrel
      by_cases hlt : k < 4
      · cases hv : vicN m 4 with
        | none =>
          have hV := victim_c m (by omega) b c wr hE
          rw [hv] at hV
          simp only [vicV] at hV
          have hall := vicN_none hv
          go_wp2_with fail
          refine hV.mono ?_
          rintro e w1 ⟨rfl, hk1⟩
          have hE1 := hE.go hk1
          have hV1 := victim_c m (by omega) b c w1 hE1
          rw [hv] at hV1
          simp only [vicV] at hV1
          clear hV
          go_wp2_with fail
          refine hV1.mono ?_
          rintro e w2 ⟨rfl, hk2⟩
          clear hV1
          go_wp2_with fail
          refine (nobody_c m (by omega) b c w2 (hE1.go hk2) hall).mono ?_
          rintro e w3 ⟨rfl, hk3⟩
          go_wp2_with fail
          go_ret
          exact ⟨rfl, ((hkp.trans_no hk1).trans_no hk2).trans_no hk3⟩
        | some v =>
          obtain ⟨hv4, hcv, hgt⟩ := vicN_some hv
          have hV := victim_c m (by omega) b c wr hE
          rw [hv] at hV
          simp only [vicV] at hV
          clear hv
          go_wp2_with fail
          refine hV.mono ?_
          rintro e w1 ⟨rfl, hk1⟩
          have hE1 := hE.go hk1
          have hC := cycle_c m (by omega) b c v w1 hE1
          rw [hcv] at hC
          clear hV
          go_wp2_with fail
          refine hC.mono ?_
          rintro e w2 ⟨rfl, hk2⟩
          have hE2 := hE1.go hk2
          have hk12 := (hkp.trans_no hk1).trans_no hk2
          clear hC hE hE1 hk1 hk2
          go_wp2_with fail
          go_loopw [7] (fun i wx => ∃ q : Nat, v < q ∧ q ≤ 4 ∧ i = .int .i64 q ∧ Keeps noB w wx ∧ EdR wx wx.heap.size b m)
            (fun i _ => 4 - (intOf i).toNat)
          case atStart => exact ⟨v + 1, by omega, by omega, by go_num, hk12, hE2⟩
          case round =>
            obtain ⟨q, hvq, hq4, rfl, hkq, hEq⟩ := hrel
            by_cases hqlt : q < 4
            · have hC := cycle_c m (by omega) b c q _ hEq
              rw [hgt q hvq hqlt] at hC
              go_wp2_with fail
              refine hC.mono ?_
              rintro e w3 ⟨rfl, hk3⟩
              clear hC
              go_wp2_with fail
              go_roundw
              case rel => exact ⟨q + 1, by omega, by omega, by go_num, hkq.trans_no hk3, hEq.go hk3⟩
              case measure => simp [intOf]; omega
            · have : q = 4 := by omega
              subst this
              have hW := without_c m (by omega) b c v _ hEq
              have hle := without_le m v
              go_wp2_with fail
              refine hW.mono ?_
              rintro e w3 ⟨b', c', ⟨rfl, hk3⟩, hE3⟩
              have hC := cycle_c (without m v) (by omega) b' c' v w3 hE3
              rw [cyc_without_self] at hC
              clear hW
              go_wp2_with fail
              refine hC.mono ?_
              rintro e w4 ⟨rfl, hk4⟩
              clear hC
              go_wp2_with fail
              go_roundw
              case rel =>
                refine ⟨k + 1, without m v, b', c', by omega, by go_num, rfl, by omega, (hkq.trans_no hk3).trans_no hk4, hE3.go hk4, fun x h1 h2 => ?_⟩
                by_cases hx : x = v
                · subst hx; exact cyc_without_self _ _
                · refine cyc_without ?_
                  by_cases hx2 : 4 ≤ x + k
                  · exact hno x h1 hx2
                  · by_cases hvk : 4 ≤ v + k
                    · rw [hno v hv4 hvk] at hcv; cases hcv
                    · exact hgt x (by omega) h1
              case measure => simp [intOf]; omega
      · have : k = 4 := by omega
        subst this
        have hall : ∀ x : Nat, x < 4 → cyc m x = false := fun x h => hno x h (by omega)
        have hv : vicN m 4 = none := by
          cases hv : vicN m 4 with
          | none => rfl
          | some v =>
            obtain ⟨h1, h2, _⟩ := vicN_some hv
            rw [hall v h1] at h2; cases h2
        have hV1 := victim_c m (by omega) b c wr hE
        rw [hv] at hV1
        simp only [vicV] at hV1
        clear hv
        go_wp2_with fail
        refine hV1.mono ?_
        rintro e w2 ⟨rfl, hk2⟩
        clear hV1
        go_wp2_with fail
        refine (nobody_c m (by omega) b c w2 (hE.go hk2) hall).mono ?_
        rintro e w3 ⟨rfl, hk3⟩
        go_wp2_with fail
        go_ret
        exact ⟨rfl, (hkp.trans_no hk2).trans_no hk3⟩
  · go_enter Try.func9, Try.ntmps9
    go_wp2_with fail
    refine (waitsAlive_c _).mono ?_
    rintro e w0 ⟨rfl, hk0⟩
    go_wp2_with fail
    go_ret
    exact ⟨rfl, hk0⟩
end Go.Proofs.Ytlpimkmkcfbddaa
