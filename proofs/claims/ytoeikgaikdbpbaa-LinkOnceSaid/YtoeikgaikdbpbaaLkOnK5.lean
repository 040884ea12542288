/- Once, in order: what the round does at kind 5. No condition. -/
import Derived.Test.YtoeikgaikdbpbaaLkOnC
import Derived.Deep.RegionHeld3
import Derived.StillTailTactics
namespace Go.Proofs.Ytoeikgaikdbpbaa
open Go.RowKit

set_option maxRecDepth 100000 in
set_option maxHeartbeats 16000000 in
theorem once_k5 (w wB : World) (T : Nat → Nat) (ba bi bo bx : Nat) (p : Nat → Nat) (K : Nat → Lk) (vI vO : Nat → Value) (I O : Nat → List (List Int)) (W : List Pq) (kn : Nat → Nat) (aW : Option Addr) (cW n : Nat) (nn : Int) (da : Option Addr) (dl : List Int) (dc : Nat) (HN : Hid (-9223372036854775808 ≤ nn ∧ nn ≤ 9223372036854775807 ∧ dl.length ≤ 140737488351232 ∧ n < 150))
    (HB : Hid (OnI w wB T ba bi bo p K vI vO (.slice aW W.length cW) I O W ∧ wB.heap[bx]? = some (.cells #[.int .i64 5, .int .i64 nn, .slice da dl.length dc] 34 (0, 0)) ∧ ByR wB (fun x => x < w.heap.size) da dl ∧ T bx = 0 ∧ Onc K I O kn W ∧ W.length ≤ 8 * n ∧ ∀ j, j < 2 → (I j).length ≤ n))
    (u0 u1 u2 u3 u4 u9 u11 u12 u13 u14 u15 u16 u17 u18 u19 u20 u21 u22 u23 u24 u25 u26 u27 u28 u29 u30 u31 u32 u33 u34 u35 u36 u37 u38 u39 u40 u41 u42 u43 u44 u45 u46 u47 u48 u49 u50 u51 u52 u53 u54 u55 u56 u57 u58 u59 u60 u61 u62 u63 u64 u65 u66 u67 u68 u69 u70 u71 u72 u73 u74 u75 u76 u77 u78 u80 u81 u82 u83 u84 u85 u86 u87 u88 u89 u90 u91 u92 u93 u94 u95 u96 u97 u98 u99 u100 u101 u102 u103 u104 u105 u106 u107 u108 u109 u110 u111 u112 u113 u114 u115 u116 u117 u118 u119 u120 u121 u122 u123 u124 u125 u126 u127 u128 u129 u130 u131 u132 u133 u134 u135 u136 u137 u138 u139 u140 u141 u142 u143 u144 u145 u146 u147 u148 u149 u150 u151 u152 u153 u154 u155 u156 u157 u158 u159 u160 u161 u162 u163 u164 u165 u166 u167 u168 u169 u170 u171 u172 u173 u174 u175 u176 u177 u178 u179 u180 u181 u182 u183 u184 u185 u186 u187 u188 u189 u190 u191 u192 u193 u194 u195 u196 u197 u198 u199 u200 u201 u202 u203 u204 u205 u206 u207 u208 u209 u210 u211 u212 u213 u214 u215 u216 u217 u218 u219 u220 u221 u222 u223 u224 u225 u226 u227 u228 u229 : Value) (K' : Act → World → Prop) (Q2 : Exit → Act → World → Prop)
    (hfin : ∀ ⦃T K vI vO I O W kn⦄ ⦃vW' : Value⦄ ⦃wx : World⦄ ⦃c11 c12 c13 c14 c80 c81 c82 c83 c84 c85 c86 c87 c88 c89 c90 c91 c92 c93 c94 c95 c96 c97 c98 c99 c100 c101 c102 c103 c104 c105 c106 c107 c108 c109 c110 c111 c112 c113 c114 c115 c116 c117 c118 c119 c120 c121 c122 c123 c124 c125 c126 c127 c128 c129 c130 c131 c132 c133 c134 c135 c136 c137 c138 c139 c140 c141 c142 c143 c144 c145 c146 c147 c148 c149 c150 c151 c152 c153 c154 c155 c156 c157 c158 c159 c160 c161 c162 c163 c164 c165 c166 c167 c168 : Value⦄, OnI w wx T ba bi bo p K vI vO vW' I O W → Onc K I O kn W → W.length ≤ 8 * (n + 1) → (∀ j, j < 2 → (I j).length ≤ n + 1) → K' ⟨#[u0, u1, u2, u3, u4, .pointer (some ⟨ba, 0, none⟩), .pointer (some ⟨bi, 0, none⟩), .pointer (some ⟨bo, 0, none⟩), vW', u9, .pointer (some ⟨bx, 0, none⟩), c11, c12, c13, c14, u15, u16, u17, u18, u19, u20, u21, u22, u23, u24, u25, u26, u27, u28, u29, u30, u31, u32, u33, u34, u35, u36, u37, u38, u39, u40, u41, u42, u43, u44, u45, u46, u47, u48, u49, u50, u51, u52, u53, u54, u55, u56, u57, u58, u59, u60, u61, u62, u63, u64, u65, u66, u67, u68, u69, u70, u71, u72, u73, u74, u75, u76, u77, u78, .int .i64 5, c80, c81, c82, c83, c84, c85, c86, c87, c88, c89, c90, c91, c92, c93, c94, c95, c96, c97, c98, c99, c100, c101, c102, c103, c104, c105, c106, c107, c108, c109, c110, c111, c112, c113, c114, c115, c116, c117, c118, c119, c120, c121, c122, c123, c124, c125, c126, c127, c128, c129, c130, c131, c132, c133, c134, c135, c136, c137, c138, c139, c140, c141, c142, c143, c144, c145, c146, c147, c148, c149, c150, c151, c152, c153, c154, c155, c156, c157, c158, c159, c160, c161, c162, c163, c164, c165, c166, c167, c168, u169, u170, u171, u172, u173, u174, u175, u176, u177, u178, u179, u180, u181, u182, u183, u184, u185, u186, u187, u188, u189, u190, u191, u192, u193, u194, u195, u196, u197, u198, u199, u200, u201, u202, u203, u204, u205, u206, u207, u208, u209, u210, u211, u212, u213, u214, u215, u216, u217, u218, u219, u220, u221, u222, u223, u224, u225, u226, u227, u228, u229], []⟩ wx)
    (hcont : ∀ ⦃T K vI vO I O W kn⦄ ⦃vW' : Value⦄ ⦃wx : World⦄ ⦃c11 c12 c13 c14 c80 c81 c82 c83 c84 c85 c86 c87 c88 c89 c90 c91 c92 c93 c94 c95 c96 c97 c98 c99 c100 c101 c102 c103 c104 c105 c106 c107 c108 c109 c110 c111 c112 c113 c114 c115 c116 c117 c118 c119 c120 c121 c122 c123 c124 c125 c126 c127 c128 c129 c130 c131 c132 c133 c134 c135 c136 c137 c138 c139 c140 c141 c142 c143 c144 c145 c146 c147 c148 c149 c150 c151 c152 c153 c154 c155 c156 c157 c158 c159 c160 c161 c162 c163 c164 c165 c166 c167 c168 : Value⦄, OnI w wx T ba bi bo p K vI vO vW' I O W → Onc K I O kn W → W.length ≤ 8 * (n + 1) → (∀ j, j < 2 → (I j).length ≤ n + 1) → Q2 (.exit 1) ⟨#[u0, u1, u2, u3, u4, .pointer (some ⟨ba, 0, none⟩), .pointer (some ⟨bi, 0, none⟩), .pointer (some ⟨bo, 0, none⟩), vW', u9, .pointer (some ⟨bx, 0, none⟩), c11, c12, c13, c14, u15, u16, u17, u18, u19, u20, u21, u22, u23, u24, u25, u26, u27, u28, u29, u30, u31, u32, u33, u34, u35, u36, u37, u38, u39, u40, u41, u42, u43, u44, u45, u46, u47, u48, u49, u50, u51, u52, u53, u54, u55, u56, u57, u58, u59, u60, u61, u62, u63, u64, u65, u66, u67, u68, u69, u70, u71, u72, u73, u74, u75, u76, u77, u78, .int .i64 5, c80, c81, c82, c83, c84, c85, c86, c87, c88, c89, c90, c91, c92, c93, c94, c95, c96, c97, c98, c99, c100, c101, c102, c103, c104, c105, c106, c107, c108, c109, c110, c111, c112, c113, c114, c115, c116, c117, c118, c119, c120, c121, c122, c123, c124, c125, c126, c127, c128, c129, c130, c131, c132, c133, c134, c135, c136, c137, c138, c139, c140, c141, c142, c143, c144, c145, c146, c147, c148, c149, c150, c151, c152, c153, c154, c155, c156, c157, c158, c159, c160, c161, c162, c163, c164, c165, c166, c167, c168, u169, u170, u171, u172, u173, u174, u175, u176, u177, u178, u179, u180, u181, u182, u183, u184, u185, u186, u187, u188, u189, u190, u191, u192, u193, u194, u195, u196, u197, u198, u199, u200, u201, u202, u203, u204, u205, u206, u207, u208, u209, u210, u211, u212, u213, u214, u215, u216, u217, u218, u219, u220, u221, u222, u223, u224, u225, u226, u227, u228, u229], []⟩ wx) :
    Code.wp Try.prog swC (Exit.then K' Q2) ⟨#[u0, u1, u2, u3, u4, .pointer (some ⟨ba, 0, none⟩), .pointer (some ⟨bi, 0, none⟩), .pointer (some ⟨bo, 0, none⟩), .slice aW W.length cW, u9, .pointer (some ⟨bx, 0, none⟩), u11, u12, u13, u14, u15, u16, u17, u18, u19, u20, u21, u22, u23, u24, u25, u26, u27, u28, u29, u30, u31, u32, u33, u34, u35, u36, u37, u38, u39, u40, u41, u42, u43, u44, u45, u46, u47, u48, u49, u50, u51, u52, u53, u54, u55, u56, u57, u58, u59, u60, u61, u62, u63, u64, u65, u66, u67, u68, u69, u70, u71, u72, u73, u74, u75, u76, u77, u78, .int .i64 5, u80, u81, u82, u83, u84, u85, u86, u87, u88, u89, u90, u91, u92, u93, u94, u95, u96, u97, u98, u99, u100, u101, u102, u103, u104, u105, u106, u107, u108, u109, u110, u111, u112, u113, u114, u115, u116, u117, u118, u119, u120, u121, u122, u123, u124, u125, u126, u127, u128, u129, u130, u131, u132, u133, u134, u135, u136, u137, u138, u139, u140, u141, u142, u143, u144, u145, u146, u147, u148, u149, u150, u151, u152, u153, u154, u155, u156, u157, u158, u159, u160, u161, u162, u163, u164, u165, u166, u167, u168, u169, u170, u171, u172, u173, u174, u175, u176, u177, u178, u179, u180, u181, u182, u183, u184, u185, u186, u187, u188, u189, u190, u191, u192, u193, u194, u195, u196, u197, u198, u199, u200, u201, u202, u203, u204, u205, u206, u207, u208, u209, u210, u211, u212, u213, u214, u215, u216, u217, u218, u219, u220, u221, u222, u223, u224, u225, u226, u227, u228, u229], []⟩ wB := by
  conv => arg 2; whnf
  have HFIN := Lib.hid hfin
  have HCONT := Lib.hid hcont
  clear hfin hcont
  obtain ⟨n1, n2, hdl, hn⟩ := HN.out
  clear HN
  have x0 := blk_cell HB.out.2.1 (i := 0) rfl
  have HLB := Lib.hid (And.intro HB.out.2.2.2.2.2.1 HB.out.2.2.2.2.2.2)
  have x1 := blk_cell HB.out.2.1 (i := 1) rfl
  by_cases hn0 : nn < 0
  · have d0 : decide (nn < 0) = true := decide_eq_true hn0
    go_wp2_with fail
    exact HCONT.out HB.out.1 HB.out.2.2.2.2.1 (by have := HLB.out.1; omega) (fun i hi => by have := HLB.out.2 i hi; omega)
  have d0 : decide (nn < 0) = false := decide_eq_false hn0
  obtain ⟨m, rfl⟩ : ∃ m : Nat, nn = m := ⟨nn.toNat, by omega⟩
  by_cases hmW : m < W.length
  rotate_left
  · have d1 : decide ((m : Int) ≥ (W.length : Int)) = true := decide_eq_true (by omega)
    go_wp2_with fail
    exact HCONT.out HB.out.1 HB.out.2.2.2.2.1 (by have := HLB.out.1; omega) (fun i hi => by have := HLB.out.2 i hi; omega)
  have d1 : decide ((m : Int) ≥ (W.length : Int)) = false := decide_eq_false (by omega)
  obtain ⟨gw, pa, pc, rfl, hpc, hpb⟩ := HB.out.1.wy.cells hmW
  obtain ⟨q, hq⟩ : ∃ q, q = W[m] := ⟨_, rfl⟩
  rw [← hq] at hpc hpb
  obtain ⟨qv, hqv⟩ : ∃ v, v = q.v := ⟨_, rfl⟩
  have y0 : wB.cell? ⟨gw, m * 7, none⟩ = some (.int .i64 q.c) := hpc 0 (by omega)
  have y1 : wB.cell? ⟨gw, m * 7 + 1, none⟩ = some (.int .i64 q.e) := hpc 1 (by omega)
  have y2 : wB.cell? ⟨gw, m * 7 + 2, none⟩ = some (.int .i64 q.b) := hpc 2 (by omega)
  have y3 : wB.cell? ⟨gw, m * 7 + 3, none⟩ = some (.int .i64 q.s) := hpc 3 (by omega)
  have y4 : wB.cell? ⟨gw, m * 7 + 4, none⟩ = some (.int .i64 q.k) := hpc 4 (by omega)
  have y5 : wB.cell? ⟨gw, m * 7 + 5, none⟩ = some (.bool qv) := by rw [hqv]; exact hpc 5 (by omega)
  have y6 : wB.cell? ⟨gw, m * 7 + 6, none⟩ = some (.slice pa q.l.length pc) := hpc 6 (by omega)
  have hqm : q ∈ W := by rw [hq]; exact List.getElem_mem hmW
  obtain ⟨j0, hj0, hok⟩ := HB.out.2.2.2.2.1.way q hqm
  have HQ := Lib.hid (And.intro hqv (And.intro hqm (And.intro hok.s (And.intro hok.l hpb))))
  clear hpc hpb hq hqv hok hqm
  cases qv
  · have hkP : Keeps noB wB (wB.alloc (.cells #[.int .i64 q.c, .int .i64 q.e, .int .i64 q.b, .int .i64 q.s, .int .i64 q.k, .bool false, .slice pa q.l.length pc] 24)) := (Keeps.refl _ _).alloc _
    have hPB := heap_alloc_new wB (.cells #[.int .i64 q.c, .int .i64 q.e, .int .i64 q.b, .int .i64 q.s, .int .i64 q.k, .bool false, .slice pa q.l.length pc] 24)
    have HKP := Lib.hid hkP
    have hbp0 : T wB.heap.size = 0 := by
      rcases Nat.eq_zero_or_pos (T wB.heap.size) with h | h
      · exact h
      · have := HB.out.1.th wB.heap.size (by omega); omega
    obtain ⟨bp, hbp⟩ : ∃ bp, bp = wB.heap.size := ⟨_, rfl⟩
    rw [← hbp] at hPB hbp0
    have HPB := Lib.hid (And.intro hPB hbp0)
    clear hkP hPB hbp0
    go_upto_region 27 with fail
    rw [← hbp]
    clear hbp y0 y1 y2 y3 y4 y5 y6 x0 x1
    generalize wB.alloc (.cells #[.int .i64 q.c, .int .i64 q.e, .int .i64 q.b, .int .i64 q.s, .int .i64 q.k, .bool false, .slice pa q.l.length pc] 24) = wP at *
    have hGT : ∀ w', Keeps noB wP w' → Calls Try.prog 13 #[.pointer (some ⟨p 1, 0, none⟩), .agg #[.int .i64 q.c, .int .i64 q.e, .int .i64 q.b, .int .i64 q.s, .int .i64 q.k, .bool false, .slice pa q.l.length pc]] w' fun e w2 => ∃ a' c' T2, e = .returned (.tuple #[.slice a' (gotL (K 1) q).length c', .bool ((K 1).takes q)]) ∧ Keeps (fun y => T y = 1 + 1) wP w2 ∧ OnI w w2 T2 ba bi bo p (upd K 1 ((K 1).got q)) vI vO (.slice (some ⟨gw, 0, none⟩) W.length cW) I O W ∧ T2 bx = 0 ∧ ByR w2 (fun y => T2 y = 1 + 1) a' (gotL (K 1) q) := fun w' hk => by
      have hkw := HKP.out.trans_no hk
      have h3 := HB.out.1.no hkw
      obtain ⟨vl, hl3⟩ := h3.lk 1 (by omega)
      have hg := got_b hl3 q (fun y => T y = 7) (fun y h1 h2 => by have h1' : T y = 7 := h1; have h2' : T y = 1 + 1 := h2; omega) pa pc (by have := HQ.out.2.2.2.1; omega) (HQ.out.2.2.2.2.keep hkw (fun b _ => noB_not b)) HQ.out.2.2.1
      rw [← HQ.out.1] at hg
      refine hg.mono ?_
      rintro e w2 ⟨a', c', ⟨he, hk2⟩, ⟨vi', hl'⟩, hO⟩
      refine ⟨a', c', _, he, (hk.of_no).trans hk2 (fun _ _ h => h), h3.turn (by omega) hk2 (fun y hy => .inl hy) hl', ?_, ?_⟩
      · unfold tagN
        rw [if_neg (fun hh => by have := lt_of_blk (hkw.blk HB.out.2.1 (noB_not _)); omega)]
        exact HB.out.2.2.2.1
      · intro k hk3
        obtain ⟨g, off, e3, hD, hlt, hc⟩ := hO.byr k hk3
        refine ⟨g, off, e3, ?_, hlt, hc⟩
        show tagN T _ _ _ g = _
        unfold tagN
        rw [if_pos ⟨hD, hlt⟩]
    have hSF : ∀ (F : Nat → Prop) w', Keeps F wP w' → ¬ F ba → ¬ F bp → w'.cell? ⟨ba, 1, none⟩ = some (.pointer (some ⟨p 1, 0, none⟩)) ∧ w'.cell? ⟨bp, 0, none⟩ = some (.int .i64 q.c) ∧ w'.cell? ⟨bp, 1, none⟩ = some (.int .i64 q.e) ∧ w'.cell? ⟨bp, 2, none⟩ = some (.int .i64 q.b) ∧ w'.cell? ⟨bp, 3, none⟩ = some (.int .i64 q.s) ∧ w'.cell? ⟨bp, 4, none⟩ = some (.int .i64 q.k) ∧ w'.cell? ⟨bp, 5, none⟩ = some (.bool false) ∧ w'.cell? ⟨bp, 6, none⟩ = some (.slice pa q.l.length pc) := fun F w' hk f1 f2 => by
      have h1 := hk.blk (HKP.out.blk HB.out.1.ar (noB_not _)) f1
      have h2 := hk.blk HPB.out.1 f2
      exact ⟨blk_cell h1 (i := 1) rfl, blk_cell h2 (i := 0) rfl, blk_cell h2 (i := 1) rfl, blk_cell h2 (i := 2) rfl, blk_cell h2 (i := 3) rfl, blk_cell h2 (i := 4) rfl, blk_cell h2 (i := 5) rfl, blk_cell h2 (i := 6) rfl⟩
    have hxb : ∀ (F : Nat → Prop) w', Keeps F wP w' → ¬ F bx → w'.heap[bx]? = some (.cells #[.int .i64 5, .int .i64 m, .slice da dl.length dc] 34 (0, 0)) := fun F w' hk f1 => hk.blk (HKP.out.blk HB.out.2.1 (noB_not _)) f1
    have hnf : ¬ (T ba = 1 + 1) ∧ ¬ (T bp = 1 + 1) ∧ ¬ (T bx = 1 + 1) := by
      have := HB.out.1.ta
      have := HPB.out.2
      have := HB.out.2.2.2.1
      omega
    obtain ⟨kn', hON⟩ := HB.out.2.2.2.2.1.got HQ.out.2.1 (t := 1) (by omega) (by rw [← HQ.out.1]; rfl)
    have htg : (K 1).takes q = true → gotL (K 1) q = q.l := fun h => by unfold gotL; rw [if_pos h]
    obtain ⟨tk, htk⟩ : ∃ b, b = (K 1).takes q := ⟨_, rfl⟩
    obtain ⟨gl, hgl⟩ : ∃ l, l = gotL (K 1) q := ⟨_, rfl⟩
    rw [← htk, ← hgl] at htg
    rw [← htk] at hON
    simp only [← htk, ← hgl] at hGT
    have HON := Lib.hid (And.intro hON htg)
    have HGT := Lib.hid hGT
    have HSF := Lib.hid (And.intro hSF (And.intro hxb hnf))
    clear hGT hSF hxb hnf hON htg htk hgl
    go_region_held3 (fun w' => w'.cell? ⟨ba, 1, none⟩ = some (.pointer (some ⟨p 1, 0, none⟩)) ∧ w'.cell? ⟨bp, 0, none⟩ = some (.int .i64 q.c) ∧ w'.cell? ⟨bp, 1, none⟩ = some (.int .i64 q.e) ∧ w'.cell? ⟨bp, 2, none⟩ = some (.int .i64 q.b) ∧ w'.cell? ⟨bp, 3, none⟩ = some (.int .i64 q.s) ∧ w'.cell? ⟨bp, 4, none⟩ = some (.int .i64 q.k) ∧ w'.cell? ⟨bp, 5, none⟩ = some (.bool false) ∧ w'.cell? ⟨bp, 6, none⟩ = some (.slice pa q.l.length pc))
      (first | exact HSF.out.1 _ _ ((Keeps.refl noB wP).drew) (noB_not _) (noB_not _) | exact HSF.out.1 _ _ hk6 HSF.out.2.2.1 HSF.out.2.2.2.1)
      ((go_at_call 13; refine (HGT.out _ ((Keeps.refl noB wP).drew)).mono ?_; rintro e w6 ⟨a6, c6, T2, rfl, hk6, hI6, hTx, hB6⟩))
    have hbx6 := HSF.out.2.1 _ _ hk6 HSF.out.2.2.2.2
    have H6 := Lib.hid (And.intro hk6 (And.intro hI6 (And.intro hTx (And.intro hB6 hbx6))))
    clear hk6 hI6 hTx hB6 hbx6 HGT
    cases tk
    · have hIf := H6.out.2.1
      have hbf := H6.out.2.2.2.2
      have hTf := H6.out.2.2.1
      have hOf := HON.out.1
      simp only [Bool.false_eq_true, if_false] at hOf
      rw [upd_id] at hOf
      have hgs := HB.out.1.kp.size
      have HF := Lib.hid (And.intro hIf (And.intro hOf (And.intro hbf hTf)))
      clear hIf hOf hbf hTf
      have u0 := blk_cell HF.out.2.2.1 (i := 0) rfl
      have u1 := blk_cell HF.out.2.2.1 (i := 1) rfl
      obtain ⟨gw', xs, cur, hge, hc1, hc2, hg, hD, hxl, hcur, hone, hx⟩ := HF.out.1.wy.block (by omega)
      obtain rfl : gw = gw' := by simpa using hge
      have HW := Lib.hid (And.intro hg (And.intro hD (And.intro hxl (And.intro hcur (And.intro hone hx)))))
      clear hg hD hxl hcur hone hx hge
      have i0 : (0 : Int) ≤ (m : Int) := by omega
      have i1 : (m : Int) ≤ (W.length : Int) := by omega
      have i2 : (m : Int) ≤ (cW : Int) := by omega
      have i3 : (m : Int) + 1 ≤ (W.length : Int) := by omega
      have i4 : (m : Int) + 1 ≤ (cW : Int) := by omega
      have i5 : IntKind.i64.wrap ((m : Int) + 1) = (m : Int) + 1 := by rw [IntKind.wrap_i64]; unfold maxLen at hc2; omega
      have i6 : (0 : Int) ≤ (m : Int) + 1 := by omega
      have i7 : ((m : Int) + 1).toNat = m + 1 := by omega
      have hS : ∀ (F : Nat → Prop) w', Keeps F w6 w' → ¬ F bx → w'.cell? ⟨bx, 1, none⟩ = some (.int .i64 m) := fun F w' hk f1 => blk_cell (hk.blk HF.out.2.2.1 f1) (i := 1) rfl
      have HS := Lib.hid hS
      clear hS
      have hk1 : Keeps noB w6 (w6.alloc (.cells #[] 24)).drew := ((Keeps.refl noB _).alloc _).drew
      have hsz1 : (w6.alloc (.cells #[] 24)).drew.heap.size = w6.heap.size + 1 := alloc_size _ _
      have hg1 := hk1.blk HW.out.1 (noB_not _)
      have ho1 : (w6.alloc (.cells #[] 24)).drew.ownsRow 0 24 7 (.slice (some ⟨w6.heap.size, 0, none⟩) 0 0) 0 [] := own_keep_no (own_pks0 w6) ((Keeps.refl noB _).drew)
      have hbw : W.length ≤ 1200 := by have := HLB.out.1; omega
      have hp1 : ∀ j, j < m * 7 → cur[0 + j]? = (xs.take (m * 7))[j]? := fun j hj => by
        rw [Nat.zero_add, List.getElem?_take, if_pos hj]; exact HW.out.2.2.2.1 j (by omega)
      have hp2 : ∀ j, j < (W.length - (m + 1)) * 7 → cur[(m + 1) * 7 + j]? = (xs.drop ((m + 1) * 7))[j]? := fun j hj => by
        rw [List.getElem?_drop]; exact HW.out.2.2.2.1 _ (by omega)
      have hxl1 : (xs.take (m * 7)).length = m * 7 := by rw [List.length_take, HW.out.2.2.1]; omega
      have hxl2 : (xs.drop ((m + 1) * 7)).length = (W.length - (m + 1)) * 7 := by rw [List.length_drop, HW.out.2.2.1]; omega
      have hon1 : ∀ u ∈ xs.take (m * 7), u.oneCell' = true := fun u hu => HW.out.2.2.2.2.1 u (List.mem_of_mem_take hu)
      have hon2 : ∀ u ∈ xs.drop ((m + 1) * 7), u.oneCell' = true := fun u hu => HW.out.2.2.2.2.1 u (List.mem_of_mem_drop hu)
      have H1 := Lib.hid (And.intro hk1 (And.intro hsz1 (And.intro hg1 (And.intro ho1 (And.intro hp1 (And.intro hxl1 hon1))))))
      have H2 := Lib.hid (And.intro hp2 (And.intro hxl2 hon2))
      clear hk1 hsz1 hg1 ho1 hp1 hp2 hxl1 hxl2 hon1 hon2
      by_cases hcap : m + 1 = cW
      · go_upto_region 31 with fail
        go_region_held3 (fun w' => w'.cell? ⟨bx, 1, none⟩ = some (.int .i64 m)) (first | exact HS.out _ _ ((Keeps.refl noB w6).drew) (noB_not _) | exact HS.out _ _ H1.out.1 (noB_not _) | exact HS.out _ _ hkA (noB_not _) | exact HS.out _ _ hkC (noB_not _))
          (first
            | (refine step_append_part (by rfl) _ _ rfl _ _ _ rfl hown1 gw _ 0 _ cur [] (by rfl) (hkA.blk HW.out.1 (noB_not _)) rfl (fun j hj => by omega) (fun u hu => by simp at hu) (by omega) ?_; intro v2 w2 hown2 hgrow2 hob2; have hkC : Keeps noB w6 w2 := hkA.grown hgrow2 (fun k hk => .inl (hb1 k hk)))
            | (refine step_append_part (by rfl) _ _ rfl _ 0 [] rfl H1.out.2.2.2.1 gw 0 m cW cur (xs.take (m * 7)) (by rfl) H1.out.2.2.1 H1.out.2.2.2.2.2.1 H1.out.2.2.2.2.1 H1.out.2.2.2.2.2.2 (by omega) ?_; intro v1 w1 hown1 hgrow1 hob1; have hkA : Keeps noB w6 w1 := H1.out.1.grown hgrow1 (fun k hk => .inl (by have h3 : w6.heap.size = k := Option.some.inj hk; omega)); have hb1 : ∀ k, v1.ownBlock = some k → w6.heap.size ≤ k := (fun k hk => by rcases hob1 with g | g; (have h3 : w6.heap.size = k := Option.some.inj (g.symm.trans hk); omega); (have h3 := Option.some.inj (g.symm.trans hk); have h4 := H1.out.2.1; omega)); obtain ⟨a1, c1, rfl⟩ := WyT.own_slice hown1))
        have hkw := hkA.size
        have HE := Lib.hid (And.intro hown2 (And.intro hob2 (And.intro hkC (And.intro hb1 hkw))))
        clear hown1 hgrow1 hob1 hkA hb1 hown2 hgrow2 hob2 hkC hkw
        go_wp2_with fail
        obtain ⟨hown2, hob2, hkC, hb1, hkw⟩ := HE.out
        have hd : xs.drop ((m + 1) * 7) = [] := List.drop_eq_nil_of_le (by rw [HW.out.2.2.1]; omega)
        have hown3 : w2.ownsRow 0 24 7 v2 (m + (W.length - (m + 1))) (xs.take (m * 7) ++ xs.drop ((m + 1) * 7)) := by
          rw [hd, show W.length - (m + 1) = 0 by omega]
          simpa using hown2
        have hwy : WyT w2 (fun y => T2 y = 7 ∨ (w6.heap.size ≤ y ∧ y < w2.heap.size)) v2 (W.take m ++ W.drop (m + 1)) := WyT.erased hmW HW.out.2.2.1 HW.out.2.2.2.2.2 hkC hown3 (fun y hy => by
          have := (hown2.lt y hy).2
          rcases hob2 with g | g
          · rw [g] at hy; exact .inr ⟨hb1 y hy, this⟩
          · rw [g] at hy; simp at hy; exact .inr ⟨by omega, this⟩) (fun y hy => .inl hy)
        exact HFIN.out (HF.out.1.wayN hkC.of_no hwy) (HF.out.2.1.sub (fun q hq => by
          rcases List.mem_append.1 hq with h | h
          · exact List.mem_of_mem_take h
          · exact List.mem_of_mem_drop h)) (by have := HLB.out.1; simp; omega) (fun i hi => by have := HLB.out.2 i hi; omega)
      · have hcap2 : ¬ (cW = m + 1) := fun h => hcap h.symm
        go_upto_region 31 with fail
        go_region_held3 (fun w' => w'.cell? ⟨bx, 1, none⟩ = some (.int .i64 m)) (first | exact HS.out _ _ ((Keeps.refl noB w6).drew) (noB_not _) | exact HS.out _ _ H1.out.1 (noB_not _) | exact HS.out _ _ hkA (noB_not _) | exact HS.out _ _ hkC (noB_not _))
          (first
            | (refine step_append_part (by rfl) _ _ rfl _ _ _ rfl hown1 gw ((m + 1) * 7) (W.length - (m + 1)) _ cur (xs.drop ((m + 1) * 7)) (by rfl) (hkA.blk HW.out.1 (noB_not _)) H2.out.2.1 H2.out.1 H2.out.2.2 (by omega) ?_; intro v2 w2 hown2 hgrow2 hob2; have hkC : Keeps noB w6 w2 := hkA.grown hgrow2 (fun k hk => .inl (hb1 k hk)))
            | (refine step_append_part (by rfl) _ _ rfl _ 0 [] rfl H1.out.2.2.2.1 gw 0 m cW cur (xs.take (m * 7)) (by rfl) H1.out.2.2.1 H1.out.2.2.2.2.2.1 H1.out.2.2.2.2.1 H1.out.2.2.2.2.2.2 (by omega) ?_; intro v1 w1 hown1 hgrow1 hob1; have hkA : Keeps noB w6 w1 := H1.out.1.grown hgrow1 (fun k hk => .inl (by have h3 : w6.heap.size = k := Option.some.inj hk; omega)); have hb1 : ∀ k, v1.ownBlock = some k → w6.heap.size ≤ k := (fun k hk => by rcases hob1 with g | g; (have h3 : w6.heap.size = k := Option.some.inj (g.symm.trans hk); omega); (have h3 := Option.some.inj (g.symm.trans hk); have h4 := H1.out.2.1; omega)); obtain ⟨a1, c1, rfl⟩ := WyT.own_slice hown1))
        have hkw := hkA.size
        have HE := Lib.hid (And.intro hown2 (And.intro hob2 (And.intro hkC (And.intro hb1 hkw))))
        clear hown1 hgrow1 hob1 hkA hb1 hown2 hgrow2 hob2 hkC hkw
        go_wp2_with fail
        obtain ⟨hown2, hob2, hkC, hb1, hkw⟩ := HE.out
        have hwy : WyT w2 (fun y => T2 y = 7 ∨ (w6.heap.size ≤ y ∧ y < w2.heap.size)) v2 (W.take m ++ W.drop (m + 1)) := WyT.erased hmW HW.out.2.2.1 HW.out.2.2.2.2.2 hkC (by simpa using hown2) (fun y hy => by
          have := (hown2.lt y hy).2
          rcases hob2 with g | g
          · rw [g] at hy; exact .inr ⟨hb1 y hy, this⟩
          · rw [g] at hy; simp at hy; exact .inr ⟨by omega, this⟩) (fun y hy => .inl hy)
        exact HFIN.out (HF.out.1.wayN hkC.of_no hwy) (HF.out.2.1.sub (fun q hq => by
          rcases List.mem_append.1 hq with h | h
          · exact List.mem_of_mem_take h
          · exact List.mem_of_mem_drop h)) (by have := HLB.out.1; simp; omega) (fun i hi => by have := HLB.out.2 i hi; omega)
    · have hil2 : (O 1).length < 1000000 := by
        have h1 := HB.out.2.2.2.2.1.len (j := 1) (by omega)
        have h2 := HLB.out.2 (1 - 1) (by omega)
        omega
      have hI6 := H6.out.2.1
      obtain ⟨ao, co, hvo⟩ := (hI6.so 1 (by omega)).slice
      have hown4 := (hI6.so 1 (by omega)).own
      have hat4 := (hI6.so 1 (by omega)).at_
      have hir4 := hI6.or
      obtain ⟨ZO, hZO⟩ : ∃ Z, Z = #[vO 0, vO 1] := ⟨_, rfl⟩
      have hZj : ZO[1]? = some (vO 1) := by rw [hZO]; rfl
      rw [← hZO] at hir4
      rw [hvo] at hown4 hat4 hZj
      have hS3 : ∀ w', Keeps (fun y => T2 y = 5 + 1) w6 w' → (convert 22 9 (.slice a6 gl.length c6)).run Try.prog w' = .ok (.string (strOf gl)) w' ∧ w'.cell? ⟨bo, 1, none⟩ = some (.slice ao (O 1).length co) := fun w' hk =>
        ⟨conv_c (H6.out.2.2.2.1.keep hk (fun b hb h => by have hb' : T2 b = 1 + 1 := hb; omega)) c6, blk_cell (hk.blk hir4 (by have := hI6.tz; omega)) hZj⟩
      have hS4 : ∀ w', Keeps noB w6 w' → (convert 22 9 (.slice a6 gl.length c6)).run Try.prog w' = .ok (.string (strOf gl)) w' ∧ w'.cell? ⟨bo, 1, none⟩ = some (.slice ao (O 1).length co) := fun w' hk => hS3 w' hk.of_no
      have hfr : ∀ w', Keeps (fun y => T2 y = 5 + 1) w6 w' → w'.frozen? ⟨bo, 1, none⟩ = false := fun w' hk => blk_free (hk.blk hir4 (by have := hI6.tz; omega)) _
      have HS3 := Lib.hid (And.intro hS3 (And.intro hS4 hfr))
      have HB2 := Lib.hid (And.intro hown4 (And.intro hat4 hvo))
      have HIL := Lib.hid hil2
      clear hI6 hown4 hat4 hir4 hZO hZj hvo hil2 hS3 hS4 hfr
      go_upto_region 29 with fail
      have hSd := HS3.out.2.1 _ ((Keeps.refl noB w6).drew)
      refine wp_region_noPanic ?_
      refine wp_region_last (last := 9) (S := fun w' => (convert 22 9 (.slice a6 gl.length c6)).run Try.prog w' = .ok (.string (strOf gl)) w' ∧ w'.cell? ⟨bo, 1, none⟩ = some (.slice ao (O 1).length co)) (by kernel_rfl) ?_
      refine wpAnyL_take (i := 0) (v := .int .i64 1) rfl rfl (by rfl) (by kernel_rfl) (by kernel_rfl) (by kernel_rfl) (by kernel_rfl) (fun _ _ _ h => h) (Or.inl ⟨by rfl, ?_⟩) (by assumption) ?_
      · (intro w hSw; (try dsimp only at hSw); go_simp)
      refine wpAnyL_take (i := 1) (v := .int .i64 1) rfl rfl (by rfl) (by kernel_rfl) (by kernel_rfl) (by kernel_rfl) (by kernel_rfl) (fun _ _ _ h => h) (Or.inl ⟨by rfl, ?_⟩) (by assumption) ?_
      · (intro w hSw; (try dsimp only at hSw); go_simp)
      refine wpAnyL_take (i := 2) (v := .pointer (some ⟨bo, 1, none⟩)) rfl rfl (by rfl) (by kernel_rfl) (by kernel_rfl) (by kernel_rfl) (by kernel_rfl) (fun _ _ _ h => h) (Or.inl ⟨by rfl, ?_⟩) (by assumption) ?_
      · (intro w hSw; (try dsimp only at hSw); go_simp)
      refine wpAnyL_take (i := 3) (v := .slice ao (O 1).length co) rfl rfl (by rfl) (by kernel_rfl) (by kernel_rfl) (by kernel_rfl) (by kernel_rfl) (fun _ _ _ h => h) (Or.inl ⟨by rfl, ?_⟩) (by assumption) ?_
      · (intro w hSw; (try dsimp only at hSw); go_simp)
      refine wpAnyL_take (i := 4) (v := .slice a6 gl.length c6) rfl rfl (by rfl) (by kernel_rfl) (by kernel_rfl) (by kernel_rfl) (by kernel_rfl) (fun _ _ _ h => h) (Or.inl ⟨by rfl, ?_⟩) (by assumption) ?_
      · (intro w hSw; (try dsimp only at hSw); go_simp)
      refine wpAnyL_take (i := 5) (v := .string (strOf gl)) rfl rfl (by rfl) (by kernel_rfl) (by kernel_rfl) (by kernel_rfl) (by kernel_rfl) (fun _ _ _ h => h) (Or.inl ⟨by rfl, ?_⟩) (by assumption) ?_
      · (intro w hSw; (try dsimp only at hSw); go_simp)
      clear hSd
      refine wpAnyL_one (i := 6) (by kernel_rfl) rfl (fun K' hK => ?_)
      go_simp
      have hk7 : Keeps noB w6 (w6.alloc (.cells #[.string (strOf gl)] 9)).drew := ((Keeps.refl noB w6).alloc _).drew
      have hb7 : (w6.alloc (.cells #[.string (strOf gl)] 9)).drew.heap[w6.heap.size]? = some (.cells #[.string (strOf gl)] 9 (0, 0)) := heap_alloc_new w6 _
      generalize (w6.alloc (.cells #[.string (strOf gl)] 9)).drew = w7 at *
      have hS7 := HS3.out.2.1 _ hk7
      have HK7 := Lib.hid hk7
      refine hK.out _ _ (fun _ => hS7) ?_
      clear hK hS7 K'
      refine wpAnyL_one (i := 7) (by kernel_rfl) rfl (fun K' hK => ?_)
      refine step_append_str (by rfl) _ _ rfl _ _ _ rfl (own_keep_no HB2.out.1 hk7) _ _ _ _ _ rfl hb7 rfl HIL.out ?_
      intro v' w8 hown8 hgrow8 hob8
      have hk8 : Keeps (fun y => T2 y = 5 + 1) w6 w8 := Keeps.grown hk7.of_no hgrow8 (fun k hk => .inr (HB2.out.2.1 k hk))
      have hS8 := HS3.out.1 _ hk8
      have f8 := HS3.out.2.2 _ hk8
      have z8 := hS8.2
      obtain ⟨a8, c8, rfl⟩ := own_slice1 hown8
      have H8 := Lib.hid (And.intro hown8 (And.intro hgrow8 (And.intro hob8 hk8)))
      clear hown8 hgrow8 hob8 hk8 hk7 hb7
      go_simp
      refine hK.out _ _ (fun _ => hS8) ?_
      clear hK K'
      refine wpAnyL_take (i := 8) (v := .pointer (some ⟨bo, 1, none⟩)) rfl rfl (by rfl) (by kernel_rfl) (by kernel_rfl) (by kernel_rfl) (by kernel_rfl) (fun _ _ _ h => h) (Or.inl ⟨by rfl, ?_⟩) (by assumption) ?_
      · (intro w hSw; (try dsimp only at hSw); go_simp)
      clear hS8
      refine wpAnyL_one (i := 9) (by kernel_rfl) rfl (fun K' hK => ?_)
      go_simp
      refine hK.out _ _ (fun h => absurd rfl h) ?_
      clear hK K' f8 z8
      refine wpAnyL_done (by kernel_rfl) ?_ _
      refine NoPanic.normal ?_
      have hIf := by
        obtain ⟨hown8, hgrow8, hob8, hk8⟩ := H8.out
        rw [← HB2.out.2.2] at hgrow8 hob8
        exact (H6.out.2.1.no HK7.out).out (j := 1) (by omega) hgrow8 hown8 hob8
      have hbf : (w8.setCell ⟨bo, 1, none⟩ (.slice a8 ((O 1).length + 1) c8)).heap[bx]? = some (.cells #[.int .i64 5, .int .i64 m, .slice da dl.length dc] 34 (0, 0)) :=
        ((Keeps.refl (oneB bo) w8).set1 1 _).blk (H8.out.2.2.2.blk H6.out.2.2.2.2 (by have := H6.out.2.2.1; omega)) (fun e => by have e' : bx = bo := e; have h1 := H6.out.2.2.1; have h2 := H6.out.2.1.tz; rw [e'] at h1; omega)
      have hTf : tagN T2 (5 + 1) w7.heap.size w8.heap.size bx = 0 := by
        unfold tagN
        rw [if_neg (fun hh => by have := lt_of_blk (HK7.out.blk H6.out.2.2.2.2 (noB_not _)); omega)]
        exact H6.out.2.2.1
      have hOf := HON.out.1
      simp only [if_true] at hOf
      rw [← HON.out.2 rfl] at hOf
      have HF := Lib.hid (And.intro hIf (And.intro hOf (And.intro hbf hTf)))
      clear hIf hOf hbf hTf
      generalize tagN T2 (5 + 1) w7.heap.size w8.heap.size = Tf at *
      generalize w8.setCell ⟨bo, 1, none⟩ (.slice a8 ((O 1).length + 1) c8) = wf at *
      have u0 := blk_cell HF.out.2.2.1 (i := 0) rfl
      have u1 := blk_cell HF.out.2.2.1 (i := 1) rfl
      obtain ⟨gw', xs, cur, hge, hc1, hc2, hg, hD, hxl, hcur, hone, hx⟩ := HF.out.1.wy.block (by omega)
      obtain rfl : gw = gw' := by simpa using hge
      have HW := Lib.hid (And.intro hg (And.intro hD (And.intro hxl (And.intro hcur (And.intro hone hx)))))
      clear hg hD hxl hcur hone hx hge
      have i0 : (0 : Int) ≤ (m : Int) := by omega
      have i1 : (m : Int) ≤ (W.length : Int) := by omega
      have i2 : (m : Int) ≤ (cW : Int) := by omega
      have i3 : (m : Int) + 1 ≤ (W.length : Int) := by omega
      have i4 : (m : Int) + 1 ≤ (cW : Int) := by omega
      have i5 : IntKind.i64.wrap ((m : Int) + 1) = (m : Int) + 1 := by rw [IntKind.wrap_i64]; unfold maxLen at hc2; omega
      have i6 : (0 : Int) ≤ (m : Int) + 1 := by omega
      have i7 : ((m : Int) + 1).toNat = m + 1 := by omega
      have hS : ∀ (F : Nat → Prop) w', Keeps F wf w' → ¬ F bx → w'.cell? ⟨bx, 1, none⟩ = some (.int .i64 m) := fun F w' hk f1 => blk_cell (hk.blk HF.out.2.2.1 f1) (i := 1) rfl
      have HS := Lib.hid hS
      clear hS
      have hk1 : Keeps noB wf (wf.alloc (.cells #[] 24)).drew := ((Keeps.refl noB _).alloc _).drew
      have hsz1 : (wf.alloc (.cells #[] 24)).drew.heap.size = wf.heap.size + 1 := alloc_size _ _
      have hg1 := hk1.blk HW.out.1 (noB_not _)
      have ho1 : (wf.alloc (.cells #[] 24)).drew.ownsRow 0 24 7 (.slice (some ⟨wf.heap.size, 0, none⟩) 0 0) 0 [] := own_keep_no (own_pks0 wf) ((Keeps.refl noB _).drew)
      have hbw : W.length ≤ 1200 := by have := HLB.out.1; omega
      have hp1 : ∀ j, j < m * 7 → cur[0 + j]? = (xs.take (m * 7))[j]? := fun j hj => by
        rw [Nat.zero_add, List.getElem?_take, if_pos hj]; exact HW.out.2.2.2.1 j (by omega)
      have hp2 : ∀ j, j < (W.length - (m + 1)) * 7 → cur[(m + 1) * 7 + j]? = (xs.drop ((m + 1) * 7))[j]? := fun j hj => by
        rw [List.getElem?_drop]; exact HW.out.2.2.2.1 _ (by omega)
      have hxl1 : (xs.take (m * 7)).length = m * 7 := by rw [List.length_take, HW.out.2.2.1]; omega
      have hxl2 : (xs.drop ((m + 1) * 7)).length = (W.length - (m + 1)) * 7 := by rw [List.length_drop, HW.out.2.2.1]; omega
      have hon1 : ∀ u ∈ xs.take (m * 7), u.oneCell' = true := fun u hu => HW.out.2.2.2.2.1 u (List.mem_of_mem_take hu)
      have hon2 : ∀ u ∈ xs.drop ((m + 1) * 7), u.oneCell' = true := fun u hu => HW.out.2.2.2.2.1 u (List.mem_of_mem_drop hu)
      have H1 := Lib.hid (And.intro hk1 (And.intro hsz1 (And.intro hg1 (And.intro ho1 (And.intro hp1 (And.intro hxl1 hon1))))))
      have H2 := Lib.hid (And.intro hp2 (And.intro hxl2 hon2))
      clear hk1 hsz1 hg1 ho1 hp1 hp2 hxl1 hxl2 hon1 hon2
      by_cases hcap : m + 1 = cW
      · go_upto_region 31 with fail
        go_region_held3 (fun w' => w'.cell? ⟨bx, 1, none⟩ = some (.int .i64 m)) (first | exact HS.out _ _ ((Keeps.refl noB wf).drew) (noB_not _) | exact HS.out _ _ H1.out.1 (noB_not _) | exact HS.out _ _ hkA (noB_not _) | exact HS.out _ _ hkC (noB_not _))
          (first
            | (refine step_append_part (by rfl) _ _ rfl _ _ _ rfl hown1 gw _ 0 _ cur [] (by rfl) (hkA.blk HW.out.1 (noB_not _)) rfl (fun j hj => by omega) (fun u hu => by simp at hu) (by omega) ?_; intro v2 w2 hown2 hgrow2 hob2; have hkC : Keeps noB wf w2 := hkA.grown hgrow2 (fun k hk => .inl (hb1 k hk)))
            | (refine step_append_part (by rfl) _ _ rfl _ 0 [] rfl H1.out.2.2.2.1 gw 0 m cW cur (xs.take (m * 7)) (by rfl) H1.out.2.2.1 H1.out.2.2.2.2.2.1 H1.out.2.2.2.2.1 H1.out.2.2.2.2.2.2 (by omega) ?_; intro v1 w1 hown1 hgrow1 hob1; have hkA : Keeps noB wf w1 := H1.out.1.grown hgrow1 (fun k hk => .inl (by have h3 : wf.heap.size = k := Option.some.inj hk; omega)); have hb1 : ∀ k, v1.ownBlock = some k → wf.heap.size ≤ k := (fun k hk => by rcases hob1 with g | g; (have h3 : wf.heap.size = k := Option.some.inj (g.symm.trans hk); omega); (have h3 := Option.some.inj (g.symm.trans hk); have h4 := H1.out.2.1; omega)); obtain ⟨a1, c1, rfl⟩ := WyT.own_slice hown1))
        have hkw := hkA.size
        have HE := Lib.hid (And.intro hown2 (And.intro hob2 (And.intro hkC (And.intro hb1 hkw))))
        clear hown1 hgrow1 hob1 hkA hb1 hown2 hgrow2 hob2 hkC hkw
        go_wp2_with fail
        obtain ⟨hown2, hob2, hkC, hb1, hkw⟩ := HE.out
        have hd : xs.drop ((m + 1) * 7) = [] := List.drop_eq_nil_of_le (by rw [HW.out.2.2.1]; omega)
        have hown3 : w2.ownsRow 0 24 7 v2 (m + (W.length - (m + 1))) (xs.take (m * 7) ++ xs.drop ((m + 1) * 7)) := by
          rw [hd, show W.length - (m + 1) = 0 by omega]
          simpa using hown2
        have hwy : WyT w2 (fun y => Tf y = 7 ∨ (wf.heap.size ≤ y ∧ y < w2.heap.size)) v2 (W.take m ++ W.drop (m + 1)) := WyT.erased hmW HW.out.2.2.1 HW.out.2.2.2.2.2 hkC hown3 (fun y hy => by
          have := (hown2.lt y hy).2
          rcases hob2 with g | g
          · rw [g] at hy; exact .inr ⟨hb1 y hy, this⟩
          · rw [g] at hy; simp at hy; exact .inr ⟨by omega, this⟩) (fun y hy => .inl hy)
        exact HFIN.out (HF.out.1.wayN hkC.of_no hwy) (HF.out.2.1.sub (fun q hq => by
          rcases List.mem_append.1 hq with h | h
          · exact List.mem_of_mem_take h
          · exact List.mem_of_mem_drop h)) (by have := HLB.out.1; simp; omega) (fun i hi => by have := HLB.out.2 i hi; omega)
      · have hcap2 : ¬ (cW = m + 1) := fun h => hcap h.symm
        go_upto_region 31 with fail
        go_region_held3 (fun w' => w'.cell? ⟨bx, 1, none⟩ = some (.int .i64 m)) (first | exact HS.out _ _ ((Keeps.refl noB wf).drew) (noB_not _) | exact HS.out _ _ H1.out.1 (noB_not _) | exact HS.out _ _ hkA (noB_not _) | exact HS.out _ _ hkC (noB_not _))
          (first
            | (refine step_append_part (by rfl) _ _ rfl _ _ _ rfl hown1 gw ((m + 1) * 7) (W.length - (m + 1)) _ cur (xs.drop ((m + 1) * 7)) (by rfl) (hkA.blk HW.out.1 (noB_not _)) H2.out.2.1 H2.out.1 H2.out.2.2 (by omega) ?_; intro v2 w2 hown2 hgrow2 hob2; have hkC : Keeps noB wf w2 := hkA.grown hgrow2 (fun k hk => .inl (hb1 k hk)))
            | (refine step_append_part (by rfl) _ _ rfl _ 0 [] rfl H1.out.2.2.2.1 gw 0 m cW cur (xs.take (m * 7)) (by rfl) H1.out.2.2.1 H1.out.2.2.2.2.2.1 H1.out.2.2.2.2.1 H1.out.2.2.2.2.2.2 (by omega) ?_; intro v1 w1 hown1 hgrow1 hob1; have hkA : Keeps noB wf w1 := H1.out.1.grown hgrow1 (fun k hk => .inl (by have h3 : wf.heap.size = k := Option.some.inj hk; omega)); have hb1 : ∀ k, v1.ownBlock = some k → wf.heap.size ≤ k := (fun k hk => by rcases hob1 with g | g; (have h3 : wf.heap.size = k := Option.some.inj (g.symm.trans hk); omega); (have h3 := Option.some.inj (g.symm.trans hk); have h4 := H1.out.2.1; omega)); obtain ⟨a1, c1, rfl⟩ := WyT.own_slice hown1))
        have hkw := hkA.size
        have HE := Lib.hid (And.intro hown2 (And.intro hob2 (And.intro hkC (And.intro hb1 hkw))))
        clear hown1 hgrow1 hob1 hkA hb1 hown2 hgrow2 hob2 hkC hkw
        go_wp2_with fail
        obtain ⟨hown2, hob2, hkC, hb1, hkw⟩ := HE.out
        have hwy : WyT w2 (fun y => Tf y = 7 ∨ (wf.heap.size ≤ y ∧ y < w2.heap.size)) v2 (W.take m ++ W.drop (m + 1)) := WyT.erased hmW HW.out.2.2.1 HW.out.2.2.2.2.2 hkC (by simpa using hown2) (fun y hy => by
          have := (hown2.lt y hy).2
          rcases hob2 with g | g
          · rw [g] at hy; exact .inr ⟨hb1 y hy, this⟩
          · rw [g] at hy; simp at hy; exact .inr ⟨by omega, this⟩) (fun y hy => .inl hy)
        exact HFIN.out (HF.out.1.wayN hkC.of_no hwy) (HF.out.2.1.sub (fun q hq => by
          rcases List.mem_append.1 hq with h | h
          · exact List.mem_of_mem_take h
          · exact List.mem_of_mem_drop h)) (by have := HLB.out.1; simp; omega) (fun i hi => by have := HLB.out.2 i hi; omega)
  · have hkP : Keeps noB wB (wB.alloc (.cells #[.int .i64 q.c, .int .i64 q.e, .int .i64 q.b, .int .i64 q.s, .int .i64 q.k, .bool true, .slice pa q.l.length pc] 24)) := (Keeps.refl _ _).alloc _
    have hPB := heap_alloc_new wB (.cells #[.int .i64 q.c, .int .i64 q.e, .int .i64 q.b, .int .i64 q.s, .int .i64 q.k, .bool true, .slice pa q.l.length pc] 24)
    have HKP := Lib.hid hkP
    have hbp0 : T wB.heap.size = 0 := by
      rcases Nat.eq_zero_or_pos (T wB.heap.size) with h | h
      · exact h
      · have := HB.out.1.th wB.heap.size (by omega); omega
    obtain ⟨bp, hbp⟩ : ∃ bp, bp = wB.heap.size := ⟨_, rfl⟩
    rw [← hbp] at hPB hbp0
    have HPB := Lib.hid (And.intro hPB hbp0)
    clear hkP hPB hbp0
    go_upto_region 27 with fail
    rw [← hbp]
    clear hbp y0 y1 y2 y3 y4 y5 y6 x0 x1
    generalize wB.alloc (.cells #[.int .i64 q.c, .int .i64 q.e, .int .i64 q.b, .int .i64 q.s, .int .i64 q.k, .bool true, .slice pa q.l.length pc] 24) = wP at *
    have hGT : ∀ w', Keeps noB wP w' → Calls Try.prog 13 #[.pointer (some ⟨p 0, 0, none⟩), .agg #[.int .i64 q.c, .int .i64 q.e, .int .i64 q.b, .int .i64 q.s, .int .i64 q.k, .bool true, .slice pa q.l.length pc]] w' fun e w2 => ∃ a' c' T2, e = .returned (.tuple #[.slice a' (gotL (K 0) q).length c', .bool ((K 0).takes q)]) ∧ Keeps (fun y => T y = 1 + 0) wP w2 ∧ OnI w w2 T2 ba bi bo p (upd K 0 ((K 0).got q)) vI vO (.slice (some ⟨gw, 0, none⟩) W.length cW) I O W ∧ T2 bx = 0 ∧ ByR w2 (fun y => T2 y = 1 + 0) a' (gotL (K 0) q) := fun w' hk => by
      have hkw := HKP.out.trans_no hk
      have h3 := HB.out.1.no hkw
      obtain ⟨vl, hl3⟩ := h3.lk 0 (by omega)
      have hg := got_b hl3 q (fun y => T y = 7) (fun y h1 h2 => by have h1' : T y = 7 := h1; have h2' : T y = 1 + 0 := h2; omega) pa pc (by have := HQ.out.2.2.2.1; omega) (HQ.out.2.2.2.2.keep hkw (fun b _ => noB_not b)) HQ.out.2.2.1
      rw [← HQ.out.1] at hg
      refine hg.mono ?_
      rintro e w2 ⟨a', c', ⟨he, hk2⟩, ⟨vi', hl'⟩, hO⟩
      refine ⟨a', c', _, he, (hk.of_no).trans hk2 (fun _ _ h => h), h3.turn (by omega) hk2 (fun y hy => .inl hy) hl', ?_, ?_⟩
      · unfold tagN
        rw [if_neg (fun hh => by have := lt_of_blk (hkw.blk HB.out.2.1 (noB_not _)); omega)]
        exact HB.out.2.2.2.1
      · intro k hk3
        obtain ⟨g, off, e3, hD, hlt, hc⟩ := hO.byr k hk3
        refine ⟨g, off, e3, ?_, hlt, hc⟩
        show tagN T _ _ _ g = _
        unfold tagN
        rw [if_pos ⟨hD, hlt⟩]
    have hSF : ∀ (F : Nat → Prop) w', Keeps F wP w' → ¬ F ba → ¬ F bp → w'.cell? ⟨ba, 0, none⟩ = some (.pointer (some ⟨p 0, 0, none⟩)) ∧ w'.cell? ⟨bp, 0, none⟩ = some (.int .i64 q.c) ∧ w'.cell? ⟨bp, 1, none⟩ = some (.int .i64 q.e) ∧ w'.cell? ⟨bp, 2, none⟩ = some (.int .i64 q.b) ∧ w'.cell? ⟨bp, 3, none⟩ = some (.int .i64 q.s) ∧ w'.cell? ⟨bp, 4, none⟩ = some (.int .i64 q.k) ∧ w'.cell? ⟨bp, 5, none⟩ = some (.bool true) ∧ w'.cell? ⟨bp, 6, none⟩ = some (.slice pa q.l.length pc) := fun F w' hk f1 f2 => by
      have h1 := hk.blk (HKP.out.blk HB.out.1.ar (noB_not _)) f1
      have h2 := hk.blk HPB.out.1 f2
      exact ⟨blk_cell h1 (i := 0) rfl, blk_cell h2 (i := 0) rfl, blk_cell h2 (i := 1) rfl, blk_cell h2 (i := 2) rfl, blk_cell h2 (i := 3) rfl, blk_cell h2 (i := 4) rfl, blk_cell h2 (i := 5) rfl, blk_cell h2 (i := 6) rfl⟩
    have hxb : ∀ (F : Nat → Prop) w', Keeps F wP w' → ¬ F bx → w'.heap[bx]? = some (.cells #[.int .i64 5, .int .i64 m, .slice da dl.length dc] 34 (0, 0)) := fun F w' hk f1 => hk.blk (HKP.out.blk HB.out.2.1 (noB_not _)) f1
    have hnf : ¬ (T ba = 1 + 0) ∧ ¬ (T bp = 1 + 0) ∧ ¬ (T bx = 1 + 0) := by
      have := HB.out.1.ta
      have := HPB.out.2
      have := HB.out.2.2.2.1
      omega
    obtain ⟨kn', hON⟩ := HB.out.2.2.2.2.1.got HQ.out.2.1 (t := 0) (by omega) (by rw [← HQ.out.1]; rfl)
    have htg : (K 0).takes q = true → gotL (K 0) q = q.l := fun h => by unfold gotL; rw [if_pos h]
    obtain ⟨tk, htk⟩ : ∃ b, b = (K 0).takes q := ⟨_, rfl⟩
    obtain ⟨gl, hgl⟩ : ∃ l, l = gotL (K 0) q := ⟨_, rfl⟩
    rw [← htk, ← hgl] at htg
    rw [← htk] at hON
    simp only [← htk, ← hgl] at hGT
    have HON := Lib.hid (And.intro hON htg)
    have HGT := Lib.hid hGT
    have HSF := Lib.hid (And.intro hSF (And.intro hxb hnf))
    clear hGT hSF hxb hnf hON htg htk hgl
    go_region_held3 (fun w' => w'.cell? ⟨ba, 0, none⟩ = some (.pointer (some ⟨p 0, 0, none⟩)) ∧ w'.cell? ⟨bp, 0, none⟩ = some (.int .i64 q.c) ∧ w'.cell? ⟨bp, 1, none⟩ = some (.int .i64 q.e) ∧ w'.cell? ⟨bp, 2, none⟩ = some (.int .i64 q.b) ∧ w'.cell? ⟨bp, 3, none⟩ = some (.int .i64 q.s) ∧ w'.cell? ⟨bp, 4, none⟩ = some (.int .i64 q.k) ∧ w'.cell? ⟨bp, 5, none⟩ = some (.bool true) ∧ w'.cell? ⟨bp, 6, none⟩ = some (.slice pa q.l.length pc))
      (first | exact HSF.out.1 _ _ ((Keeps.refl noB wP).drew) (noB_not _) (noB_not _) | exact HSF.out.1 _ _ hk6 HSF.out.2.2.1 HSF.out.2.2.2.1)
      ((go_at_call 13; refine (HGT.out _ ((Keeps.refl noB wP).drew)).mono ?_; rintro e w6 ⟨a6, c6, T2, rfl, hk6, hI6, hTx, hB6⟩))
    have hbx6 := HSF.out.2.1 _ _ hk6 HSF.out.2.2.2.2
    have H6 := Lib.hid (And.intro hk6 (And.intro hI6 (And.intro hTx (And.intro hB6 hbx6))))
    clear hk6 hI6 hTx hB6 hbx6 HGT
    cases tk
    · have hIf := H6.out.2.1
      have hbf := H6.out.2.2.2.2
      have hTf := H6.out.2.2.1
      have hOf := HON.out.1
      simp only [Bool.false_eq_true, if_false] at hOf
      rw [upd_id] at hOf
      have hgs := HB.out.1.kp.size
      have HF := Lib.hid (And.intro hIf (And.intro hOf (And.intro hbf hTf)))
      clear hIf hOf hbf hTf
      have u0 := blk_cell HF.out.2.2.1 (i := 0) rfl
      have u1 := blk_cell HF.out.2.2.1 (i := 1) rfl
      obtain ⟨gw', xs, cur, hge, hc1, hc2, hg, hD, hxl, hcur, hone, hx⟩ := HF.out.1.wy.block (by omega)
      obtain rfl : gw = gw' := by simpa using hge
      have HW := Lib.hid (And.intro hg (And.intro hD (And.intro hxl (And.intro hcur (And.intro hone hx)))))
      clear hg hD hxl hcur hone hx hge
      have i0 : (0 : Int) ≤ (m : Int) := by omega
      have i1 : (m : Int) ≤ (W.length : Int) := by omega
      have i2 : (m : Int) ≤ (cW : Int) := by omega
      have i3 : (m : Int) + 1 ≤ (W.length : Int) := by omega
      have i4 : (m : Int) + 1 ≤ (cW : Int) := by omega
      have i5 : IntKind.i64.wrap ((m : Int) + 1) = (m : Int) + 1 := by rw [IntKind.wrap_i64]; unfold maxLen at hc2; omega
      have i6 : (0 : Int) ≤ (m : Int) + 1 := by omega
      have i7 : ((m : Int) + 1).toNat = m + 1 := by omega
      have hS : ∀ (F : Nat → Prop) w', Keeps F w6 w' → ¬ F bx → w'.cell? ⟨bx, 1, none⟩ = some (.int .i64 m) := fun F w' hk f1 => blk_cell (hk.blk HF.out.2.2.1 f1) (i := 1) rfl
      have HS := Lib.hid hS
      clear hS
      have hk1 : Keeps noB w6 (w6.alloc (.cells #[] 24)).drew := ((Keeps.refl noB _).alloc _).drew
      have hsz1 : (w6.alloc (.cells #[] 24)).drew.heap.size = w6.heap.size + 1 := alloc_size _ _
      have hg1 := hk1.blk HW.out.1 (noB_not _)
      have ho1 : (w6.alloc (.cells #[] 24)).drew.ownsRow 0 24 7 (.slice (some ⟨w6.heap.size, 0, none⟩) 0 0) 0 [] := own_keep_no (own_pks0 w6) ((Keeps.refl noB _).drew)
      have hbw : W.length ≤ 1200 := by have := HLB.out.1; omega
      have hp1 : ∀ j, j < m * 7 → cur[0 + j]? = (xs.take (m * 7))[j]? := fun j hj => by
        rw [Nat.zero_add, List.getElem?_take, if_pos hj]; exact HW.out.2.2.2.1 j (by omega)
      have hp2 : ∀ j, j < (W.length - (m + 1)) * 7 → cur[(m + 1) * 7 + j]? = (xs.drop ((m + 1) * 7))[j]? := fun j hj => by
        rw [List.getElem?_drop]; exact HW.out.2.2.2.1 _ (by omega)
      have hxl1 : (xs.take (m * 7)).length = m * 7 := by rw [List.length_take, HW.out.2.2.1]; omega
      have hxl2 : (xs.drop ((m + 1) * 7)).length = (W.length - (m + 1)) * 7 := by rw [List.length_drop, HW.out.2.2.1]; omega
      have hon1 : ∀ u ∈ xs.take (m * 7), u.oneCell' = true := fun u hu => HW.out.2.2.2.2.1 u (List.mem_of_mem_take hu)
      have hon2 : ∀ u ∈ xs.drop ((m + 1) * 7), u.oneCell' = true := fun u hu => HW.out.2.2.2.2.1 u (List.mem_of_mem_drop hu)
      have H1 := Lib.hid (And.intro hk1 (And.intro hsz1 (And.intro hg1 (And.intro ho1 (And.intro hp1 (And.intro hxl1 hon1))))))
      have H2 := Lib.hid (And.intro hp2 (And.intro hxl2 hon2))
      clear hk1 hsz1 hg1 ho1 hp1 hp2 hxl1 hxl2 hon1 hon2
      by_cases hcap : m + 1 = cW
      · go_upto_region 31 with fail
        go_region_held3 (fun w' => w'.cell? ⟨bx, 1, none⟩ = some (.int .i64 m)) (first | exact HS.out _ _ ((Keeps.refl noB w6).drew) (noB_not _) | exact HS.out _ _ H1.out.1 (noB_not _) | exact HS.out _ _ hkA (noB_not _) | exact HS.out _ _ hkC (noB_not _))
          (first
            | (refine step_append_part (by rfl) _ _ rfl _ _ _ rfl hown1 gw _ 0 _ cur [] (by rfl) (hkA.blk HW.out.1 (noB_not _)) rfl (fun j hj => by omega) (fun u hu => by simp at hu) (by omega) ?_; intro v2 w2 hown2 hgrow2 hob2; have hkC : Keeps noB w6 w2 := hkA.grown hgrow2 (fun k hk => .inl (hb1 k hk)))
            | (refine step_append_part (by rfl) _ _ rfl _ 0 [] rfl H1.out.2.2.2.1 gw 0 m cW cur (xs.take (m * 7)) (by rfl) H1.out.2.2.1 H1.out.2.2.2.2.2.1 H1.out.2.2.2.2.1 H1.out.2.2.2.2.2.2 (by omega) ?_; intro v1 w1 hown1 hgrow1 hob1; have hkA : Keeps noB w6 w1 := H1.out.1.grown hgrow1 (fun k hk => .inl (by have h3 : w6.heap.size = k := Option.some.inj hk; omega)); have hb1 : ∀ k, v1.ownBlock = some k → w6.heap.size ≤ k := (fun k hk => by rcases hob1 with g | g; (have h3 : w6.heap.size = k := Option.some.inj (g.symm.trans hk); omega); (have h3 := Option.some.inj (g.symm.trans hk); have h4 := H1.out.2.1; omega)); obtain ⟨a1, c1, rfl⟩ := WyT.own_slice hown1))
        have hkw := hkA.size
        have HE := Lib.hid (And.intro hown2 (And.intro hob2 (And.intro hkC (And.intro hb1 hkw))))
        clear hown1 hgrow1 hob1 hkA hb1 hown2 hgrow2 hob2 hkC hkw
        go_wp2_with fail
        obtain ⟨hown2, hob2, hkC, hb1, hkw⟩ := HE.out
        have hd : xs.drop ((m + 1) * 7) = [] := List.drop_eq_nil_of_le (by rw [HW.out.2.2.1]; omega)
        have hown3 : w2.ownsRow 0 24 7 v2 (m + (W.length - (m + 1))) (xs.take (m * 7) ++ xs.drop ((m + 1) * 7)) := by
          rw [hd, show W.length - (m + 1) = 0 by omega]
          simpa using hown2
        have hwy : WyT w2 (fun y => T2 y = 7 ∨ (w6.heap.size ≤ y ∧ y < w2.heap.size)) v2 (W.take m ++ W.drop (m + 1)) := WyT.erased hmW HW.out.2.2.1 HW.out.2.2.2.2.2 hkC hown3 (fun y hy => by
          have := (hown2.lt y hy).2
          rcases hob2 with g | g
          · rw [g] at hy; exact .inr ⟨hb1 y hy, this⟩
          · rw [g] at hy; simp at hy; exact .inr ⟨by omega, this⟩) (fun y hy => .inl hy)
        exact HFIN.out (HF.out.1.wayN hkC.of_no hwy) (HF.out.2.1.sub (fun q hq => by
          rcases List.mem_append.1 hq with h | h
          · exact List.mem_of_mem_take h
          · exact List.mem_of_mem_drop h)) (by have := HLB.out.1; simp; omega) (fun i hi => by have := HLB.out.2 i hi; omega)
      · have hcap2 : ¬ (cW = m + 1) := fun h => hcap h.symm
        go_upto_region 31 with fail
        go_region_held3 (fun w' => w'.cell? ⟨bx, 1, none⟩ = some (.int .i64 m)) (first | exact HS.out _ _ ((Keeps.refl noB w6).drew) (noB_not _) | exact HS.out _ _ H1.out.1 (noB_not _) | exact HS.out _ _ hkA (noB_not _) | exact HS.out _ _ hkC (noB_not _))
          (first
            | (refine step_append_part (by rfl) _ _ rfl _ _ _ rfl hown1 gw ((m + 1) * 7) (W.length - (m + 1)) _ cur (xs.drop ((m + 1) * 7)) (by rfl) (hkA.blk HW.out.1 (noB_not _)) H2.out.2.1 H2.out.1 H2.out.2.2 (by omega) ?_; intro v2 w2 hown2 hgrow2 hob2; have hkC : Keeps noB w6 w2 := hkA.grown hgrow2 (fun k hk => .inl (hb1 k hk)))
            | (refine step_append_part (by rfl) _ _ rfl _ 0 [] rfl H1.out.2.2.2.1 gw 0 m cW cur (xs.take (m * 7)) (by rfl) H1.out.2.2.1 H1.out.2.2.2.2.2.1 H1.out.2.2.2.2.1 H1.out.2.2.2.2.2.2 (by omega) ?_; intro v1 w1 hown1 hgrow1 hob1; have hkA : Keeps noB w6 w1 := H1.out.1.grown hgrow1 (fun k hk => .inl (by have h3 : w6.heap.size = k := Option.some.inj hk; omega)); have hb1 : ∀ k, v1.ownBlock = some k → w6.heap.size ≤ k := (fun k hk => by rcases hob1 with g | g; (have h3 : w6.heap.size = k := Option.some.inj (g.symm.trans hk); omega); (have h3 := Option.some.inj (g.symm.trans hk); have h4 := H1.out.2.1; omega)); obtain ⟨a1, c1, rfl⟩ := WyT.own_slice hown1))
        have hkw := hkA.size
        have HE := Lib.hid (And.intro hown2 (And.intro hob2 (And.intro hkC (And.intro hb1 hkw))))
        clear hown1 hgrow1 hob1 hkA hb1 hown2 hgrow2 hob2 hkC hkw
        go_wp2_with fail
        obtain ⟨hown2, hob2, hkC, hb1, hkw⟩ := HE.out
        have hwy : WyT w2 (fun y => T2 y = 7 ∨ (w6.heap.size ≤ y ∧ y < w2.heap.size)) v2 (W.take m ++ W.drop (m + 1)) := WyT.erased hmW HW.out.2.2.1 HW.out.2.2.2.2.2 hkC (by simpa using hown2) (fun y hy => by
          have := (hown2.lt y hy).2
          rcases hob2 with g | g
          · rw [g] at hy; exact .inr ⟨hb1 y hy, this⟩
          · rw [g] at hy; simp at hy; exact .inr ⟨by omega, this⟩) (fun y hy => .inl hy)
        exact HFIN.out (HF.out.1.wayN hkC.of_no hwy) (HF.out.2.1.sub (fun q hq => by
          rcases List.mem_append.1 hq with h | h
          · exact List.mem_of_mem_take h
          · exact List.mem_of_mem_drop h)) (by have := HLB.out.1; simp; omega) (fun i hi => by have := HLB.out.2 i hi; omega)
    · have hil2 : (O 0).length < 1000000 := by
        have h1 := HB.out.2.2.2.2.1.len (j := 0) (by omega)
        have h2 := HLB.out.2 (1 - 0) (by omega)
        omega
      have hI6 := H6.out.2.1
      obtain ⟨ao, co, hvo⟩ := (hI6.so 0 (by omega)).slice
      have hown4 := (hI6.so 0 (by omega)).own
      have hat4 := (hI6.so 0 (by omega)).at_
      have hir4 := hI6.or
      obtain ⟨ZO, hZO⟩ : ∃ Z, Z = #[vO 0, vO 1] := ⟨_, rfl⟩
      have hZj : ZO[0]? = some (vO 0) := by rw [hZO]; rfl
      rw [← hZO] at hir4
      rw [hvo] at hown4 hat4 hZj
      have hS3 : ∀ w', Keeps (fun y => T2 y = 5 + 0) w6 w' → (convert 22 9 (.slice a6 gl.length c6)).run Try.prog w' = .ok (.string (strOf gl)) w' ∧ w'.cell? ⟨bo, 0, none⟩ = some (.slice ao (O 0).length co) := fun w' hk =>
        ⟨conv_c (H6.out.2.2.2.1.keep hk (fun b hb h => by have hb' : T2 b = 1 + 0 := hb; omega)) c6, blk_cell (hk.blk hir4 (by have := hI6.tz; omega)) hZj⟩
      have hS4 : ∀ w', Keeps noB w6 w' → (convert 22 9 (.slice a6 gl.length c6)).run Try.prog w' = .ok (.string (strOf gl)) w' ∧ w'.cell? ⟨bo, 0, none⟩ = some (.slice ao (O 0).length co) := fun w' hk => hS3 w' hk.of_no
      have hfr : ∀ w', Keeps (fun y => T2 y = 5 + 0) w6 w' → w'.frozen? ⟨bo, 0, none⟩ = false := fun w' hk => blk_free (hk.blk hir4 (by have := hI6.tz; omega)) _
      have HS3 := Lib.hid (And.intro hS3 (And.intro hS4 hfr))
      have HB2 := Lib.hid (And.intro hown4 (And.intro hat4 hvo))
      have HIL := Lib.hid hil2
      clear hI6 hown4 hat4 hir4 hZO hZj hvo hil2 hS3 hS4 hfr
      go_upto_region 29 with fail
      have hSd := HS3.out.2.1 _ ((Keeps.refl noB w6).drew)
      refine wp_region_noPanic ?_
      refine wp_region_last (last := 9) (S := fun w' => (convert 22 9 (.slice a6 gl.length c6)).run Try.prog w' = .ok (.string (strOf gl)) w' ∧ w'.cell? ⟨bo, 0, none⟩ = some (.slice ao (O 0).length co)) (by kernel_rfl) ?_
      refine wpAnyL_take (i := 0) (v := .int .i64 0) rfl rfl (by rfl) (by kernel_rfl) (by kernel_rfl) (by kernel_rfl) (by kernel_rfl) (fun _ _ _ h => h) (Or.inl ⟨by rfl, ?_⟩) (by assumption) ?_
      · (intro w hSw; (try dsimp only at hSw); go_simp)
      refine wpAnyL_take (i := 1) (v := .int .i64 0) rfl rfl (by rfl) (by kernel_rfl) (by kernel_rfl) (by kernel_rfl) (by kernel_rfl) (fun _ _ _ h => h) (Or.inl ⟨by rfl, ?_⟩) (by assumption) ?_
      · (intro w hSw; (try dsimp only at hSw); go_simp)
      refine wpAnyL_take (i := 2) (v := .pointer (some ⟨bo, 0, none⟩)) rfl rfl (by rfl) (by kernel_rfl) (by kernel_rfl) (by kernel_rfl) (by kernel_rfl) (fun _ _ _ h => h) (Or.inl ⟨by rfl, ?_⟩) (by assumption) ?_
      · (intro w hSw; (try dsimp only at hSw); go_simp)
      refine wpAnyL_take (i := 3) (v := .slice ao (O 0).length co) rfl rfl (by rfl) (by kernel_rfl) (by kernel_rfl) (by kernel_rfl) (by kernel_rfl) (fun _ _ _ h => h) (Or.inl ⟨by rfl, ?_⟩) (by assumption) ?_
      · (intro w hSw; (try dsimp only at hSw); go_simp)
      refine wpAnyL_take (i := 4) (v := .slice a6 gl.length c6) rfl rfl (by rfl) (by kernel_rfl) (by kernel_rfl) (by kernel_rfl) (by kernel_rfl) (fun _ _ _ h => h) (Or.inl ⟨by rfl, ?_⟩) (by assumption) ?_
      · (intro w hSw; (try dsimp only at hSw); go_simp)
      refine wpAnyL_take (i := 5) (v := .string (strOf gl)) rfl rfl (by rfl) (by kernel_rfl) (by kernel_rfl) (by kernel_rfl) (by kernel_rfl) (fun _ _ _ h => h) (Or.inl ⟨by rfl, ?_⟩) (by assumption) ?_
      · (intro w hSw; (try dsimp only at hSw); go_simp)
      clear hSd
      refine wpAnyL_one (i := 6) (by kernel_rfl) rfl (fun K' hK => ?_)
      go_simp
      have hk7 : Keeps noB w6 (w6.alloc (.cells #[.string (strOf gl)] 9)).drew := ((Keeps.refl noB w6).alloc _).drew
      have hb7 : (w6.alloc (.cells #[.string (strOf gl)] 9)).drew.heap[w6.heap.size]? = some (.cells #[.string (strOf gl)] 9 (0, 0)) := heap_alloc_new w6 _
      generalize (w6.alloc (.cells #[.string (strOf gl)] 9)).drew = w7 at *
      have hS7 := HS3.out.2.1 _ hk7
      have HK7 := Lib.hid hk7
      refine hK.out _ _ (fun _ => hS7) ?_
      clear hK hS7 K'
      refine wpAnyL_one (i := 7) (by kernel_rfl) rfl (fun K' hK => ?_)
      refine step_append_str (by rfl) _ _ rfl _ _ _ rfl (own_keep_no HB2.out.1 hk7) _ _ _ _ _ rfl hb7 rfl HIL.out ?_
      intro v' w8 hown8 hgrow8 hob8
      have hk8 : Keeps (fun y => T2 y = 5 + 0) w6 w8 := Keeps.grown hk7.of_no hgrow8 (fun k hk => .inr (HB2.out.2.1 k hk))
      have hS8 := HS3.out.1 _ hk8
      have f8 := HS3.out.2.2 _ hk8
      have z8 := hS8.2
      obtain ⟨a8, c8, rfl⟩ := own_slice1 hown8
      have H8 := Lib.hid (And.intro hown8 (And.intro hgrow8 (And.intro hob8 hk8)))
      clear hown8 hgrow8 hob8 hk8 hk7 hb7
      go_simp
      refine hK.out _ _ (fun _ => hS8) ?_
      clear hK K'
      refine wpAnyL_take (i := 8) (v := .pointer (some ⟨bo, 0, none⟩)) rfl rfl (by rfl) (by kernel_rfl) (by kernel_rfl) (by kernel_rfl) (by kernel_rfl) (fun _ _ _ h => h) (Or.inl ⟨by rfl, ?_⟩) (by assumption) ?_
      · (intro w hSw; (try dsimp only at hSw); go_simp)
      clear hS8
      refine wpAnyL_one (i := 9) (by kernel_rfl) rfl (fun K' hK => ?_)
      go_simp
      refine hK.out _ _ (fun h => absurd rfl h) ?_
      clear hK K' f8 z8
      refine wpAnyL_done (by kernel_rfl) ?_ _
      refine NoPanic.normal ?_
      have hIf := by
        obtain ⟨hown8, hgrow8, hob8, hk8⟩ := H8.out
        rw [← HB2.out.2.2] at hgrow8 hob8
        exact (H6.out.2.1.no HK7.out).out (j := 0) (by omega) hgrow8 hown8 hob8
      have hbf : (w8.setCell ⟨bo, 0, none⟩ (.slice a8 ((O 0).length + 1) c8)).heap[bx]? = some (.cells #[.int .i64 5, .int .i64 m, .slice da dl.length dc] 34 (0, 0)) :=
        ((Keeps.refl (oneB bo) w8).set1 0 _).blk (H8.out.2.2.2.blk H6.out.2.2.2.2 (by have := H6.out.2.2.1; omega)) (fun e => by have e' : bx = bo := e; have h1 := H6.out.2.2.1; have h2 := H6.out.2.1.tz; rw [e'] at h1; omega)
      have hTf : tagN T2 (5 + 0) w7.heap.size w8.heap.size bx = 0 := by
        unfold tagN
        rw [if_neg (fun hh => by have := lt_of_blk (HK7.out.blk H6.out.2.2.2.2 (noB_not _)); omega)]
        exact H6.out.2.2.1
      have hOf := HON.out.1
      simp only [if_true] at hOf
      rw [← HON.out.2 rfl] at hOf
      have HF := Lib.hid (And.intro hIf (And.intro hOf (And.intro hbf hTf)))
      clear hIf hOf hbf hTf
      generalize tagN T2 (5 + 0) w7.heap.size w8.heap.size = Tf at *
      generalize w8.setCell ⟨bo, 0, none⟩ (.slice a8 ((O 0).length + 1) c8) = wf at *
      have u0 := blk_cell HF.out.2.2.1 (i := 0) rfl
      have u1 := blk_cell HF.out.2.2.1 (i := 1) rfl
      obtain ⟨gw', xs, cur, hge, hc1, hc2, hg, hD, hxl, hcur, hone, hx⟩ := HF.out.1.wy.block (by omega)
      obtain rfl : gw = gw' := by simpa using hge
      have HW := Lib.hid (And.intro hg (And.intro hD (And.intro hxl (And.intro hcur (And.intro hone hx)))))
      clear hg hD hxl hcur hone hx hge
      have i0 : (0 : Int) ≤ (m : Int) := by omega
      have i1 : (m : Int) ≤ (W.length : Int) := by omega
      have i2 : (m : Int) ≤ (cW : Int) := by omega
      have i3 : (m : Int) + 1 ≤ (W.length : Int) := by omega
      have i4 : (m : Int) + 1 ≤ (cW : Int) := by omega
      have i5 : IntKind.i64.wrap ((m : Int) + 1) = (m : Int) + 1 := by rw [IntKind.wrap_i64]; unfold maxLen at hc2; omega
      have i6 : (0 : Int) ≤ (m : Int) + 1 := by omega
      have i7 : ((m : Int) + 1).toNat = m + 1 := by omega
      have hS : ∀ (F : Nat → Prop) w', Keeps F wf w' → ¬ F bx → w'.cell? ⟨bx, 1, none⟩ = some (.int .i64 m) := fun F w' hk f1 => blk_cell (hk.blk HF.out.2.2.1 f1) (i := 1) rfl
      have HS := Lib.hid hS
      clear hS
      have hk1 : Keeps noB wf (wf.alloc (.cells #[] 24)).drew := ((Keeps.refl noB _).alloc _).drew
      have hsz1 : (wf.alloc (.cells #[] 24)).drew.heap.size = wf.heap.size + 1 := alloc_size _ _
      have hg1 := hk1.blk HW.out.1 (noB_not _)
      have ho1 : (wf.alloc (.cells #[] 24)).drew.ownsRow 0 24 7 (.slice (some ⟨wf.heap.size, 0, none⟩) 0 0) 0 [] := own_keep_no (own_pks0 wf) ((Keeps.refl noB _).drew)
      have hbw : W.length ≤ 1200 := by have := HLB.out.1; omega
      have hp1 : ∀ j, j < m * 7 → cur[0 + j]? = (xs.take (m * 7))[j]? := fun j hj => by
        rw [Nat.zero_add, List.getElem?_take, if_pos hj]; exact HW.out.2.2.2.1 j (by omega)
      have hp2 : ∀ j, j < (W.length - (m + 1)) * 7 → cur[(m + 1) * 7 + j]? = (xs.drop ((m + 1) * 7))[j]? := fun j hj => by
        rw [List.getElem?_drop]; exact HW.out.2.2.2.1 _ (by omega)
      have hxl1 : (xs.take (m * 7)).length = m * 7 := by rw [List.length_take, HW.out.2.2.1]; omega
      have hxl2 : (xs.drop ((m + 1) * 7)).length = (W.length - (m + 1)) * 7 := by rw [List.length_drop, HW.out.2.2.1]; omega
      have hon1 : ∀ u ∈ xs.take (m * 7), u.oneCell' = true := fun u hu => HW.out.2.2.2.2.1 u (List.mem_of_mem_take hu)
      have hon2 : ∀ u ∈ xs.drop ((m + 1) * 7), u.oneCell' = true := fun u hu => HW.out.2.2.2.2.1 u (List.mem_of_mem_drop hu)
      have H1 := Lib.hid (And.intro hk1 (And.intro hsz1 (And.intro hg1 (And.intro ho1 (And.intro hp1 (And.intro hxl1 hon1))))))
      have H2 := Lib.hid (And.intro hp2 (And.intro hxl2 hon2))
      clear hk1 hsz1 hg1 ho1 hp1 hp2 hxl1 hxl2 hon1 hon2
      by_cases hcap : m + 1 = cW
      · go_upto_region 31 with fail
        go_region_held3 (fun w' => w'.cell? ⟨bx, 1, none⟩ = some (.int .i64 m)) (first | exact HS.out _ _ ((Keeps.refl noB wf).drew) (noB_not _) | exact HS.out _ _ H1.out.1 (noB_not _) | exact HS.out _ _ hkA (noB_not _) | exact HS.out _ _ hkC (noB_not _))
          (first
            | (refine step_append_part (by rfl) _ _ rfl _ _ _ rfl hown1 gw _ 0 _ cur [] (by rfl) (hkA.blk HW.out.1 (noB_not _)) rfl (fun j hj => by omega) (fun u hu => by simp at hu) (by omega) ?_; intro v2 w2 hown2 hgrow2 hob2; have hkC : Keeps noB wf w2 := hkA.grown hgrow2 (fun k hk => .inl (hb1 k hk)))
            | (refine step_append_part (by rfl) _ _ rfl _ 0 [] rfl H1.out.2.2.2.1 gw 0 m cW cur (xs.take (m * 7)) (by rfl) H1.out.2.2.1 H1.out.2.2.2.2.2.1 H1.out.2.2.2.2.1 H1.out.2.2.2.2.2.2 (by omega) ?_; intro v1 w1 hown1 hgrow1 hob1; have hkA : Keeps noB wf w1 := H1.out.1.grown hgrow1 (fun k hk => .inl (by have h3 : wf.heap.size = k := Option.some.inj hk; omega)); have hb1 : ∀ k, v1.ownBlock = some k → wf.heap.size ≤ k := (fun k hk => by rcases hob1 with g | g; (have h3 : wf.heap.size = k := Option.some.inj (g.symm.trans hk); omega); (have h3 := Option.some.inj (g.symm.trans hk); have h4 := H1.out.2.1; omega)); obtain ⟨a1, c1, rfl⟩ := WyT.own_slice hown1))
        have hkw := hkA.size
        have HE := Lib.hid (And.intro hown2 (And.intro hob2 (And.intro hkC (And.intro hb1 hkw))))
        clear hown1 hgrow1 hob1 hkA hb1 hown2 hgrow2 hob2 hkC hkw
        go_wp2_with fail
        obtain ⟨hown2, hob2, hkC, hb1, hkw⟩ := HE.out
        have hd : xs.drop ((m + 1) * 7) = [] := List.drop_eq_nil_of_le (by rw [HW.out.2.2.1]; omega)
        have hown3 : w2.ownsRow 0 24 7 v2 (m + (W.length - (m + 1))) (xs.take (m * 7) ++ xs.drop ((m + 1) * 7)) := by
          rw [hd, show W.length - (m + 1) = 0 by omega]
          simpa using hown2
        have hwy : WyT w2 (fun y => Tf y = 7 ∨ (wf.heap.size ≤ y ∧ y < w2.heap.size)) v2 (W.take m ++ W.drop (m + 1)) := WyT.erased hmW HW.out.2.2.1 HW.out.2.2.2.2.2 hkC hown3 (fun y hy => by
          have := (hown2.lt y hy).2
          rcases hob2 with g | g
          · rw [g] at hy; exact .inr ⟨hb1 y hy, this⟩
          · rw [g] at hy; simp at hy; exact .inr ⟨by omega, this⟩) (fun y hy => .inl hy)
        exact HFIN.out (HF.out.1.wayN hkC.of_no hwy) (HF.out.2.1.sub (fun q hq => by
          rcases List.mem_append.1 hq with h | h
          · exact List.mem_of_mem_take h
          · exact List.mem_of_mem_drop h)) (by have := HLB.out.1; simp; omega) (fun i hi => by have := HLB.out.2 i hi; omega)
      · have hcap2 : ¬ (cW = m + 1) := fun h => hcap h.symm
        go_upto_region 31 with fail
        go_region_held3 (fun w' => w'.cell? ⟨bx, 1, none⟩ = some (.int .i64 m)) (first | exact HS.out _ _ ((Keeps.refl noB wf).drew) (noB_not _) | exact HS.out _ _ H1.out.1 (noB_not _) | exact HS.out _ _ hkA (noB_not _) | exact HS.out _ _ hkC (noB_not _))
          (first
            | (refine step_append_part (by rfl) _ _ rfl _ _ _ rfl hown1 gw ((m + 1) * 7) (W.length - (m + 1)) _ cur (xs.drop ((m + 1) * 7)) (by rfl) (hkA.blk HW.out.1 (noB_not _)) H2.out.2.1 H2.out.1 H2.out.2.2 (by omega) ?_; intro v2 w2 hown2 hgrow2 hob2; have hkC : Keeps noB wf w2 := hkA.grown hgrow2 (fun k hk => .inl (hb1 k hk)))
            | (refine step_append_part (by rfl) _ _ rfl _ 0 [] rfl H1.out.2.2.2.1 gw 0 m cW cur (xs.take (m * 7)) (by rfl) H1.out.2.2.1 H1.out.2.2.2.2.2.1 H1.out.2.2.2.2.1 H1.out.2.2.2.2.2.2 (by omega) ?_; intro v1 w1 hown1 hgrow1 hob1; have hkA : Keeps noB wf w1 := H1.out.1.grown hgrow1 (fun k hk => .inl (by have h3 : wf.heap.size = k := Option.some.inj hk; omega)); have hb1 : ∀ k, v1.ownBlock = some k → wf.heap.size ≤ k := (fun k hk => by rcases hob1 with g | g; (have h3 : wf.heap.size = k := Option.some.inj (g.symm.trans hk); omega); (have h3 := Option.some.inj (g.symm.trans hk); have h4 := H1.out.2.1; omega)); obtain ⟨a1, c1, rfl⟩ := WyT.own_slice hown1))
        have hkw := hkA.size
        have HE := Lib.hid (And.intro hown2 (And.intro hob2 (And.intro hkC (And.intro hb1 hkw))))
        clear hown1 hgrow1 hob1 hkA hb1 hown2 hgrow2 hob2 hkC hkw
        go_wp2_with fail
        obtain ⟨hown2, hob2, hkC, hb1, hkw⟩ := HE.out
        have hwy : WyT w2 (fun y => Tf y = 7 ∨ (wf.heap.size ≤ y ∧ y < w2.heap.size)) v2 (W.take m ++ W.drop (m + 1)) := WyT.erased hmW HW.out.2.2.1 HW.out.2.2.2.2.2 hkC (by simpa using hown2) (fun y hy => by
          have := (hown2.lt y hy).2
          rcases hob2 with g | g
          · rw [g] at hy; exact .inr ⟨hb1 y hy, this⟩
          · rw [g] at hy; simp at hy; exact .inr ⟨by omega, this⟩) (fun y hy => .inl hy)
        exact HFIN.out (HF.out.1.wayN hkC.of_no hwy) (HF.out.2.1.sub (fun q hq => by
          rcases List.mem_append.1 hq with h | h
          · exact List.mem_of_mem_take h
          · exact List.mem_of_mem_drop h)) (by have := HLB.out.1; simp; omega) (fun i hi => by have := HLB.out.2 i hi; omega)
end Go.Proofs.Ytoeikgaikdbpbaa
