/- Once, in order: what the round does at kind 3. No condition. -/
import Derived.Test.YtoeikgaikdbpbaaLkOnC
import Derived.Deep.RegionHeld3
import Derived.StillTailTactics
namespace Go.Proofs.Ytoeikgaikdbpbaa
open Go.RowKit

set_option maxRecDepth 100000 in
set_option maxHeartbeats 16000000 in
theorem once_k3 (w wB : World) (T : Nat → Nat) (ba bi bo bx : Nat) (p : Nat → Nat) (K : Nat → Lk) (vI vO : Nat → Value) (I O : Nat → List (List Int)) (W : List Pq) (kn : Nat → Nat) (aW : Option Addr) (cW n : Nat) (nn : Int) (da : Option Addr) (dl : List Int) (dc : Nat) (HN : Hid (-9223372036854775808 ≤ nn ∧ nn ≤ 9223372036854775807 ∧ dl.length ≤ 140737488351232 ∧ n < 150))
    (HB : Hid (OnI w wB T ba bi bo p K vI vO (.slice aW W.length cW) I O W ∧ wB.heap[bx]? = some (.cells #[.int .i64 3, .int .i64 nn, .slice da dl.length dc] 34 (0, 0)) ∧ ByR wB (fun x => x < w.heap.size) da dl ∧ T bx = 0 ∧ Onc K I O kn W ∧ W.length ≤ 8 * n ∧ ∀ j, j < 2 → (I j).length ≤ n))
    (u0 u1 u2 u3 u4 u9 u11 u12 u13 u14 u15 u16 u17 u18 u19 u20 u21 u22 u23 u24 u25 u26 u27 u28 u29 u30 u31 u32 u33 u34 u35 u36 u37 u38 u39 u40 u41 u42 u43 u44 u45 u46 u47 u48 u49 u50 u51 u52 u53 u54 u55 u56 u57 u58 u59 u60 u61 u62 u63 u64 u65 u66 u67 u68 u69 u70 u71 u72 u73 u74 u75 u76 u77 u78 u80 u81 u82 u83 u84 u85 u86 u87 u88 u89 u90 u91 u92 u93 u94 u95 u96 u97 u98 u99 u100 u101 u102 u103 u104 u105 u106 u107 u108 u109 u110 u111 u112 u113 u114 u115 u116 u117 u118 u119 u120 u121 u122 u123 u124 u125 u126 u127 u128 u129 u130 u131 u132 u133 u134 u135 u136 u137 u138 u139 u140 u141 u142 u143 u144 u145 u146 u147 u148 u149 u150 u151 u152 u153 u154 u155 u156 u157 u158 u159 u160 u161 u162 u163 u164 u165 u166 u167 u168 u169 u170 u171 u172 u173 u174 u175 u176 u177 u178 u179 u180 u181 u182 u183 u184 u185 u186 u187 u188 u189 u190 u191 u192 u193 u194 u195 u196 u197 u198 u199 u200 u201 u202 u203 u204 u205 u206 u207 u208 u209 u210 u211 u212 u213 u214 u215 u216 u217 u218 u219 u220 u221 u222 u223 u224 u225 u226 u227 u228 u229 : Value) (K' : Act → World → Prop) (Q2 : Exit → Act → World → Prop)
    (hfin : ∀ ⦃T K vI vO I O W kn⦄ ⦃vW' : Value⦄ ⦃wx : World⦄ ⦃c11 c12 c13 c14 c80 c81 c82 c83 c84 c85 c86 c87 c88 c89 c90 c91 c92 c93 c94 c95 c96 c97 c98 c99 c100 c101 c102 c103 c104 c105 c106 c107 c108 c109 c110 c111 c112 c113 c114 c115 c116 c117 c118 c119 c120 c121 c122 c123 c124 c125 c126 c127 c128 c129 c130 c131 c132 c133 c134 c135 c136 c137 c138 c139 c140 c141 c142 c143 c144 c145 c146 c147 c148 c149 c150 c151 c152 c153 c154 c155 c156 c157 c158 c159 c160 c161 c162 c163 c164 c165 c166 c167 c168 : Value⦄, OnI w wx T ba bi bo p K vI vO vW' I O W → Onc K I O kn W → W.length ≤ 8 * (n + 1) → (∀ j, j < 2 → (I j).length ≤ n + 1) → K' ⟨#[u0, u1, u2, u3, u4, .pointer (some ⟨ba, 0, none⟩), .pointer (some ⟨bi, 0, none⟩), .pointer (some ⟨bo, 0, none⟩), vW', u9, .pointer (some ⟨bx, 0, none⟩), c11, c12, c13, c14, u15, u16, u17, u18, u19, u20, u21, u22, u23, u24, u25, u26, u27, u28, u29, u30, u31, u32, u33, u34, u35, u36, u37, u38, u39, u40, u41, u42, u43, u44, u45, u46, u47, u48, u49, u50, u51, u52, u53, u54, u55, u56, u57, u58, u59, u60, u61, u62, u63, u64, u65, u66, u67, u68, u69, u70, u71, u72, u73, u74, u75, u76, u77, u78, .int .i64 3, c80, c81, c82, c83, c84, c85, c86, c87, c88, c89, c90, c91, c92, c93, c94, c95, c96, c97, c98, c99, c100, c101, c102, c103, c104, c105, c106, c107, c108, c109, c110, c111, c112, c113, c114, c115, c116, c117, c118, c119, c120, c121, c122, c123, c124, c125, c126, c127, c128, c129, c130, c131, c132, c133, c134, c135, c136, c137, c138, c139, c140, c141, c142, c143, c144, c145, c146, c147, c148, c149, c150, c151, c152, c153, c154, c155, c156, c157, c158, c159, c160, c161, c162, c163, c164, c165, c166, c167, c168, u169, u170, u171, u172, u173, u174, u175, u176, u177, u178, u179, u180, u181, u182, u183, u184, u185, u186, u187, u188, u189, u190, u191, u192, u193, u194, u195, u196, u197, u198, u199, u200, u201, u202, u203, u204, u205, u206, u207, u208, u209, u210, u211, u212, u213, u214, u215, u216, u217, u218, u219, u220, u221, u222, u223, u224, u225, u226, u227, u228, u229], []⟩ wx)
    (hcont : ∀ ⦃T K vI vO I O W kn⦄ ⦃vW' : Value⦄ ⦃wx : World⦄ ⦃c11 c12 c13 c14 c80 c81 c82 c83 c84 c85 c86 c87 c88 c89 c90 c91 c92 c93 c94 c95 c96 c97 c98 c99 c100 c101 c102 c103 c104 c105 c106 c107 c108 c109 c110 c111 c112 c113 c114 c115 c116 c117 c118 c119 c120 c121 c122 c123 c124 c125 c126 c127 c128 c129 c130 c131 c132 c133 c134 c135 c136 c137 c138 c139 c140 c141 c142 c143 c144 c145 c146 c147 c148 c149 c150 c151 c152 c153 c154 c155 c156 c157 c158 c159 c160 c161 c162 c163 c164 c165 c166 c167 c168 : Value⦄, OnI w wx T ba bi bo p K vI vO vW' I O W → Onc K I O kn W → W.length ≤ 8 * (n + 1) → (∀ j, j < 2 → (I j).length ≤ n + 1) → Q2 (.exit 1) ⟨#[u0, u1, u2, u3, u4, .pointer (some ⟨ba, 0, none⟩), .pointer (some ⟨bi, 0, none⟩), .pointer (some ⟨bo, 0, none⟩), vW', u9, .pointer (some ⟨bx, 0, none⟩), c11, c12, c13, c14, u15, u16, u17, u18, u19, u20, u21, u22, u23, u24, u25, u26, u27, u28, u29, u30, u31, u32, u33, u34, u35, u36, u37, u38, u39, u40, u41, u42, u43, u44, u45, u46, u47, u48, u49, u50, u51, u52, u53, u54, u55, u56, u57, u58, u59, u60, u61, u62, u63, u64, u65, u66, u67, u68, u69, u70, u71, u72, u73, u74, u75, u76, u77, u78, .int .i64 3, c80, c81, c82, c83, c84, c85, c86, c87, c88, c89, c90, c91, c92, c93, c94, c95, c96, c97, c98, c99, c100, c101, c102, c103, c104, c105, c106, c107, c108, c109, c110, c111, c112, c113, c114, c115, c116, c117, c118, c119, c120, c121, c122, c123, c124, c125, c126, c127, c128, c129, c130, c131, c132, c133, c134, c135, c136, c137, c138, c139, c140, c141, c142, c143, c144, c145, c146, c147, c148, c149, c150, c151, c152, c153, c154, c155, c156, c157, c158, c159, c160, c161, c162, c163, c164, c165, c166, c167, c168, u169, u170, u171, u172, u173, u174, u175, u176, u177, u178, u179, u180, u181, u182, u183, u184, u185, u186, u187, u188, u189, u190, u191, u192, u193, u194, u195, u196, u197, u198, u199, u200, u201, u202, u203, u204, u205, u206, u207, u208, u209, u210, u211, u212, u213, u214, u215, u216, u217, u218, u219, u220, u221, u222, u223, u224, u225, u226, u227, u228, u229], []⟩ wx) :
    Code.wp Try.prog swC (Exit.then K' Q2) ⟨#[u0, u1, u2, u3, u4, .pointer (some ⟨ba, 0, none⟩), .pointer (some ⟨bi, 0, none⟩), .pointer (some ⟨bo, 0, none⟩), .slice aW W.length cW, u9, .pointer (some ⟨bx, 0, none⟩), u11, u12, u13, u14, u15, u16, u17, u18, u19, u20, u21, u22, u23, u24, u25, u26, u27, u28, u29, u30, u31, u32, u33, u34, u35, u36, u37, u38, u39, u40, u41, u42, u43, u44, u45, u46, u47, u48, u49, u50, u51, u52, u53, u54, u55, u56, u57, u58, u59, u60, u61, u62, u63, u64, u65, u66, u67, u68, u69, u70, u71, u72, u73, u74, u75, u76, u77, u78, .int .i64 3, u80, u81, u82, u83, u84, u85, u86, u87, u88, u89, u90, u91, u92, u93, u94, u95, u96, u97, u98, u99, u100, u101, u102, u103, u104, u105, u106, u107, u108, u109, u110, u111, u112, u113, u114, u115, u116, u117, u118, u119, u120, u121, u122, u123, u124, u125, u126, u127, u128, u129, u130, u131, u132, u133, u134, u135, u136, u137, u138, u139, u140, u141, u142, u143, u144, u145, u146, u147, u148, u149, u150, u151, u152, u153, u154, u155, u156, u157, u158, u159, u160, u161, u162, u163, u164, u165, u166, u167, u168, u169, u170, u171, u172, u173, u174, u175, u176, u177, u178, u179, u180, u181, u182, u183, u184, u185, u186, u187, u188, u189, u190, u191, u192, u193, u194, u195, u196, u197, u198, u199, u200, u201, u202, u203, u204, u205, u206, u207, u208, u209, u210, u211, u212, u213, u214, u215, u216, u217, u218, u219, u220, u221, u222, u223, u224, u225, u226, u227, u228, u229], []⟩ wB := by
  conv => arg 2; whnf
  have HFIN := Lib.hid hfin
  have HCONT := Lib.hid hcont
  clear hfin hcont
  obtain ⟨n1, n2, hdl, hn⟩ := HN.out
  clear HN
  have x0 := blk_cell HB.out.2.1 (i := 0) rfl
  have hPA : ∀ w3, Keeps noB wB w3 → Calls Try.prog 12 #[.pointer (some ⟨p 1, 0, none⟩)] w3 fun e w4 => ∃ v, RetK noB v w3 e w4 ∧ PkO w4 w3.heap.size v (K 1).hd (K 1).pks := fun w3 hk => by
    obtain ⟨vl, hl3⟩ := (HB.out.1.no hk).lk 1 (by omega)
    exact packets_c hl3
  have hba := blk_cell HB.out.1.ar (i := 1) rfl
  have HPA := Lib.hid hPA
  clear hPA
  have hbods : ∀ x ∈ (K 1).pks, x.2.length ≤ 700 := by
    obtain ⟨vl, hl3⟩ := HB.out.1.lk 1 (by omega)
    exact pks_bod (fun t ht => (hl3.bods t ht).2)
  have hsent : (K 1).sent ≤ 16777215 := by
    obtain ⟨vl, hl3⟩ := HB.out.1.lk 1 (by omega)
    exact hl3.sb.2
  have hpl : (K 1).pks ≠ [] ∧ (K 1).pks.length ≤ 8 := by
    obtain ⟨vl, hl3⟩ := HB.out.1.lk 1 (by omega)
    have := hl3.few
    unfold Lk.pks
    by_cases h0 : (K 1).L = []
    · rw [if_pos h0]; simp
    · rw [if_neg h0]; simp [h0]; omega
  have HQ := Lib.hid (And.intro hbods (And.intro hsent hpl))
  have HLB := Lib.hid (And.intro HB.out.2.2.2.2.2.1 HB.out.2.2.2.2.2.2)
  clear hbods hsent hpl
  go_wp2_with (first
    | (go_at_call 12; refine (HPA.out _ (Keeps.refl _ _)).mono ?_; rintro e w4 ⟨v4, ⟨rfl, hk4⟩, hP4⟩; obtain ⟨ap, cp, rfl⟩ := WyT.own_slice hP4.choose_spec.1; obtain ⟨v5, w5, hr5, hk5, hW5⟩ := way_append (HB.out.1.no hk4).wy hP4 HQ.out.2.2.1 (by have := HQ.out.2.2.2; have := HLB.out.1; omega); have H5 := Lib.hid (And.intro hk4 (And.intro hk5 hW5)); have HR5 := Lib.hid hr5; clear hr5 hk5 hW5 hP4 hk4)
    | (at_builtin; refine wpList_append_way rfl _ _ rfl rfl _ _ rfl rfl _ _ HR5.out ?_))
  obtain ⟨hk4, hk5, hW5⟩ := H5.out
  obtain ⟨hbods, hsent, _, hp8⟩ := HQ.out
  have hs4 := hk4.size
  have hN := HB.out.1.wayN (hk4.of_no.trans hk5 (fun _ _ h => h)) (hW5.keep (Keeps.refl noB _) (fun _ _ => noB_not _) (fun y hy => by
    rcases hy with hy | hy | hy
    · exact .inl hy
    · exact .inr hy
    · exact .inr ⟨by omega, hy.2⟩))
  refine HFIN.out hN (HB.out.2.2.2.2.1.pack (j := 1) (by omega) hbods hsent) ?_ (fun i hi => by have := HLB.out.2 i hi; omega)
  have := HLB.out.1
  simp
  omega
end Go.Proofs.Ytoeikgaikdbpbaa
