/- Once, in order: what the round does at kind 1. No condition. -/
import Derived.Test.YtoeikgaikdbpbaaLkOnC
import Derived.Deep.RegionHeld3
import Derived.StillTailTactics
namespace Go.Proofs.Ytoeikgaikdbpbaa
open Go.RowKit

set_option maxRecDepth 100000 in
set_option maxHeartbeats 16000000 in
theorem once_k1 (w wB : World) (T : Nat → Nat) (ba bi bo bx : Nat) (p : Nat → Nat) (K : Nat → Lk) (vI vO : Nat → Value) (I O : Nat → List (List Int)) (W : List Pq) (kn : Nat → Nat) (aW : Option Addr) (cW n : Nat) (nn : Int) (da : Option Addr) (dl : List Int) (dc : Nat) (HN : Hid (-9223372036854775808 ≤ nn ∧ nn ≤ 9223372036854775807 ∧ dl.length ≤ 140737488351232 ∧ n < 150))
    (HB : Hid (OnI w wB T ba bi bo p K vI vO (.slice aW W.length cW) I O W ∧ wB.heap[bx]? = some (.cells #[.int .i64 1, .int .i64 nn, .slice da dl.length dc] 34 (0, 0)) ∧ ByR wB (fun x => x < w.heap.size) da dl ∧ T bx = 0 ∧ Onc K I O kn W ∧ W.length ≤ 8 * n ∧ ∀ j, j < 2 → (I j).length ≤ n))
    (u0 u1 u2 u3 u4 u9 u11 u12 u13 u14 u15 u16 u17 u18 u19 u20 u21 u22 u23 u24 u25 u26 u27 u28 u29 u30 u31 u32 u33 u34 u35 u36 u37 u38 u39 u40 u41 u42 u43 u44 u45 u46 u47 u48 u49 u50 u51 u52 u53 u54 u55 u56 u57 u58 u59 u60 u61 u62 u63 u64 u65 u66 u67 u68 u69 u70 u71 u72 u73 u74 u75 u76 u77 u78 u80 u81 u82 u83 u84 u85 u86 u87 u88 u89 u90 u91 u92 u93 u94 u95 u96 u97 u98 u99 u100 u101 u102 u103 u104 u105 u106 u107 u108 u109 u110 u111 u112 u113 u114 u115 u116 u117 u118 u119 u120 u121 u122 u123 u124 u125 u126 u127 u128 u129 u130 u131 u132 u133 u134 u135 u136 u137 u138 u139 u140 u141 u142 u143 u144 u145 u146 u147 u148 u149 u150 u151 u152 u153 u154 u155 u156 u157 u158 u159 u160 u161 u162 u163 u164 u165 u166 u167 u168 u169 u170 u171 u172 u173 u174 u175 u176 u177 u178 u179 u180 u181 u182 u183 u184 u185 u186 u187 u188 u189 u190 u191 u192 u193 u194 u195 u196 u197 u198 u199 u200 u201 u202 u203 u204 u205 u206 u207 u208 u209 u210 u211 u212 u213 u214 u215 u216 u217 u218 u219 u220 u221 u222 u223 u224 u225 u226 u227 u228 u229 : Value) (K' : Act → World → Prop) (Q2 : Exit → Act → World → Prop)
    (hfin : ∀ ⦃T K vI vO I O W kn⦄ ⦃vW' : Value⦄ ⦃wx : World⦄ ⦃c11 c12 c13 c14 c80 c81 c82 c83 c84 c85 c86 c87 c88 c89 c90 c91 c92 c93 c94 c95 c96 c97 c98 c99 c100 c101 c102 c103 c104 c105 c106 c107 c108 c109 c110 c111 c112 c113 c114 c115 c116 c117 c118 c119 c120 c121 c122 c123 c124 c125 c126 c127 c128 c129 c130 c131 c132 c133 c134 c135 c136 c137 c138 c139 c140 c141 c142 c143 c144 c145 c146 c147 c148 c149 c150 c151 c152 c153 c154 c155 c156 c157 c158 c159 c160 c161 c162 c163 c164 c165 c166 c167 c168 : Value⦄, OnI w wx T ba bi bo p K vI vO vW' I O W → Onc K I O kn W → W.length ≤ 8 * (n + 1) → (∀ j, j < 2 → (I j).length ≤ n + 1) → K' ⟨#[u0, u1, u2, u3, u4, .pointer (some ⟨ba, 0, none⟩), .pointer (some ⟨bi, 0, none⟩), .pointer (some ⟨bo, 0, none⟩), vW', u9, .pointer (some ⟨bx, 0, none⟩), c11, c12, c13, c14, u15, u16, u17, u18, u19, u20, u21, u22, u23, u24, u25, u26, u27, u28, u29, u30, u31, u32, u33, u34, u35, u36, u37, u38, u39, u40, u41, u42, u43, u44, u45, u46, u47, u48, u49, u50, u51, u52, u53, u54, u55, u56, u57, u58, u59, u60, u61, u62, u63, u64, u65, u66, u67, u68, u69, u70, u71, u72, u73, u74, u75, u76, u77, u78, .int .i64 1, c80, c81, c82, c83, c84, c85, c86, c87, c88, c89, c90, c91, c92, c93, c94, c95, c96, c97, c98, c99, c100, c101, c102, c103, c104, c105, c106, c107, c108, c109, c110, c111, c112, c113, c114, c115, c116, c117, c118, c119, c120, c121, c122, c123, c124, c125, c126, c127, c128, c129, c130, c131, c132, c133, c134, c135, c136, c137, c138, c139, c140, c141, c142, c143, c144, c145, c146, c147, c148, c149, c150, c151, c152, c153, c154, c155, c156, c157, c158, c159, c160, c161, c162, c163, c164, c165, c166, c167, c168, u169, u170, u171, u172, u173, u174, u175, u176, u177, u178, u179, u180, u181, u182, u183, u184, u185, u186, u187, u188, u189, u190, u191, u192, u193, u194, u195, u196, u197, u198, u199, u200, u201, u202, u203, u204, u205, u206, u207, u208, u209, u210, u211, u212, u213, u214, u215, u216, u217, u218, u219, u220, u221, u222, u223, u224, u225, u226, u227, u228, u229], []⟩ wx)
    (hcont : ∀ ⦃T K vI vO I O W kn⦄ ⦃vW' : Value⦄ ⦃wx : World⦄ ⦃c11 c12 c13 c14 c80 c81 c82 c83 c84 c85 c86 c87 c88 c89 c90 c91 c92 c93 c94 c95 c96 c97 c98 c99 c100 c101 c102 c103 c104 c105 c106 c107 c108 c109 c110 c111 c112 c113 c114 c115 c116 c117 c118 c119 c120 c121 c122 c123 c124 c125 c126 c127 c128 c129 c130 c131 c132 c133 c134 c135 c136 c137 c138 c139 c140 c141 c142 c143 c144 c145 c146 c147 c148 c149 c150 c151 c152 c153 c154 c155 c156 c157 c158 c159 c160 c161 c162 c163 c164 c165 c166 c167 c168 : Value⦄, OnI w wx T ba bi bo p K vI vO vW' I O W → Onc K I O kn W → W.length ≤ 8 * (n + 1) → (∀ j, j < 2 → (I j).length ≤ n + 1) → Q2 (.exit 1) ⟨#[u0, u1, u2, u3, u4, .pointer (some ⟨ba, 0, none⟩), .pointer (some ⟨bi, 0, none⟩), .pointer (some ⟨bo, 0, none⟩), vW', u9, .pointer (some ⟨bx, 0, none⟩), c11, c12, c13, c14, u15, u16, u17, u18, u19, u20, u21, u22, u23, u24, u25, u26, u27, u28, u29, u30, u31, u32, u33, u34, u35, u36, u37, u38, u39, u40, u41, u42, u43, u44, u45, u46, u47, u48, u49, u50, u51, u52, u53, u54, u55, u56, u57, u58, u59, u60, u61, u62, u63, u64, u65, u66, u67, u68, u69, u70, u71, u72, u73, u74, u75, u76, u77, u78, .int .i64 1, c80, c81, c82, c83, c84, c85, c86, c87, c88, c89, c90, c91, c92, c93, c94, c95, c96, c97, c98, c99, c100, c101, c102, c103, c104, c105, c106, c107, c108, c109, c110, c111, c112, c113, c114, c115, c116, c117, c118, c119, c120, c121, c122, c123, c124, c125, c126, c127, c128, c129, c130, c131, c132, c133, c134, c135, c136, c137, c138, c139, c140, c141, c142, c143, c144, c145, c146, c147, c148, c149, c150, c151, c152, c153, c154, c155, c156, c157, c158, c159, c160, c161, c162, c163, c164, c165, c166, c167, c168, u169, u170, u171, u172, u173, u174, u175, u176, u177, u178, u179, u180, u181, u182, u183, u184, u185, u186, u187, u188, u189, u190, u191, u192, u193, u194, u195, u196, u197, u198, u199, u200, u201, u202, u203, u204, u205, u206, u207, u208, u209, u210, u211, u212, u213, u214, u215, u216, u217, u218, u219, u220, u221, u222, u223, u224, u225, u226, u227, u228, u229], []⟩ wx) :
    Code.wp Try.prog swC (Exit.then K' Q2) ⟨#[u0, u1, u2, u3, u4, .pointer (some ⟨ba, 0, none⟩), .pointer (some ⟨bi, 0, none⟩), .pointer (some ⟨bo, 0, none⟩), .slice aW W.length cW, u9, .pointer (some ⟨bx, 0, none⟩), u11, u12, u13, u14, u15, u16, u17, u18, u19, u20, u21, u22, u23, u24, u25, u26, u27, u28, u29, u30, u31, u32, u33, u34, u35, u36, u37, u38, u39, u40, u41, u42, u43, u44, u45, u46, u47, u48, u49, u50, u51, u52, u53, u54, u55, u56, u57, u58, u59, u60, u61, u62, u63, u64, u65, u66, u67, u68, u69, u70, u71, u72, u73, u74, u75, u76, u77, u78, .int .i64 1, u80, u81, u82, u83, u84, u85, u86, u87, u88, u89, u90, u91, u92, u93, u94, u95, u96, u97, u98, u99, u100, u101, u102, u103, u104, u105, u106, u107, u108, u109, u110, u111, u112, u113, u114, u115, u116, u117, u118, u119, u120, u121, u122, u123, u124, u125, u126, u127, u128, u129, u130, u131, u132, u133, u134, u135, u136, u137, u138, u139, u140, u141, u142, u143, u144, u145, u146, u147, u148, u149, u150, u151, u152, u153, u154, u155, u156, u157, u158, u159, u160, u161, u162, u163, u164, u165, u166, u167, u168, u169, u170, u171, u172, u173, u174, u175, u176, u177, u178, u179, u180, u181, u182, u183, u184, u185, u186, u187, u188, u189, u190, u191, u192, u193, u194, u195, u196, u197, u198, u199, u200, u201, u202, u203, u204, u205, u206, u207, u208, u209, u210, u211, u212, u213, u214, u215, u216, u217, u218, u219, u220, u221, u222, u223, u224, u225, u226, u227, u228, u229], []⟩ wB := by
  conv => arg 2; whnf
  have HFIN := Lib.hid hfin
  have HCONT := Lib.hid hcont
  clear hfin hcont
  obtain ⟨n1, n2, hdl, hn⟩ := HN.out
  clear HN
  have x0 := blk_cell HB.out.2.1 (i := 0) rfl
  have hPU : ∀ w3, Keeps noB wB w3 → ∀ a3 c3 D3, ByR w3 D3 a3 dl → Calls Try.prog 11 #[.pointer (some ⟨p 1, 0, none⟩), .slice a3 dl.length c3] w3 fun e w4 => e = .returned (.int .i64 (pushE (K 1) dl)) ∧ Keeps (fun y => T y = 1 + 1) wB w4 ∧ ∃ T' K', T' bx = 0 ∧ OnI w w4 T' ba bi bo p K' vI vO (.slice aW W.length cW) I O W ∧ Onc K' (if pushE (K 1) dl = 0 then upd I 1 (I 1 ++ [dl]) else I) O kn W := fun w3 hk a3 c3 D3 hr3 => by
    have h3 := HB.out.1.no hk
    obtain ⟨vl, hl3⟩ := h3.lk 1 (by omega)
    refine (push_c hl3 D3 a3 dl c3 hdl hr3).mono ?_
    rintro e w4 ⟨⟨he, hk4⟩, S4, _, hS2, v4, t4, ht1, ht2, hl4⟩
    refine ⟨he, (hk.of_no).trans hk4 (fun _ _ h => h), _, _, ?_, h3.turn (by omega) hk4 hS2 hl4, ?_⟩
    · unfold tagN
      rw [if_neg (fun hh => by have := lt_of_blk (hk.blk HB.out.2.1 (noB_not _)); omega)]
      exact HB.out.2.2.2.1
    · by_cases hE : pushE (K 1) dl = 0
      · rw [if_pos hE, if_pos hE]
        exact HB.out.2.2.2.2.1.push (by omega) dl t4 ht1 ht2 hE
      · rw [if_neg hE, if_neg hE, upd_id]
        exact HB.out.2.2.2.2.1
  have HPU := Lib.hid hPU
  clear hPU
  have hnx : ¬ (T bx = 1 + 1) := by have := HB.out.2.2.2.1; omega
  have hna : ¬ (T ba = 1 + 1) := by have := HB.out.1.ta; omega
  have hSF : ∀ (F : Nat → Prop) w', Keeps F wB w' → ¬ F bx → ¬ F ba → w'.cell? ⟨bx, 0, none⟩ = some (.int .i64 1) ∧ w'.cell? ⟨bx, 2, none⟩ = some (.slice da dl.length dc) ∧ w'.cell? ⟨ba, 1, none⟩ = some (.pointer (some ⟨p 1, 0, none⟩)) := fun F w' hk f1 f2 => by
    have h1 := hk.blk HB.out.2.1 f1
    have h2 := hk.blk HB.out.1.ar f2
    exact ⟨blk_cell h1 (i := 0) rfl, blk_cell h1 (i := 2) rfl, blk_cell h2 (i := 1) rfl⟩
  have hS := fun w' hk => hSF noB w' hk (noB_not _) (noB_not _)
  have HS := Lib.hid hS
  have HSF := Lib.hid hSF
  clear hS hSF
  obtain ⟨pe, hpe⟩ : ∃ e, e = pushE (K 1) dl := ⟨_, rfl⟩
  rw [← hpe] at HPU
  clear hpe
  go_upto_region 15 with fail
  go_region_held3 (fun w' => w'.cell? ⟨bx, 0, none⟩ = some (.int .i64 1) ∧ w'.cell? ⟨bx, 2, none⟩ = some (.slice da dl.length dc) ∧ w'.cell? ⟨ba, 1, none⟩ = some (.pointer (some ⟨p 1, 0, none⟩)))
    (first | exact HS.out _ ((Keeps.refl noB wB).drew) | exact HS.out _ (((Keeps.refl noB wB).alloc _).drew) | exact HS.out _ hk3 | exact HSF.out _ _ hk4 hnx hna)
    (first
      | (refine step_append_byg (by rfl) _ _ rfl wB.heap.size _ _ _ rfl (own_keep_no (own_bytes0 wB) ((Keeps.refl noB _).drew)) da dl dc _ rfl (HB.out.2.2.1.keep (((Keeps.refl noB wB).alloc _).drew) (fun b _ => noB_not b)) (by omega) (by show wB.heap.size ≤ (wB.alloc _).heap.size; rw [alloc_size]; omega) ?_; intro v' w3 hown' hgrow; obtain ⟨hk3', a3, c3, rfl, hO3⟩ := copy_own (w := wB.drew) (by simpa using hown') hgrow; have hk3 := ((Keeps.refl noB wB).drew).trans_no hk3')
      | (go_at_call 11; refine (HPU.out _ hk3 a3 c3 _ hO3.byr).mono ?_; rintro e w4 ⟨rfl, hk4, T', K', hT'x, hI4, hO4⟩))
  have HPX := Lib.hid (And.intro hI4 hO4)
  have hlB := HB.out.2.2.2.2.2.1
  have hIB := HB.out.2.2.2.2.2.2
  have HLB := Lib.hid (And.intro hlB hIB)
  by_cases hE : pe = 0
  rotate_left
  · have hEb : (pe == 0) = false := by simpa using hE
    clear hI4 hO4 hk4 hk3 hk3' hO3 hown' hgrow hnx hna HPU hlB hIB
    go_wp2_with fail
    obtain ⟨hI4, hO4⟩ := HPX.out
    rw [if_neg hE] at hO4
    exact HFIN.out hI4 hO4 (by have := HLB.out.1; omega) (fun i hi => by have := HLB.out.2 i hi; omega)
  · subst hE
    have hFx : ¬ (T' bx = 3 + 1 ∨ T' bx = 9) := by omega
    have hS2 : ∀ w', Keeps (fun y => T' y = 3 + 1 ∨ T' y = 9) w4 w' → w'.cell? ⟨bx, 0, none⟩ = some (.int .i64 1) ∧ w'.cell? ⟨bx, 2, none⟩ = some (.slice da dl.length dc) ∧ (convert 22 9 (.slice da dl.length dc)).run Try.prog w' = .ok (.string (strOf dl)) w' := fun w' hk => by
      have h1 := hk.blk (hk4.blk HB.out.2.1 hnx) hFx
      exact ⟨blk_cell h1 (i := 0) rfl, blk_cell h1 (i := 2) rfl, conv_c ((HB.out.2.2.1.keep hk4 (fun b hb h => by have := HB.out.1.tl b (by omega); omega)).keep hk (fun b hb h => by have := hI4.tl b (by omega); omega)) dc⟩
    obtain ⟨ai, ci, hvi⟩ := (hI4.si 1 (by omega)).slice
    have hown4 := (hI4.si 1 (by omega)).own
    have hat4 := (hI4.si 1 (by omega)).at_
    have hir4 := hI4.ir
    obtain ⟨ZI, hZI⟩ : ∃ Z, Z = #[vI 0, vI 1] := ⟨_, rfl⟩
    have hZj : ZI[1]? = some (vI 1) := by rw [hZI]; rfl
    rw [← hZI] at hir4
    rw [hvi] at hown4 hat4 hZj
    have hS3 : ∀ w', Keeps (fun y => T' y = 3 + 1) w4 w' → w'.cell? ⟨bx, 0, none⟩ = some (.int .i64 1) ∧ w'.cell? ⟨bx, 2, none⟩ = some (.slice da dl.length dc) ∧ (convert 22 9 (.slice da dl.length dc)).run Try.prog w' = .ok (.string (strOf dl)) w' ∧ w'.cell? ⟨bi, 1, none⟩ = some (.slice ai (I 1).length ci) := fun w' hk => by
      obtain ⟨g1, g2, g3⟩ := hS2 w' (hk.mono (fun _ _ h => .inl h))
      exact ⟨g1, g2, g3, blk_cell (hk.blk hir4 (by have := hI4.ti; omega)) hZj⟩
    have hS4 : ∀ w', Keeps noB w4 w' → w'.cell? ⟨bx, 0, none⟩ = some (.int .i64 1) ∧ w'.cell? ⟨bx, 2, none⟩ = some (.slice da dl.length dc) ∧ (convert 22 9 (.slice da dl.length dc)).run Try.prog w' = .ok (.string (strOf dl)) w' ∧ w'.cell? ⟨bi, 1, none⟩ = some (.slice ai (I 1).length ci) := fun w' hk => hS3 w' hk.of_no
    have hfr : ∀ w', Keeps (fun y => T' y = 3 + 1) w4 w' → w'.frozen? ⟨bi, 1, none⟩ = false := fun w' hk => blk_free (hk.blk hir4 (by have := hI4.ti; omega)) _
    have HS3 := Lib.hid (And.intro hS3 (And.intro hS4 hfr))
    have H4 := Lib.hid (And.intro hI4 (And.intro hO4 hvi))
    have HB2 := Lib.hid (And.intro hown4 (And.intro hat4 hir4))
    have hIl := HB.out.2.2.2.2.2.2 1 (by omega)
    have hil2 : (I 1).length < 1000000 := by omega
    have HIL := Lib.hid hil2
    clear hS2 hI4 hO4 hk4 hk3 hk3' hO3 hown' hgrow hnx hna HPU hown4 hat4 hir4 hZI hZj hvi hFx hIl hil2 hS3 hS4 hfr hlB hIB
    go_upto_region 16 with fail
    have hSd := HS3.out.2.1 _ ((Keeps.refl noB w4).drew)
    refine wp_region_noPanic ?_
    refine wp_region_last (last := 12) (S := fun w' => w'.cell? ⟨bx, 0, none⟩ = some (.int .i64 1) ∧ w'.cell? ⟨bx, 2, none⟩ = some (.slice da dl.length dc) ∧ (convert 22 9 (.slice da dl.length dc)).run Try.prog w' = .ok (.string (strOf dl)) w' ∧ w'.cell? ⟨bi, 1, none⟩ = some (.slice ai (I 1).length ci)) (by kernel_rfl) ?_
    refine wpAnyL_take (i := 0) (v := .pointer (some ⟨bx, 0, none⟩)) rfl rfl (by rfl) (by kernel_rfl) (by kernel_rfl) (by kernel_rfl) (by kernel_rfl) (fun _ _ _ h => h) (Or.inl ⟨by rfl, ?_⟩) (by assumption) ?_
    · (intro w hSw; (try dsimp only at hSw); go_simp)
    refine wpAnyL_take (i := 1) (v := .int .i64 1) rfl rfl (by rfl) (by kernel_rfl) (by kernel_rfl) (by kernel_rfl) (by kernel_rfl) (fun _ _ _ h => h) (Or.inl ⟨by rfl, ?_⟩) (by assumption) ?_
    · (intro w hSw; (try dsimp only at hSw); go_simp)
    refine wpAnyL_take (i := 2) (v := .pointer (some ⟨bx, 0, none⟩)) rfl rfl (by rfl) (by kernel_rfl) (by kernel_rfl) (by kernel_rfl) (by kernel_rfl) (fun _ _ _ h => h) (Or.inl ⟨by rfl, ?_⟩) (by assumption) ?_
    · (intro w hSw; (try dsimp only at hSw); go_simp)
    refine wpAnyL_take (i := 3) (v := .int .i64 1) rfl rfl (by rfl) (by kernel_rfl) (by kernel_rfl) (by kernel_rfl) (by kernel_rfl) (fun _ _ _ h => h) (Or.inl ⟨by rfl, ?_⟩) (by assumption) ?_
    · (intro w hSw; (try dsimp only at hSw); go_simp)
    refine wpAnyL_take (i := 4) (v := .pointer (some ⟨bi, 1, none⟩)) rfl rfl (by rfl) (by kernel_rfl) (by kernel_rfl) (by kernel_rfl) (by kernel_rfl) (fun _ _ _ h => h) (Or.inl ⟨by rfl, ?_⟩) (by assumption) ?_
    · (intro w hSw; (try dsimp only at hSw); go_simp)
    refine wpAnyL_take (i := 5) (v := .slice ai (I 1).length ci) rfl rfl (by rfl) (by kernel_rfl) (by kernel_rfl) (by kernel_rfl) (by kernel_rfl) (fun _ _ _ h => h) (Or.inl ⟨by rfl, ?_⟩) (by assumption) ?_
    · (intro w hSw; (try dsimp only at hSw); go_simp)
    refine wpAnyL_take (i := 6) (v := .pointer (some ⟨bx, 2, none⟩)) rfl rfl (by rfl) (by kernel_rfl) (by kernel_rfl) (by kernel_rfl) (by kernel_rfl) (fun _ _ _ h => h) (Or.inl ⟨by rfl, ?_⟩) (by assumption) ?_
    · (intro w hSw; (try dsimp only at hSw); go_simp)
    refine wpAnyL_take (i := 7) (v := .slice da dl.length dc) rfl rfl (by rfl) (by kernel_rfl) (by kernel_rfl) (by kernel_rfl) (by kernel_rfl) (fun _ _ _ h => h) (Or.inl ⟨by rfl, ?_⟩) (by assumption) ?_
    · (intro w hSw; (try dsimp only at hSw); go_simp)
    refine wpAnyL_take (i := 8) (v := .string (strOf dl)) rfl rfl (by rfl) (by kernel_rfl) (by kernel_rfl) (by kernel_rfl) (by kernel_rfl) (fun _ _ _ h => h) (Or.inl ⟨by rfl, ?_⟩) (by assumption) ?_
    · (intro w hSw; (try dsimp only at hSw); go_simp)
    clear hSd
    refine wpAnyL_one (i := 9) (by kernel_rfl) rfl (fun K' hK => ?_)
    go_simp
    have hk5 : Keeps noB w4 (w4.alloc (.cells #[.string (strOf dl)] 9)).drew := ((Keeps.refl noB w4).alloc _).drew
    have hb5 : (w4.alloc (.cells #[.string (strOf dl)] 9)).drew.heap[w4.heap.size]? = some (.cells #[.string (strOf dl)] 9 (0, 0)) := heap_alloc_new w4 _
    generalize (w4.alloc (.cells #[.string (strOf dl)] 9)).drew = w5 at *
    have hS5 := HS3.out.2.1 _ hk5
    have HK5 := Lib.hid hk5
    refine hK.out _ _ (fun _ => hS5) ?_
    clear hK hS5 K'
    refine wpAnyL_one (i := 10) (by kernel_rfl) rfl (fun K' hK => ?_)
    refine step_append_str (by rfl) _ _ rfl _ _ _ rfl (own_keep_no HB2.out.1 hk5) _ _ _ _ _ rfl hb5 rfl HIL.out ?_
    intro v' w6 hown6 hgrow6 hob6
    have hk6 : Keeps (fun y => T' y = 3 + 1) w4 w6 := Keeps.grown hk5.of_no hgrow6 (fun k hk => .inr (HB2.out.2.1 k hk))
    have hS6 := HS3.out.1 _ hk6
    have f6 := HS3.out.2.2 _ hk6
    have z6 := hS6.2.2.2
    obtain ⟨a6, c6, rfl⟩ := own_slice1 hown6
    have H6 := Lib.hid (And.intro hown6 (And.intro hgrow6 (And.intro hob6 hk6)))
    clear hown6 hgrow6 hob6 hk6 hk5 hb5
    go_simp
    refine hK.out _ _ (fun _ => hS6) ?_
    clear hK K'
    refine wpAnyL_take (i := 11) (v := .pointer (some ⟨bi, 1, none⟩)) rfl rfl (by rfl) (by kernel_rfl) (by kernel_rfl) (by kernel_rfl) (by kernel_rfl) (fun _ _ _ h => h) (Or.inl ⟨by rfl, ?_⟩) (by assumption) ?_
    · (intro w hSw; (try dsimp only at hSw); go_simp)
    clear hS6
    refine wpAnyL_one (i := 12) (by kernel_rfl) rfl (fun K' hK => ?_)
    go_simp
    refine hK.out _ _ (fun h => absurd rfl h) ?_
    clear hK K'
    refine wpAnyL_done (by kernel_rfl) ?_ _
    refine NoPanic.normal ?_
    go_wp2_with fail
    obtain ⟨hI4, hO4, hvi⟩ := H4.out
    obtain ⟨hown6, hgrow6, hob6, hk6⟩ := H6.out
    rw [if_pos trivial] at hO4
    rw [← hvi] at hgrow6 hob6
    refine HFIN.out ((hI4.no HK5.out).inp (j := 1) (by omega) hgrow6 hown6 hob6) hO4 (by have := HLB.out.1; omega) (fun i hi => ?_)
    have hi2 := HLB.out.2 i hi
    by_cases e : i = 1
    · subst e; rw [upd_at]; simp; omega
    · rw [upd_ne _ _ e]; omega
end Go.Proofs.Ytoeikgaikdbpbaa
