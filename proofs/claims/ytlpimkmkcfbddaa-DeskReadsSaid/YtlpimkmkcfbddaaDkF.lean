/- The desk: something is to be told. Printed by mk_dkf.py. No condition. -/
import Derived.Test.YtlpimkmkcfbddaaDkE
namespace Go.Proofs.Ytlpimkmkcfbddaa
open Go.RowKit

set_option maxRecDepth 100000 in
set_option maxHeartbeats 8000000 in
theorem send_d {w : World} {D : Nat → Prop} {pd tb qp r : Nat} {s : Dp} (h : DkD w D pd tb qp r s) (hl : s.al.length ≤ 10000) (xc xk xp xo xy xw : Int) (xb : Bool) : Calls Try.prog 111 #[.pointer (some ⟨pd, 0, none⟩), .int .i64 xc, .agg #[.int .i64 xk, .int .i64 xp, .int .i64 xo, .int .i64 0, .int .i64 xy, .int .i64 xw, .bool xb, .slice none 0 0, .complex .f64 0 0, .complex .f64 0 0, .complex .f64 0 0, .complex .f64 0 0]] w
    (DkTo w D pd tb qp r (.tuple #[]) { s with al := s.al ++ [⟨xc, xk, xp, xo, xy, xw, xb⟩] }) := by
  obtain ⟨S, v, av, hA, hp, ht, hS, ha, hD⟩ := h
  obtain ⟨aa, ac, rfl⟩ := row_slice hA.ac
  obtain ⟨wA, hwA⟩ : ∃ wA, wA = w.alloc (.cells #[.int .i64 xk, .int .i64 xp, .int .i64 xo, .int .i64 0, .int .i64 xy, .int .i64 xw, .bool xb, .slice none 0 0, .complex .f64 0 0, .complex .f64 0 0, .complex .f64 0 0, .complex .f64 0 0] 107) := ⟨_, rfl⟩
  have hkA : Keeps noB w wA := by rw [hwA]; exact (Keeps.refl _ _).alloc _
  have hX : wA.heap[w.heap.size]? = some (.cells #[.int .i64 xk, .int .i64 xp, .int .i64 xo, .int .i64 0, .int .i64 xy, .int .i64 xw, .bool xb, .slice none 0 0, .complex .f64 0 0, .complex .f64 0 0, .complex .f64 0 0, .complex .f64 0 0] 107 (0, 0)) := by rw [hwA]; exact heap_alloc_new _ _
  obtain ⟨bx, hbx⟩ : ∃ b, b = w.heap.size := ⟨_, rfl⟩
  rw [← hbx] at hX
  have hSS : ∀ w', Keeps noB wA w' → w'.cell? ⟨pd, 2, none⟩ = some (.slice aa s.al.length ac) ∧ w'.cell? ⟨bx, 0, none⟩ = some (.int .i64 xk) ∧ w'.cell? ⟨bx, 1, none⟩ = some (.int .i64 xp) ∧ w'.cell? ⟨bx, 2, none⟩ = some (.int .i64 xo) ∧ w'.cell? ⟨bx, 3, none⟩ = some (.int .i64 0) ∧ w'.cell? ⟨bx, 4, none⟩ = some (.int .i64 xy) ∧ w'.cell? ⟨bx, 5, none⟩ = some (.int .i64 xw) ∧ w'.cell? ⟨bx, 6, none⟩ = some (.bool xb) ∧ w'.cell? ⟨bx, 7, none⟩ = some (.slice none 0 0) ∧ w'.cell? ⟨bx, 8, none⟩ = some (.complex .f64 0 0) ∧ w'.cell? ⟨bx, 9, none⟩ = some (.complex .f64 0 0) ∧ w'.cell? ⟨bx, 10, none⟩ = some (.complex .f64 0 0) ∧ w'.cell? ⟨bx, 11, none⟩ = some (.complex .f64 0 0) := fun w' hk => by
    have h1 := hk.blk (hkA.blk hA.pt (noB_not _)) (noB_not _)
    have h2 := hk.blk hX (noB_not _)
    exact ⟨blk_cell h1 (i := 2) rfl, blk_cell h2 (i := 0) rfl, blk_cell h2 (i := 1) rfl, blk_cell h2 (i := 2) rfl, blk_cell h2 (i := 3) rfl, blk_cell h2 (i := 4) rfl, blk_cell h2 (i := 5) rfl, blk_cell h2 (i := 6) rfl, blk_cell h2 (i := 7) rfl, blk_cell h2 (i := 8) rfl, blk_cell h2 (i := 9) rfl, blk_cell h2 (i := 10) rfl, blk_cell h2 (i := 11) rfl⟩
  have hpb : ∀ k, (Value.slice aa s.al.length ac).ownBlock = some k → k ≠ pd := fun k hk e => by
    subst e
    obtain ⟨_, h2⟩ := hA.ac
    rcases h2 with ⟨e2, _⟩ | ⟨g, c, cs, e2, _, hb, _⟩
    · rw [e2] at hk; simp [Value.ownBlock] at hk
    · rw [e2] at hk; simp [Value.ownBlock] at hk
      subst hk
      have := hA.pt
      rw [hb] at this
      simp at this
  have hSF : ∀ w', Keeps (fun y => (Value.slice aa s.al.length ac).ownBlock = some y) wA w' → (w'.cell? ⟨pd, 2, none⟩ = some (.slice aa s.al.length ac) ∧ w'.cell? ⟨bx, 0, none⟩ = some (.int .i64 xk) ∧ w'.cell? ⟨bx, 1, none⟩ = some (.int .i64 xp) ∧ w'.cell? ⟨bx, 2, none⟩ = some (.int .i64 xo) ∧ w'.cell? ⟨bx, 3, none⟩ = some (.int .i64 0) ∧ w'.cell? ⟨bx, 4, none⟩ = some (.int .i64 xy) ∧ w'.cell? ⟨bx, 5, none⟩ = some (.int .i64 xw) ∧ w'.cell? ⟨bx, 6, none⟩ = some (.bool xb) ∧ w'.cell? ⟨bx, 7, none⟩ = some (.slice none 0 0) ∧ w'.cell? ⟨bx, 8, none⟩ = some (.complex .f64 0 0) ∧ w'.cell? ⟨bx, 9, none⟩ = some (.complex .f64 0 0) ∧ w'.cell? ⟨bx, 10, none⟩ = some (.complex .f64 0 0) ∧ w'.cell? ⟨bx, 11, none⟩ = some (.complex .f64 0 0)) ∧ w'.heap[pd]? = some (.cells #[.pointer (some ⟨tb, 0, none⟩), .pointer (some ⟨qp, 0, none⟩), .slice aa s.al.length ac] 148 (0, 0)) := fun w' hk => by
    have h1 := hk.blk (hkA.blk hA.pt (noB_not _)) (fun e => hpb _ e rfl)
    have h2 := hk.blk hX (fun e => by have := (hA.ac.lt _ e).2; omega)
    exact ⟨⟨blk_cell h1 (i := 2) rfl, blk_cell h2 (i := 0) rfl, blk_cell h2 (i := 1) rfl, blk_cell h2 (i := 2) rfl, blk_cell h2 (i := 3) rfl, blk_cell h2 (i := 4) rfl, blk_cell h2 (i := 5) rfl, blk_cell h2 (i := 6) rfl, blk_cell h2 (i := 7) rfl, blk_cell h2 (i := 8) rfl, blk_cell h2 (i := 9) rfl, blk_cell h2 (i := 10) rfl, blk_cell h2 (i := 11) rfl⟩, h1⟩
  have HSF := Lib.hid (And.intro hpb hSF)
  have HSS := Lib.hid hSS
  have HA := Lib.hid (And.intro hA (And.intro hp (And.intro ht (And.intro hS (And.intro ha hD)))))
  have HK := Lib.hid hkA
  clear hpb hSF hSS hA hp ht hS ha hD hX hkA
  go_enter Try.func111, Try.ntmps111
  go_upto_region 1 with fail
  rw [← hwA, ← hbx]
  clear hwA hbx
  have hSd := HSS.out _ ((Keeps.refl noB wA).drew)
  refine wp_region_last (last := 12) (S := fun w' => w'.cell? ⟨pd, 2, none⟩ = some (.slice aa s.al.length ac) ∧ w'.cell? ⟨bx, 0, none⟩ = some (.int .i64 xk) ∧ w'.cell? ⟨bx, 1, none⟩ = some (.int .i64 xp) ∧ w'.cell? ⟨bx, 2, none⟩ = some (.int .i64 xo) ∧ w'.cell? ⟨bx, 3, none⟩ = some (.int .i64 0) ∧ w'.cell? ⟨bx, 4, none⟩ = some (.int .i64 xy) ∧ w'.cell? ⟨bx, 5, none⟩ = some (.int .i64 xw) ∧ w'.cell? ⟨bx, 6, none⟩ = some (.bool xb) ∧ w'.cell? ⟨bx, 7, none⟩ = some (.slice none 0 0) ∧ w'.cell? ⟨bx, 8, none⟩ = some (.complex .f64 0 0) ∧ w'.cell? ⟨bx, 9, none⟩ = some (.complex .f64 0 0) ∧ w'.cell? ⟨bx, 10, none⟩ = some (.complex .f64 0 0) ∧ w'.cell? ⟨bx, 11, none⟩ = some (.complex .f64 0 0)) (by kernel_rfl) ?_
  refine wpAnyL_take (i := 0) (v := .pointer (some ⟨pd, 0, none⟩)) rfl rfl (by rfl) (by kernel_rfl) (by kernel_rfl) (by kernel_rfl) (by kernel_rfl) (fun _ _ _ h => h) (Or.inl ⟨by rfl, ?_⟩) (by assumption) ?_
  · (intro w hSw; (try dsimp only at hSw); go_simp)
  refine wpAnyL_take (i := 1) (v := .pointer (some ⟨pd, 0, none⟩)) rfl rfl (by rfl) (by kernel_rfl) (by kernel_rfl) (by kernel_rfl) (by kernel_rfl) (fun _ _ _ h => h) (Or.inl ⟨by rfl, ?_⟩) (by assumption) ?_
  · (intro w hSw; (try dsimp only at hSw); go_simp)
  refine wpAnyL_take (i := 2) (v := .pointer (some ⟨pd, 0, none⟩)) rfl rfl (by rfl) (by kernel_rfl) (by kernel_rfl) (by kernel_rfl) (by kernel_rfl) (fun _ _ _ h => h) (Or.inl ⟨by rfl, ?_⟩) (by assumption) ?_
  · (intro w hSw; (try dsimp only at hSw); go_simp)
  refine wpAnyL_take (i := 3) (v := .pointer (some ⟨pd, 2, none⟩)) rfl rfl (by rfl) (by kernel_rfl) (by kernel_rfl) (by kernel_rfl) (by kernel_rfl) (fun _ _ _ h => h) (Or.inl ⟨by rfl, ?_⟩) (by assumption) ?_
  · (intro w hSw; (try dsimp only at hSw); go_simp)
  refine wpAnyL_take (i := 4) (v := .slice aa s.al.length ac) rfl rfl (by rfl) (by kernel_rfl) (by kernel_rfl) (by kernel_rfl) (by kernel_rfl) (fun _ _ _ h => h) (Or.inl ⟨by rfl, ?_⟩) (by assumption) ?_
  · (intro w hSw; (try dsimp only at hSw); go_simp)
  refine wpAnyL_take (i := 5) (v := .int .i64 xc) rfl rfl (by rfl) (by kernel_rfl) (by kernel_rfl) (by kernel_rfl) (by kernel_rfl) (fun _ _ _ h => h) (Or.inl ⟨by rfl, ?_⟩) (by assumption) ?_
  · (intro w hSw; (try dsimp only at hSw); go_simp)
  refine wpAnyL_take (i := 6) (v := .agg #[.int .i64 xk, .int .i64 xp, .int .i64 xo, .int .i64 0, .int .i64 xy, .int .i64 xw, .bool xb, .slice none 0 0, .complex .f64 0 0, .complex .f64 0 0, .complex .f64 0 0, .complex .f64 0 0]) rfl rfl (by rfl) (by kernel_rfl) (by kernel_rfl) (by kernel_rfl) (by kernel_rfl) (fun _ _ _ h => h) (Or.inl ⟨by rfl, ?_⟩) (by assumption) ?_
  · (intro w hSw; (try dsimp only at hSw); go_simp)
  refine wpAnyL_take (i := 7) (v := .agg #[.int .i64 xc, .int .i64 xk, .int .i64 xp, .int .i64 xo, .int .i64 0, .int .i64 xy, .int .i64 xw, .bool xb, .slice none 0 0, .complex .f64 0 0, .complex .f64 0 0, .complex .f64 0 0, .complex .f64 0 0]) rfl rfl (by rfl) (by kernel_rfl) (by kernel_rfl) (by kernel_rfl) (by kernel_rfl) (fun _ _ _ h => h) (Or.inl ⟨by rfl, ?_⟩) (by assumption) ?_
  · (intro w hSw; (try dsimp only at hSw); go_simp)
  clear hSd
  refine wpAnyL_one (i := 8) (by kernel_rfl) rfl (fun K' hK => ?_)
  go_simp
  have hk5 : Keeps noB wA (wA.alloc (.cells #[.int .i64 xc, .int .i64 xk, .int .i64 xp, .int .i64 xo, .int .i64 0, .int .i64 xy, .int .i64 xw, .bool xb, .slice none 0 0, .complex .f64 0 0, .complex .f64 0 0, .complex .f64 0 0, .complex .f64 0 0] 112)).drew := ((Keeps.refl noB wA).alloc _).drew
  have hb5 : (wA.alloc (.cells #[.int .i64 xc, .int .i64 xk, .int .i64 xp, .int .i64 xo, .int .i64 0, .int .i64 xy, .int .i64 xw, .bool xb, .slice none 0 0, .complex .f64 0 0, .complex .f64 0 0, .complex .f64 0 0, .complex .f64 0 0] 112)).drew.heap[wA.heap.size]? = some (.cells (acells ⟨xc, xk, xp, xo, xy, xw, xb⟩).toArray 112 (0, 0)) := heap_alloc_new wA _
  generalize (wA.alloc (.cells #[.int .i64 xc, .int .i64 xk, .int .i64 xp, .int .i64 xo, .int .i64 0, .int .i64 xy, .int .i64 xw, .bool xb, .slice none 0 0, .complex .f64 0 0, .complex .f64 0 0, .complex .f64 0 0, .complex .f64 0 0] 112)).drew = w5 at *
  have hS5 := HSS.out _ hk5
  obtain ⟨v6, w6, hr6, hown6, hg6, hob6⟩ := run_append_ac (own_keep_no HA.out.1.ac (HK.out.trans_no hk5)) hb5 hl (Nat.zero_le _)
  have H6 := Lib.hid (And.intro hown6 (And.intro hg6 (And.intro hob6 hk5)))
  have HR6 := Lib.hid hr6
  refine hK.out _ _ (fun _ => hS5) ?_
  clear hK hS5 K' hr6 hown6 hg6 hob6 hb5 hk5
  refine wpAnyL_one (i := 9) (by kernel_rfl) rfl (fun K' hK => ?_)
  refine step_append_run rfl _ _ 109 109 rfl rfl _ _ rfl rfl v6 w6 HR6.out ?_
  have hk6 : Keeps (fun y => (Value.slice aa s.al.length ac).ownBlock = some y) wA w6 := Keeps.grown H6.out.2.2.2.of_no H6.out.2.1 (fun k hk => .inr hk)
  have hS6 := (HSF.out.2 _ hk6).1
  have f6 := blk_free (HSF.out.2 _ hk6).2 2
  have z6 := hS6.1
  obtain ⟨a6, c6, rfl⟩ := row_slice H6.out.1
  have HK6 := Lib.hid hk6
  clear hk6
  refine hK.out _ _ (fun _ => hS6) ?_
  clear hK K' HR6
  refine wpAnyL_one (i := 10) (by kernel_rfl) rfl (fun K' hK => ?_)
  go_simp
  refine hK.out _ _ (fun _ => hS6) ?_
  clear hK K'
  refine wpAnyL_one (i := 11) (by kernel_rfl) rfl (fun K' hK => ?_)
  go_simp
  refine hK.out _ _ (fun _ => hS6) ?_
  clear hK K'
  clear hS6
  refine wpAnyL_one (i := 12) (by kernel_rfl) rfl (fun K' hK => ?_)
  go_simp
  refine hK.out _ _ (fun h => absurd rfl h) ?_
  clear hK K'
  refine wpAnyL_done (by kernel_rfl) ?_ _
  go_wp2_with fail
  go_end0
  obtain ⟨hA, hp, ht, hS, ha, hD⟩ := HA.out
  obtain ⟨hown6, hg6, hob6, hk5⟩ := H6.out
  have hk6 := HK6.out
  have k67 := (Keeps.refl (oneB pd) w6).set1 2 (.slice a6 (s.al.length + 1) c6)
  have hG : Keeps (fun y => (Value.slice aa s.al.length ac).ownBlock = some y ∨ y = pd) w (w6.setCell ⟨pd, 2, none⟩ (.slice a6 (s.al.length + 1) c6)) :=
    ((HK.out.of_no).trans (hk6.mono (fun y _ hy => .inl hy)) (fun _ _ h => h)).trans k67 (fun y _ hy => .inr hy)
  have hsz : w.heap.size ≤ w5.heap.size := (HK.out.trans_no hk5).size
  have hfresh : ∀ k, (Value.slice a6 (s.al.length + 1) c6).ownBlock = some k → (Value.slice aa s.al.length ac).ownBlock = some k ∨ w.heap.size ≤ k := fun k hk => by
    rcases hob6 with e | e
    · exact .inl (e.symm.trans hk)
    · rw [hk] at e
      simp at e
      exact .inr (by omega)
  have hlow : ∀ k, (Value.slice aa s.al.length ac).ownBlock = some k → k < w.heap.size := fun k hk => (hA.ac.lt k hk).2
  refine ⟨rfl, hG.mono (fun y _ hy => hy.elim (ha y) (fun e => e ▸ hp)), fun y => D y ∨ (Value.slice a6 (s.al.length + 1) c6).ownBlock = some y, fun y hy => .inl hy, fun y hy => hy.elim .inl (fun h => (hfresh y h).imp (ha y) id), S, v, .slice a6 (s.al.length + 1) c6, ⟨?_, ?_, ?_, ?_, ?_, hA.np, hA.nt, ?_, hA.ne⟩, .inl hp, .inl ht, fun y hy => .inl (hS y hy), fun k hk => .inr hk, ?_⟩
  · exact heap_setCell_same _ _ _ _ (HSF.out.2 _ hk6).2
  · exact hG.blk hA.tab (fun h => h.elim (fun e => hA.ant _ e rfl) (fun e => hA.ne e.symm))
  · exact hA.q.keep hG (fun y hy h => h.elim (fun e => hA.na y e hy) (fun e => hA.np (e ▸ hy)))
  · exact hA.f.imp (fun hf => ⟨own_keep hf.1 hG (fun k _ _ e h => h.elim (fun e2 => hA.na k e2 (hf.2 k e)) (fun e2 => hA.np (e2 ▸ hf.2 k e))), hf.2⟩) id
  · rw [List.length_append, List.length_singleton, lcells_append]
    have e : lcells [⟨xc, xk, xp, xo, xy, xw, xb⟩] = acells ⟨xc, xk, xp, xo, xy, xw, xb⟩ := by simp [lcells]
    rw [e]
    refine own_keep hown6 k67 (fun k _ hk2 e h => ?_)
    unfold oneB at h
    subst h
    rcases hob6 with e2 | e2
    · exact HSF.out.1 _ (e2.symm.trans e) rfl
    · rw [e] at e2
      simp at e2
      have := lt_of_blk hA.pt
      omega
  · intro k hk hy
    rcases hfresh k hk with h | h
    · exact hA.na k h hy
    · have := hA.q.lt k hy; omega
  · intro y hy
    rw [setCell_size]
    rcases hy with hy | hy
    · have := hD y hy; have := HK6.out.size; have := HK.out.size; omega
    · exact (hown6.lt y hy).2
end Go.Proofs.Ytlpimkmkcfbddaa
