/- The document's table: who gets more (plain part, and the walk's beginning). No condition. -/
import Derived.Test.YtlpimkmkcfbddaaTr3
import Derived.StillTailTactics
namespace Go.Proofs.Ytlpimkmkcfbddaa
open Go.RowKit

theorem wpList_alloc0 {P : Program} {ops : Array Oper} {rest : List Oper} {o : Oper} {a : Act} {w : World} {Q : Exit → Act → World → Prop} (hg : o.guard = none) (t : TypeId) (ho : o.op = .alloc t) (z : Array Value)
    (hz : (P.info? t).map (fun i => (i.zero, i.size)) = some (some (.agg z), z.size)) (h : wpList P ops Q rest (a.put o.dst (.pointer (some ⟨w.heap.size, 0, none⟩))) (w.alloc (.cells z t))) : wpList P ops Q (o :: rest) a w :=
  wpList_plain hg fun _ hK => wp_alloc0 t ho (.agg z) (zero_of_info hz).1 (hK _ _ h)
theorem zero46 : (Try.prog.info? 46).map (fun i => (i.zero, i.size)) = some (some (.agg (rcells TB.zero)), (rcells TB.zero).size) := by kernel_rfl
theorem bt_and : ∀ (x y : BitVec 4) (k : Nat), k < 4 → bt (x &&& y) k = (bt x k && bt y k) := by decide +kernel
theorem bt_or : ∀ (x y : BitVec 4) (k : Nat), k < 4 → bt (x ||| y) k = (bt x k || bt y k) := by decide +kernel
theorem bt_some : ∀ x : BitVec 4, (x != 0#4) = true ↔ ∃ k, k < 4 ∧ bt x k = true := by
  have h1 : ∀ x : BitVec 4, (x != 0#4) = (bt x 0 || bt x 1 || bt x 2 || bt x 3) := by decide +kernel
  intro x
  rw [h1]
  constructor
  · intro h
    simp at h
    rcases h with ((h | h) | h) | h
    · exact ⟨0, by omega, h⟩
    · exact ⟨1, by omega, h⟩
    · exact ⟨2, by omega, h⟩
    · exact ⟨3, by omega, h⟩
  · rintro ⟨k, hk, h⟩
    rcases (show k = 0 ∨ k = 1 ∨ k = 2 ∨ k = 3 by omega) with rfl | rfl | rfl | rfl <;> simp [h]
/-- Is one in another's way at an object? -/
def hitB (T : TB) (q : Nat) (m o : BitVec 4) (i d : Nat) : Bool := bt (T.ow d q) i && (bt m i || bt o i) || bt (T.co d q) i && bt o i
theorem clash_iff (T : TB) (a q : Nat) (m o : BitVec 4) : T.clash a q m o = true ↔ ∃ i d : Nat, i < 4 ∧ d < 4 ∧ d ≠ a ∧ hitB T q m o i d = true := by
  have hoO : ∀ i, bt (T.oO a q) i = true ↔ ∃ k, k < 4 ∧ k ≠ a ∧ bt (T.ow k q) i = true := fun i => oth_bit _ _ _ _ 4
  have hoC : ∀ i, bt (T.oC a q) i = true ↔ ∃ k, k < 4 ∧ k ≠ a ∧ bt (T.co k q) i = true := fun i => oth_bit _ _ _ _ 4
  unfold TB.clash
  rw [bt_some]
  constructor
  · rintro ⟨i, hi, h⟩
    rw [bt_or _ _ _ hi, bt_and _ _ _ hi, bt_and _ _ _ hi, bt_or _ _ _ hi] at h
    rw [Bool.or_eq_true, Bool.and_eq_true, Bool.and_eq_true] at h
    rcases h with ⟨h1, h2⟩ | ⟨h1, h2⟩
    · obtain ⟨d, hd, hne, hb⟩ := (hoO i).1 h1
      exact ⟨i, d, hi, hd, hne, by unfold hitB; rw [hb, h2]; rfl⟩
    · obtain ⟨d, hd, hne, hb⟩ := (hoC i).1 h1
      exact ⟨i, d, hi, hd, hne, by unfold hitB; rw [hb, h2]; simp⟩
  · rintro ⟨i, d, hi, hd, hne, h⟩
    refine ⟨i, hi, ?_⟩
    rw [bt_or _ _ _ hi, bt_and _ _ _ hi, bt_and _ _ _ hi, bt_or _ _ _ hi]
    unfold hitB at h
    rw [Bool.or_eq_true, Bool.and_eq_true, Bool.and_eq_true] at h ⊢
    rcases h with ⟨h1, h2⟩ | ⟨h1, h2⟩
    · exact .inl ⟨(hoO i).2 ⟨d, hd, hne, h1⟩, h2⟩
    · exact .inr ⟨(hoC i).2 ⟨d, hd, hne, h1⟩, h2⟩
theorem okM_okB (m o : Int) : okM m o = (okB m && okB o) := by unfold okM okB; grind
theorem bits_u (m : Int) (w : World) : Calls Try.prog 80 #[.int .i64 m] w (RetK noB (.tuple #[.agg #[.bool (bt (mkB m) 0), .bool (bt (mkB m) 1), .bool (bt (mkB m) 2), .bool (bt (mkB m) 3)], .bool (okB m)]) w) := bits_r m w
theorem setRow_heap' {w : World} {b : Nat} {cs cs' : Array Value} {t : TypeId} {fr : Nat × Nat} (h : w.heap[b]? = some (.cells cs' t fr)) : (w.setRow b cs).heap[b]? = some (.cells cs t fr) := setRow_heap _ _ _ _ _ _ h
/-- What stands when a client's bits are known: the table, the result's place, both masks. -/
structure RtS (w wx : World) (T : TB) (x y : BitVec 4) (gc go : Nat) : Prop where
  kp : Keeps noB w wx
  rt : RtAt wx w.heap.size T
  rs : wx.heap[w.heap.size + 1]? = some (.cells (rcells TB.zero) 46 (0, 0))
  hc : wx.heap[gc]? = some (.cells (bcells x) 42 (0, 0))
  ho : wx.heap[go]? = some (.cells (bcells y) 42 (0, 0))
  lc : w.heap.size + 1 < gc
  lo : w.heap.size + 1 < go
theorem RtS.mk2 {w w1 w3 : World} {T : TB} {x y : BitVec 4} (hk1 : Keeps noB ((w.alloc (.cells (rcells T) 46)).alloc (.cells (rcells TB.zero) 46)) w1) (hk3 : Keeps noB (w1.alloc (.cells (bcells x) 42)) w3) :
    RtS w (w3.alloc (.cells (bcells y) 42)) T x y w1.heap.size w3.heap.size := by
  have s0 : (w.alloc (.cells (rcells T) 46)).heap.size = w.heap.size + 1 := alloc_size _ _
  have s1 : ((w.alloc (.cells (rcells T) 46)).alloc (.cells (rcells TB.zero) 46)).heap.size = w.heap.size + 1 + 1 := by rw [alloc_size, s0]
  have hA : ((w.alloc (.cells (rcells T) 46)).alloc (.cells (rcells TB.zero) 46)).heap[w.heap.size]? = some (.cells (rcells T) 46 (0, 0)) := ((Keeps.refl noB _).alloc _).blk (heap_alloc_new w (.cells (rcells T) 46)) (noB_not _)
  have hB : ((w.alloc (.cells (rcells T) 46)).alloc (.cells (rcells TB.zero) 46)).heap[w.heap.size + 1]? = some (.cells (rcells TB.zero) 46 (0, 0)) := by rw [← s0]; exact heap_alloc_new _ _
  have k13 : Keeps noB w1 w3 := ((Keeps.refl noB w1).alloc _).trans_no hk3
  have k34 : Keeps noB w3 (w3.alloc (.cells (bcells y) 42)) := (Keeps.refl noB w3).alloc _
  have k1 := hk1.size
  have k3 := k13.size
  refine ⟨(((((Keeps.refl noB w).alloc _).alloc _).trans_no hk1).trans_no k13).trans_no k34, ?_, ?_, ?_, heap_alloc_new _ _, by omega, by omega⟩
  · exact k34.blk (k13.blk (hk1.blk hA (noB_not _)) (noB_not _)) (noB_not _)
  · exact k34.blk (k13.blk (hk1.blk hB (noB_not _)) (noB_not _)) (noB_not _)
  · exact k34.blk (hk3.blk (heap_alloc_new _ _) (noB_not _)) (noB_not _)
set_option maxRecDepth 100000 in
set_option maxHeartbeats 8000000 in
/-- Who can't be, or asks for what can't be, gets nothing. -/
theorem grant_no (c p m o : Int) (T : TB) (w : World) (h : (inT c p && (okB m && okB o)) = false) : Calls Try.prog 30 #[.agg (rcells T), .int .i64 c, .int .i64 p, .int .i64 m, .int .i64 o] w (RetK noB (.tuple #[.agg (rcells T), .bool false]) w) := by
  have hz46 := zero46
  have hCm := bits_u m
  have hCo := bits_u o
  have hI := in_r c p
  generalize inT c p = bi at *
  generalize mkB m = x at *
  generalize mkB o = y at *
  generalize okB m = bm at *
  generalize okB o = bo at *
  have HCm := Lib.hid hCm
  have HCo := Lib.hid hCo
  have HI := Lib.hid hI
  have HH := Lib.hid h
  clear hCm hCo hI h
  go_enter Try.func30, Try.ntmps30
  go_upto_region 3 with (first | with_reducible refine wpList_alloc0 rfl 46 rfl _ hz46 ?_ | (go_at_call 80; ((with_reducible refine (HCm.out _).mono ?_); rintro e w1 ⟨rfl, hk1⟩)) | (go_at_call 80; ((with_reducible refine (HCo.out _).mono ?_); rintro e w3 ⟨rfl, hk3⟩)))
  have hS : RtS w _ T x y _ _ := RtS.mk2 hk1 hk3
  unfold bcells at hS
  clear hk1 hk3
  generalize w3.alloc (.cells #[.bool (bt y 0), .bool (bt y 1), .bool (bt y 2), .bool (bt y 3)] 42) = wx at *
  generalize w1.heap.size = gc at *
  generalize w3.heap.size = go at *
  have hR' : wx.heap[w.heap.size]? = some (.cells (rcells T) 46 (0, 0)) := hS.rt
  have hZ := hS.rs
  have hkz : Keeps noB w (wx.setRow (w.heap.size + 1) (rcells T)) := hS.kp.setRow _ _ (.inr (by omega))
  have hres := setRow_heap' (cs := rcells T) hZ
  have HF := Lib.hid (And.intro hkz hres)
  clear hkz hres
  cases bi
  · go_wp2_with (first | (go_at_call 81; ((with_reducible refine (HI.out _).mono ?_); rintro e w' ⟨rfl, rfl⟩)) | with_reducible refine wpList_load_row rfl 46 _ rfl w.heap.size rfl 46 _ (0, 0) _ hR' Try.underlying46 rfl (info46' T) ?_ | with_reducible refine wpList_store_row rfl 46 _ _ rfl (w.heap.size + 1) (rcells T) rfl rfl 46 _ hZ (info46' T) (by rw [rcells_size, rcells_size]) (rcells_one T) ?_)
    refine bodyPost_ret (results_row_tmp (fn := Try.f30) Try.results30 _ _ _ 46 _ (0, 0) _ rfl HF.out.2 Try.underlying46 rfl (info46' T)) rfl ?_
    exact ⟨rfl, HF.out.1⟩
  · cases bm
    · go_wp2_with (first | (go_at_call 81; ((with_reducible refine (HI.out _).mono ?_); rintro e w' ⟨rfl, rfl⟩)) | with_reducible refine wpList_load_row rfl 46 _ rfl w.heap.size rfl 46 _ (0, 0) _ hR' Try.underlying46 rfl (info46' T) ?_ | with_reducible refine wpList_store_row rfl 46 _ _ rfl (w.heap.size + 1) (rcells T) rfl rfl 46 _ hZ (info46' T) (by rw [rcells_size, rcells_size]) (rcells_one T) ?_)
      refine bodyPost_ret (results_row_tmp (fn := Try.f30) Try.results30 _ _ _ 46 _ (0, 0) _ rfl HF.out.2 Try.underlying46 rfl (info46' T)) rfl ?_
      exact ⟨rfl, HF.out.1⟩
    · cases bo
      · go_wp2_with (first | (go_at_call 81; ((with_reducible refine (HI.out _).mono ?_); rintro e w' ⟨rfl, rfl⟩)) | with_reducible refine wpList_load_row rfl 46 _ rfl w.heap.size rfl 46 _ (0, 0) _ hR' Try.underlying46 rfl (info46' T) ?_ | with_reducible refine wpList_store_row rfl 46 _ _ rfl (w.heap.size + 1) (rcells T) rfl rfl 46 _ hZ (info46' T) (by rw [rcells_size, rcells_size]) (rcells_one T) ?_)
        refine bodyPost_ret (results_row_tmp (fn := Try.f30) Try.results30 _ _ _ 46 _ (0, 0) _ rfl HF.out.2 Try.underlying46 rfl (info46' T)) rfl ?_
        exact ⟨rfl, HF.out.1⟩
      · exact absurd HH.out (by decide)
end Go.Proofs.Ytlpimkmkcfbddaa
