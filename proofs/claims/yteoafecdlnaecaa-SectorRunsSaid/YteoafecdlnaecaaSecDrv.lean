/- The drive, told without its blocks. No condition. -/
import Derived.Test.YteoafecdlnaecaaSecBit
namespace Go.Proofs.Yteoafecdlnaecaa
open Go.RowKit

/-- A drive whose blocks lie in S. -/
def DrvS (w : World) (S : Nat → Prop) (b g n : Nat) (now st : Nat → List Int) (lo : Nat → Bool) : Prop := ∃ D va vb, (∀ x, D x → S x) ∧ DrAt w D b g n now st lo va vb
def fromB (B : Nat) : Nat → Prop := fun x => B ≤ x
/-- A drive whose blocks lie from B on. -/
def Drv (w : World) (B b g n : Nat) (now st : Nat → List Int) (lo : Nat → Bool) : Prop := DrvS w (fromB B) b g n now st lo
theorem DrvS.keep {w w1 : World} {S : Nat → Prop} {b g n : Nat} {now st : Nat → List Int} {lo : Nat → Bool} (h : DrvS w S b g n now st lo) {F : Nat → Prop} (hk : Keeps F w w1) (hF : ∀ x, S x → x < w.heap.size → ¬ F x) : DrvS w1 S b g n now st lo := by
  obtain ⟨D, va, vb, hD, hd⟩ := h
  exact ⟨D, va, vb, hD, hd.keep hk (fun x hx => hF x (hD x hx) (hd.lt x hx))⟩
theorem DrvS.no {w w1 : World} {S : Nat → Prop} {b g n : Nat} {now st : Nat → List Int} {lo : Nat → Bool} (h : DrvS w S b g n now st lo) (hk : Keeps noB w w1) : DrvS w1 S b g n now st lo := h.keep hk (fun x _ _ => noB_not x)
theorem DrvS.congr {w : World} {S : Nat → Prop} {b g n : Nat} {now st : Nat → List Int} {lo : Nat → Bool} (h : DrvS w S b g n now st lo) {now' st' : Nat → List Int} {lo' : Nat → Bool} (he : ∀ i, i < n → now' i = now i ∧ st' i = st i ∧ lo' i = lo i) : DrvS w S b g n now' st' lo' := by
  obtain ⟨D, va, vb, hD, hd⟩ := h
  exact ⟨D, va, vb, hD, hd.congr he⟩
theorem DrvS.mono {w : World} {S S' : Nat → Prop} {b g n : Nat} {now st : Nat → List Int} {lo : Nat → Bool} (h : DrvS w S b g n now st lo) (hS : ∀ x, S x → x < w.heap.size → S' x) : DrvS w S' b g n now st lo := by
  obtain ⟨D, va, vb, hD, hd⟩ := h
  exact ⟨D, va, vb, fun x hx => hS x (hD x hx) (hd.lt x hx), hd⟩
theorem Drv.no {w w1 : World} {B b g n : Nat} {now st : Nat → List Int} {lo : Nat → Bool} (h : Drv w B b g n now st lo) (hk : Keeps noB w w1) : Drv w1 B b g n now st lo := DrvS.no h hk
theorem Drv.congr {w : World} {B b g n : Nat} {now st : Nat → List Int} {lo : Nat → Bool} (h : Drv w B b g n now st lo) {now' st' : Nat → List Int} {lo' : Nat → Bool} (he : ∀ i, i < n → now' i = now i ∧ st' i = st i ∧ lo' i = lo i) : Drv w B b g n now' st' lo' := DrvS.congr h he
theorem new_v (many : Int) (hm : -9223372036854775808 ≤ many ∧ many ≤ 9223372036854775807) (w : World) (B : Nat) (hB : B ≤ w.heap.size) :
    Calls Try.prog 8 #[.int .i64 many] w fun e w' => e = .returned (.pointer (some ⟨w.heap.size + 1, 0, none⟩)) ∧ Keeps noB w w' ∧ Drv w' B (w.heap.size + 1) w.heap.size (newN many) noBy noBy noLo :=
  (new_c many hm w).mono (fun _ _ h => ⟨h.1, h.2.1, _, _, _, fun x hx => by unfold fromB; omega, h.2.2⟩)
theorem len_s {w : World} {S : Nat → Prop} {b g n : Nat} {now st : Nat → List Int} {lo : Nat → Bool} (h : DrvS w S b g n now st lo) : Calls Try.prog 11 #[.pointer (some ⟨b, 0, none⟩)] w (Ret (.int .i64 n) w) := by
  obtain ⟨D, va, vb, hD, hd⟩ := h
  exact len_c hd
theorem read_s {w : World} {S : Nat → Prop} {b g n : Nat} {now st : Nat → List Int} {lo : Nat → Bool} (h : DrvS w S b g n now st lo) (i : Int) :
    Calls Try.prog 9 #[.pointer (some ⟨b, 0, none⟩), .int .i64 i] w fun e w' => ∃ a c, RetK noB (.tuple #[.slice a (if inD n i then now i.toNat else []).length c, .int .i64 (if inD n i then 0 else 51)]) w e w' ∧ ByO w' w.heap.size a c (if inD n i then now i.toNat else []) := by
  obtain ⟨D, va, vb, hD, hd⟩ := h
  exact read_c hd i
theorem write_s {w : World} {S : Nat → Prop} {b g n : Nat} {now st : Nat → List Int} {lo : Nat → Bool} (h : DrvS w S b g n now st lo) (hS : ∀ x, w.heap.size ≤ x → S x) (i : Int) (E : Nat → Prop) (a : Option Addr) (l : List Int) (cap : Nat) (hl : l.length ≤ 140737488351232) (hr : ByR w E a l) :
    Calls Try.prog 12 #[.pointer (some ⟨b, 0, none⟩), .int .i64 i, .slice a l.length cap] w fun e w' => RetK S (.int .i64 (if okW n i l then 0 else 51)) w e w' ∧
      DrvS w' S b g n (if okW n i l then up now i.toNat l else now) st (if okW n i l then up lo i.toNat true else lo) := by
  obtain ⟨D, va, vb, hD, hd⟩ := h
  refine (write_c hd i E a l cap hl hr).mono ?_
  rintro e w' ⟨⟨he, hk⟩, D', va', _, hD2, hd'⟩
  exact ⟨⟨he, hk.mono (fun x _ hx => hD x hx)⟩, D', va', vb, fun x hx => (hD2 x hx).elim (hD x) (fun h => hS x h), hd'⟩
theorem sync_s {w : World} {S : Nat → Prop} {b g n : Nat} {now st : Nat → List Int} {lo : Nat → Bool} (h : DrvS w S b g n now st lo) :
    Calls Try.prog 13 #[.pointer (some ⟨b, 0, none⟩)] w fun e w' => RetK S (.tuple #[]) w e w' ∧ DrvS w' S b g n (aftN (fun _ => true) now st lo) (aftS (fun _ => true) now st lo) (fun _ => false) := by
  obtain ⟨D, va, vb, hD, hd⟩ := h
  refine (sync_c hd).mono ?_
  rintro e w' ⟨⟨he, hk⟩, va', vb', hd'⟩
  exact ⟨⟨he, hk.mono (fun x _ hx => hD x hx)⟩, D, va', vb', hD, hd'⟩
theorem crash_s {w : World} {S : Nat → Prop} {b g n : Nat} {now st : Nat → List Int} {lo : Nat → Bool} (h : DrvS w S b g n now st lo) (keep : Int) :
    Calls Try.prog 14 #[.pointer (some ⟨b, 0, none⟩), .int .i64 keep] w fun e w' => RetK S (.tuple #[]) w e w' ∧ DrvS w' S b g n (aftN (pickK keep) now st lo) (aftS (pickK keep) now st lo) (fun _ => false) := by
  obtain ⟨D, va, vb, hD, hd⟩ := h
  refine (crash_c hd keep).mono ?_
  rintro e w' ⟨⟨he, hk⟩, va', vb', hd'⟩
  exact ⟨⟨he, hk.mono (fun x _ hx => hD x hx)⟩, D, va', vb', hD, hd'⟩
theorem loose_s {w : World} {S : Nat → Prop} {b g n : Nat} {now st : Nat → List Int} {lo : Nat → Bool} (h : DrvS w S b g n now st lo) :
    Calls Try.prog 15 #[.pointer (some ⟨b, 0, none⟩)] w fun e w' => ∃ v, RetK noB v w e w' ∧ OwnI w' w.heap.size v (looN lo n) := by
  obtain ⟨D, va, vb, hD, hd⟩ := h
  exact loose_c hd
theorem len_v {w : World} {B b g n : Nat} {now st : Nat → List Int} {lo : Nat → Bool} (h : Drv w B b g n now st lo) : Calls Try.prog 11 #[.pointer (some ⟨b, 0, none⟩)] w (Ret (.int .i64 n) w) := len_s h
theorem read_v {w : World} {B b g n : Nat} {now st : Nat → List Int} {lo : Nat → Bool} (h : Drv w B b g n now st lo) (i : Int) :
    Calls Try.prog 9 #[.pointer (some ⟨b, 0, none⟩), .int .i64 i] w fun e w' => ∃ a c, RetK noB (.tuple #[.slice a (if inD n i then now i.toNat else []).length c, .int .i64 (if inD n i then 0 else 51)]) w e w' ∧ ByO w' w.heap.size a c (if inD n i then now i.toNat else []) := read_s h i
theorem write_v {w : World} {B b g n : Nat} {now st : Nat → List Int} {lo : Nat → Bool} (h : Drv w B b g n now st lo) (hB : B ≤ w.heap.size) (i : Int) (E : Nat → Prop) (a : Option Addr) (l : List Int) (cap : Nat) (hl : l.length ≤ 140737488351232) (hr : ByR w E a l) :
    Calls Try.prog 12 #[.pointer (some ⟨b, 0, none⟩), .int .i64 i, .slice a l.length cap] w fun e w' => RetK (fromB B) (.int .i64 (if okW n i l then 0 else 51)) w e w' ∧
      Drv w' B b g n (if okW n i l then up now i.toNat l else now) st (if okW n i l then up lo i.toNat true else lo) := write_s h (fun x hx => by unfold fromB; omega) i E a l cap hl hr
theorem sync_v {w : World} {B b g n : Nat} {now st : Nat → List Int} {lo : Nat → Bool} (h : Drv w B b g n now st lo) :
    Calls Try.prog 13 #[.pointer (some ⟨b, 0, none⟩)] w fun e w' => RetK (fromB B) (.tuple #[]) w e w' ∧ Drv w' B b g n (aftN (fun _ => true) now st lo) (aftS (fun _ => true) now st lo) (fun _ => false) := sync_s h
theorem crash_v {w : World} {B b g n : Nat} {now st : Nat → List Int} {lo : Nat → Bool} (h : Drv w B b g n now st lo) (keep : Int) :
    Calls Try.prog 14 #[.pointer (some ⟨b, 0, none⟩), .int .i64 keep] w fun e w' => RetK (fromB B) (.tuple #[]) w e w' ∧ Drv w' B b g n (aftN (pickK keep) now st lo) (aftS (pickK keep) now st lo) (fun _ => false) := crash_s h keep
theorem loose_v {w : World} {B b g n : Nat} {now st : Nat → List Int} {lo : Nat → Bool} (h : Drv w B b g n now st lo) :
    Calls Try.prog 15 #[.pointer (some ⟨b, 0, none⟩)] w fun e w' => ∃ v, RetK noB v w e w' ∧ OwnI w' w.heap.size v (looN lo n) := loose_s h
theorem okW_true {n k : Nat} {l : List Int} (hk : k < n) (hl : l.length ≤ 100) : okW n k l = true := by
  unfold okW inD; simp; omega
theorem okW_open {n : Nat} {i : Int} {l : List Int} (h : okW n i l = true) : ∃ k : Nat, i = k ∧ k < n ∧ l.length ≤ 100 := by
  unfold okW inD at h; simp at h; exact ⟨i.toNat, by omega, by omega, by omega⟩
theorem inD_true {n k : Nat} (hk : k < n) : inD n k = true := by unfold inD; simp; omega
/-- The copy that 'append([]byte{}, x...)' makes. -/
theorem copy_own {w w1 : World} {v : Value} {l : List Int} (h : w1.ownsRow w.heap.size 5 1 v l.length (bcells l)) (hg : (w.alloc (.cells #[] 5)).grownBy w1 (Value.slice (some ⟨w.heap.size, 0, none⟩) 0 0).ownBlock) :
    Keeps noB w w1 ∧ ∃ a c, v = .slice a l.length c ∧ ByO w1 w.heap.size a c l :=
  ⟨((Keeps.refl noB w).alloc _).own (own_bytes0 w) (Nat.le_refl _) hg, ByO.of_own h⟩
end Go.Proofs.Yteoafecdlnaecaa
