/- The desk, plainly: who only asks to read is granted at once. No condition. -/
import Derived.Test.YtlpimkmkcfbddaaDkZ
namespace Go.Proofs.Ytlpimkmkcfbddaa
open Go.RowKit

/-- Nobody owns, nobody waits, nobody was called, nothing is to be told. -/
structure RdD (s : Dp) : Prop where
  ws : s.ws = []
  l : s.l = []
  al : s.al = []
  ow : ∀ c p, s.T.ow c p = 0#4
theorem RdD.zero : RdD dk0 := ⟨rfl, rfl, rfl, fun _ _ => rfl⟩
theorem othZ {f : Nat → Nat → BitVec 4} (h : ∀ c p, f c p = 0#4) (c p : Nat) : ∀ k, oth f c p k = 0#4
  | 0 => rfl
  | k + 1 => by
    unfold oth
    rw [othZ h c p k, h k p]
    split <;> rfl
theorem holdN_zero {T : TB} (h : ∀ c p, T.ow c p = 0#4) (c p o : Nat) : ∀ k, T.holdN c p o false k = []
  | 0 => rfl
  | k + 1 => by
    unfold TB.holdN
    rw [if_neg (by simp [h])]
    exact holdN_zero h c p o k
theorem rd_step {s : Dp} (h : RdD s) {c p o : Int} (hc : 0 ≤ c ∧ c < 4) (hp : 0 ≤ p ∧ p < 6) (ho : 0 ≤ o ∧ o < 4) :
    ∃ u, Settles { s with ws := addW ⟨c, p, o, false⟩ s.ws } u ∧ u.al = [⟨c, 5, p, 0, 15, 0, false⟩] ∧ RdD (calm u) := by
  obtain ⟨hw, hl, ha, hT⟩ := h
  have hr : rightB ⟨c, p, o, false⟩ = true := decide_eq_true ⟨hc.1, hc.2, hp.1, hp.2, ho.1, ho.2⟩
  have hadd : addW ⟨c, p, o, false⟩ s.ws = [⟨c, p, o, false⟩] := by
    rw [hw]
    unfold addW addOk
    rw [hr]
    rfl
  rw [hadd]
  obtain ⟨T, ws, l, al⟩ := s
  simp only at hw hl ha hT
  subst hw hl ha
  have hof : ofW c [⟨c, p, o, false⟩] = 0 := by unfold ofW; simp
  have hah : aheadL ⟨c, p, o, false⟩ [⟨c, p, o, false⟩] = [] := by unfold aheadL; simp only [hof]; rfl
  have hh : T.holders c p o false = [] := by
    unfold TB.holders
    rw [holdN_zero hT]
    split <;> rfl
  have hin : inT c p = true := decide_eq_true ⟨hc.1, hp.1, hc.2, hp.2⟩
  have hoO : T.oO c.toNat p.toNat = 0#4 := othZ hT _ _ 4
  have hfree : T.free c p = 15#4 := by unfold TB.free; rw [hin, hoO]; rfl
  have hres : resM c p [⟨c, p, o, false⟩] = 0#4 := by
    unfold resM
    rw [List.foldl_cons, if_neg (by simp [resP])]
    rfl
  have hgm : grM ⟨T, [⟨c, p, o, false⟩], [], []⟩ ⟨c, p, o, false⟩ = (15#4, 0#4) := by
    unfold grM
    simp only [hfree, hres, Bool.false_and, Bool.false_eq_true, if_false]
    have : ∀ y : BitVec 4, ((15#4 &&& ~~~0#4) ||| y) = 15#4 := by decide
    rw [this]
  have hok : T.okG c p 15 0 = true := by
    unfold TB.okG TB.clash
    rw [hin, hoO]
    have : ∀ a b : BitVec 4, mk4 15 = a → mk4 0 = b → (((0#4 &&& (a ||| b)) ||| (T.oC c.toNat p.toNat &&& b)) != 0#4) = false := fun a b ha hb => by
      subst ha hb
      generalize T.oC c.toNat p.toNat = z
      revert z
      decide
    rw [this _ _ rfl rfl]
    rfl
  have hgr : T.grant c p 15 0 = T.grant' c.toNat p.toNat (mk4 15) (mk4 0) := by unfold TB.grant; rw [hok]; rfl
  have hco : (T.grant c p 15 0).copies c p = 15#4 := by
    unfold TB.copies
    rw [hin, hgr]
    simp only [if_true]
    unfold TB.grant' TB.setO TB.setC
    simp only [and_self, if_true]
    generalize T.co c.toNat p.toNat = z
    revert z
    decide
  have how : ∀ a b, (T.grant c p 15 0).ow a b = 0#4 := fun a b => by
    rw [hgr]
    unfold TB.grant' TB.setO TB.setC
    simp only
    split
    · rw [hT]; rfl
    · exact hT _ _
  have hown : (T.grant c p 15 0).owns c p = 0#4 := by
    unfold TB.owns
    rw [hin, how]
    rfl
  have hrm : rmW c [⟨c, p, o, false⟩] = [] := by unfold rmW; rw [hof]; rfl
  have hps : passP ⟨T, [⟨c, p, o, false⟩], [], []⟩ [⟨c, p, o, false⟩] = (⟨T.grant c p 15 0, [], [], [⟨c, 5, p, 0, 15, 0, false⟩]⟩, true) := by
    unfold passP
    simp only [hah, hh]
    rw [if_neg (by simp [outB]), if_pos (show ([] : List Int).length = 0 from rfl)]
    unfold grantP
    simp only [hgm, hrm]
    have h15 : mv 15#4 = 15 := rfl
    have h0 : mv 0#4 = 0 := rfl
    simp only [h15, h0, hco, hown]
    rfl
  refine ⟨⟨T.grant c p 15 0, [], [], [⟨c, 5, p, 0, 15, 0, false⟩]⟩, .pass ⟨by simp, fun x hx => by
    rw [List.mem_singleton.1 hx]; exact ho, by simp⟩ hps (by simp) (.stop ⟨by simp, fun x hx => by simp at hx, by simp⟩ rfl ⟨by simp, fun x hx => by simp at hx, by simp⟩ vic_nil), rfl, ⟨rfl, rfl, rfl, how⟩⟩
end Go.Proofs.Ytlpimkmkcfbddaa
