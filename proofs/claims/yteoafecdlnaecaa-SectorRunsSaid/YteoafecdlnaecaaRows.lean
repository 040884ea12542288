/-
  No cell of these rows narrows 'for every input' (looked for: loops, veiled, ifaces, maps, wideKeys, modest, calm, conditions, laid).
  DERIVED. THE GIVEN ROWS OF THIS SEAT. 5 by the template 'for every input the law returns true; each argument reads behind the call as it read before'; 0 by the template 'total and deterministic' (their statements: YteoafecdlnaecaaTotals.lean).
  GIVEN WITH THE SEED: the statements are not yours to turn. If you find one false, say at which input.
  Laid BY PROGRAM, IN A SANDBOX (cutbox-rows.mjs): the forced cells as the released guide's own fill.sh prints them over the translation 68e89700cbbabde3… (all of the seat's roots in one cut). By AI agents, Wed Nov 11 2026. No macro, syntax, notation, axiom, sorry.
-/
import Derived.Test.YteoafecdlnaecaaChecked
import GoSem.Claim
import GoSem.ClaimJoined
import GoSem.ClaimMapViews
import Derived.JoinedTies
import Derived.KernelRfl
namespace Go.Proofs.Yteoafecdlnaecaa
/- THE CELL 'sum', in the pinned program and in every row, IS THE sha256 OF THE DUMP (.gsa) THAT YteoafecdlnaecaaProg.lean LOADS. Nothing in Lean hashes anything: it is a label: what it is worth is what the hold of that sum in a sandbox is worth. -/
noncomputable def Try.pinned : Pinned := { name := "yteoafecdlnaecaa", sum := "68e89700cbbabde37a177b0308efd930ccb7d13776f93cbdf36eb2a7dfc176ce", checked := Try.checked }
namespace Rows
def none {H : Type} : Left H := { results := [], args := [] }

/-- 'cloakroomlaw05.SectorNames': WHATEVER THE INPUT: true; the input reads as it did. -/
def sectorNamesSpec : ChangeSpec := { name := "sectorNames", fn := fun _ => fun
  | [] => { results := [.lit (.bool true)], args := [] }
  | _ => none }
def sectorNamesRow : OpenClaim := { program := "yteoafecdlnaecaa", sum := "68e89700cbbabde37a177b0308efd930ccb7d13776f93cbdf36eb2a7dfc176ce", func := "cloakroom/cloakroomlaw05.SectorNames", spec := "sectorNames", unfollowed := true, recurses := true, apart := false }
def SectorNamesSaid : Prop := sectorNamesRow.holds Try.pinned (OpenSpec.ofChange sectorNamesSpec)

/-- ITS FALSE NEIGHBOUR: 'it returns false'. Refute it at one input. -/
def sectorNamesWrong : ChangeSpec := { name := "sectorNames", fn := fun _ => fun
  | [] => { results := [.lit (.bool false)], args := [] }
  | _ => none }
def SectorNamesWrongFalsely : Prop := sectorNamesRow.holds Try.pinned (OpenSpec.ofChange sectorNamesWrong)

/-- 'cloakroomlaw05.SectorParts': WHATEVER THE INPUT: true; the input reads as it did. -/
def sectorPartsSpec : ChangeSpec := { name := "sectorParts", fn := fun _ => fun
  | [d1, d2, d3] => { results := [.lit (.bool true)], args := [d1, d2, d3] }
  | _ => none }
def sectorPartsRow : OpenClaim := { program := "yteoafecdlnaecaa", sum := "68e89700cbbabde37a177b0308efd930ccb7d13776f93cbdf36eb2a7dfc176ce", func := "cloakroom/cloakroomlaw05.SectorParts", spec := "sectorParts", unfollowed := true, recurses := true, apart := false }
def SectorPartsSaid : Prop := sectorPartsRow.holds Try.pinned (OpenSpec.ofChange sectorPartsSpec)

/-- ITS FALSE NEIGHBOUR: 'it returns false'. Refute it at one input. -/
def sectorPartsWrong : ChangeSpec := { name := "sectorParts", fn := fun _ => fun
  | [d1, d2, d3] => { results := [.lit (.bool false)], args := [d1, d2, d3] }
  | _ => none }
def SectorPartsWrongFalsely : Prop := sectorPartsRow.holds Try.pinned (OpenSpec.ofChange sectorPartsWrong)

/-- 'cloakroomlaw05.SectorMask': WHATEVER THE INPUT: true; the input reads as it did. -/
def sectorMaskSpec : ChangeSpec := { name := "sectorMask", fn := fun _ => fun
  | [d1, d2, d3] => { results := [.lit (.bool true)], args := [d1, d2, d3] }
  | _ => none }
def sectorMaskRow : OpenClaim := { program := "yteoafecdlnaecaa", sum := "68e89700cbbabde37a177b0308efd930ccb7d13776f93cbdf36eb2a7dfc176ce", func := "cloakroom/cloakroomlaw05.SectorMask", spec := "sectorMask", unfollowed := true, recurses := true, apart := false }
def SectorMaskSaid : Prop := sectorMaskRow.holds Try.pinned (OpenSpec.ofChange sectorMaskSpec)

/-- ITS FALSE NEIGHBOUR: 'it returns false'. Refute it at one input. -/
def sectorMaskWrong : ChangeSpec := { name := "sectorMask", fn := fun _ => fun
  | [d1, d2, d3] => { results := [.lit (.bool false)], args := [d1, d2, d3] }
  | _ => none }
def SectorMaskWrongFalsely : Prop := sectorMaskRow.holds Try.pinned (OpenSpec.ofChange sectorMaskWrong)

/-- 'cloakroomlaw05.SectorRuns': WHATEVER THE INPUT: true; the input reads as it did. -/
def sectorRunsSpec : ChangeSpec := { name := "sectorRuns", fn := fun _ => fun
  | [d1, d2] => { results := [.lit (.bool true)], args := [d1, d2] }
  | _ => none }
def sectorRunsRow : OpenClaim := { program := "yteoafecdlnaecaa", sum := "68e89700cbbabde37a177b0308efd930ccb7d13776f93cbdf36eb2a7dfc176ce", func := "cloakroom/cloakroomlaw05.SectorRuns", spec := "sectorRuns", unfollowed := true, recurses := true, apart := false }
def SectorRunsSaid : Prop := sectorRunsRow.holds Try.pinned (OpenSpec.ofChange sectorRunsSpec)

/-- ITS FALSE NEIGHBOUR: 'it returns false'. Refute it at one input. -/
def sectorRunsWrong : ChangeSpec := { name := "sectorRuns", fn := fun _ => fun
  | [d1, d2] => { results := [.lit (.bool false)], args := [d1, d2] }
  | _ => none }
def SectorRunsWrongFalsely : Prop := sectorRunsRow.holds Try.pinned (OpenSpec.ofChange sectorRunsWrong)

/-- 'cloakroomlaw05.SectorKeeps': WHATEVER THE INPUT: true; the input reads as it did. -/
def sectorKeepsSpec : ChangeSpec := { name := "sectorKeeps", fn := fun _ => fun
  | [d1, d2] => { results := [.lit (.bool true)], args := [d1, d2] }
  | _ => none }
def sectorKeepsRow : OpenClaim := { program := "yteoafecdlnaecaa", sum := "68e89700cbbabde37a177b0308efd930ccb7d13776f93cbdf36eb2a7dfc176ce", func := "cloakroom/cloakroomlaw05.SectorKeeps", spec := "sectorKeeps", unfollowed := true, recurses := true, apart := false }
def SectorKeepsSaid : Prop := sectorKeepsRow.holds Try.pinned (OpenSpec.ofChange sectorKeepsSpec)

/-- ITS FALSE NEIGHBOUR: 'it returns false'. Refute it at one input. -/
def sectorKeepsWrong : ChangeSpec := { name := "sectorKeeps", fn := fun _ => fun
  | [d1, d2] => { results := [.lit (.bool false)], args := [d1, d2] }
  | _ => none }
def SectorKeepsWrongFalsely : Prop := sectorKeepsRow.holds Try.pinned (OpenSpec.ofChange sectorKeepsWrong)

/- THE SECOND FORM. 'bulk': how many values and letters a reading holds, each counted each time it is reached (what is shared counts as often as it is met; a slice's spare places count too). A statement '..UptoSaid' is the law's where the arguments, and the package variables that the reading takes, are together of bulk at most 1048576: NARROWER than '..Said'. Prove '..Said' where nothing that the law and all that it calls make is longer than what came in: it says more and counts as full. Else prove '..UptoSaid'. A law counts once. -/
mutual
def uptoBulk {H : Type} : DataW H → Nat
  | .lit (.string bytes) => bytes.length + 1
  | .lit _ => 1
  | .nil => 1
  | .ptr d => uptoBulk d + 1
  | .slice elems spare => uptoBulkAll elems + uptoBulkAll spare + 1
  | .agg parts => uptoBulkAll parts + 1
  | .iface _ d => uptoBulk d + 1
  | .map entries => uptoBulkEntries entries + 1
  | .held _ => 1
def uptoBulkAll {H : Type} : List (DataW H) → Nat
  | [] => 0
  | d :: r => uptoBulk d + uptoBulkAll r
def uptoBulkEntries {H : Type} : List (Lit × DataW H) → Nat
  | [] => 0
  | x :: r => uptoBulkEntry x + uptoBulkEntries r
def uptoBulkEntry {H : Type} : Lit × DataW H → Nat
  | (.string bytes, d) => bytes.length + uptoBulk d + 1
  | (_, d) => uptoBulk d + 1
 end
def uptoSmall : (H : Type) → List (DataW H) → Bool := fun _ ds => decide (uptoBulkAll ds ≤ 1048576)
def OpenSpec.upto (s : _root_.Go.ChangeSpec) : _root_.Go.OpenSpec := { _root_.Go.OpenSpec.ofChange s with cond := some uptoSmall }

/-- 'cloakroomlaw05.SectorNames', WHERE WHAT IT READS IS OF BULK AT MOST 1048576: true; the input reads as it did. -/
def sectorNamesUptoRow : OpenClaim := { program := "yteoafecdlnaecaa", sum := "68e89700cbbabde37a177b0308efd930ccb7d13776f93cbdf36eb2a7dfc176ce", func := "cloakroom/cloakroomlaw05.SectorNames", spec := "sectorNames", unfollowed := true, recurses := true, apart := false, narrowed := true }
def SectorNamesUptoSaid : Prop := sectorNamesUptoRow.holds Try.pinned (OpenSpec.upto sectorNamesSpec)

/-- 'cloakroomlaw05.SectorParts', WHERE WHAT IT READS IS OF BULK AT MOST 1048576: true; the input reads as it did. -/
def sectorPartsUptoRow : OpenClaim := { program := "yteoafecdlnaecaa", sum := "68e89700cbbabde37a177b0308efd930ccb7d13776f93cbdf36eb2a7dfc176ce", func := "cloakroom/cloakroomlaw05.SectorParts", spec := "sectorParts", unfollowed := true, recurses := true, apart := false, narrowed := true }
def SectorPartsUptoSaid : Prop := sectorPartsUptoRow.holds Try.pinned (OpenSpec.upto sectorPartsSpec)

/-- 'cloakroomlaw05.SectorMask', WHERE WHAT IT READS IS OF BULK AT MOST 1048576: true; the input reads as it did. -/
def sectorMaskUptoRow : OpenClaim := { program := "yteoafecdlnaecaa", sum := "68e89700cbbabde37a177b0308efd930ccb7d13776f93cbdf36eb2a7dfc176ce", func := "cloakroom/cloakroomlaw05.SectorMask", spec := "sectorMask", unfollowed := true, recurses := true, apart := false, narrowed := true }
def SectorMaskUptoSaid : Prop := sectorMaskUptoRow.holds Try.pinned (OpenSpec.upto sectorMaskSpec)

/-- 'cloakroomlaw05.SectorRuns', WHERE WHAT IT READS IS OF BULK AT MOST 1048576: true; the input reads as it did. -/
def sectorRunsUptoRow : OpenClaim := { program := "yteoafecdlnaecaa", sum := "68e89700cbbabde37a177b0308efd930ccb7d13776f93cbdf36eb2a7dfc176ce", func := "cloakroom/cloakroomlaw05.SectorRuns", spec := "sectorRuns", unfollowed := true, recurses := true, apart := false, narrowed := true }
def SectorRunsUptoSaid : Prop := sectorRunsUptoRow.holds Try.pinned (OpenSpec.upto sectorRunsSpec)

/-- 'cloakroomlaw05.SectorKeeps', WHERE WHAT IT READS IS OF BULK AT MOST 1048576: true; the input reads as it did. -/
def sectorKeepsUptoRow : OpenClaim := { program := "yteoafecdlnaecaa", sum := "68e89700cbbabde37a177b0308efd930ccb7d13776f93cbdf36eb2a7dfc176ce", func := "cloakroom/cloakroomlaw05.SectorKeeps", spec := "sectorKeeps", unfollowed := true, recurses := true, apart := false, narrowed := true }
def SectorKeepsUptoSaid : Prop := sectorKeepsUptoRow.holds Try.pinned (OpenSpec.upto sectorKeepsSpec)

end Rows
end Go.Proofs.Yteoafecdlnaecaa
