/-
  No cell of these rows narrows 'for every input' (looked for: loops, veiled, ifaces, maps, wideKeys, modest, calm, conditions, laid).
  DERIVED. THE GIVEN ROWS OF THIS SEAT. 17 by the template 'for every input the law returns true; each argument reads behind the call as it read before'; 0 by the template 'total and deterministic' (their statements: YtlpimkmkcfbddaaTotals.lean).
  GIVEN WITH THE SEED: the statements are not yours to turn. If you find one false, say at which input.
  Laid BY PROGRAM, IN A SANDBOX (cutbox-rows.mjs): the forced cells as the released guide's own fill.sh prints them over the translation 73cdee293007afb3… (all of the seat's roots in one cut). By AI agents, Wed Nov 11 2026. No macro, syntax, notation, axiom, sorry.
-/
import Derived.Test.YtlpimkmkcfbddaaChecked
import GoSem.Claim
import GoSem.ClaimJoined
import GoSem.ClaimMapViews
import Derived.JoinedTies
import Derived.KernelRfl
namespace Go.Proofs.Ytlpimkmkcfbddaa
/- THE CELL 'sum', in the pinned program and in every row, IS THE sha256 OF THE DUMP (.gsa) THAT YtlpimkmkcfbddaaProg.lean LOADS. Nothing in Lean hashes anything: it is a label: what it is worth is what the hold of that sum in a sandbox is worth. -/
noncomputable def Try.pinned : Pinned := { name := "ytlpimkmkcfbddaa", sum := "73cdee293007afb3af78325e8fdcc8fde90716a90c33be1b2806a8ee55d777e2", checked := Try.checked }
namespace Rows
def none {H : Type} : Left H := { results := [], args := [] }

/-- 'cloakroomlaw12.TableAlone': WHATEVER THE INPUT: true; the input reads as it did. -/
def tableAloneSpec : ChangeSpec := { name := "tableAlone", fn := fun _ => fun
  | [d] => { results := [.lit (.bool true)], args := [d] }
  | _ => none }
def tableAloneRow : OpenClaim := { program := "ytlpimkmkcfbddaa", sum := "73cdee293007afb3af78325e8fdcc8fde90716a90c33be1b2806a8ee55d777e2", func := "cloakroom/cloakroomlaw12.TableAlone", spec := "tableAlone", plainKeys := false, apart := false }
def TableAloneSaid : Prop := tableAloneRow.holds Try.pinned (OpenSpec.ofChange tableAloneSpec)

/-- ITS FALSE NEIGHBOUR: 'it returns false'. Refute it at one input. -/
def tableAloneWrong : ChangeSpec := { name := "tableAlone", fn := fun _ => fun
  | [d] => { results := [.lit (.bool false)], args := [d] }
  | _ => none }
def TableAloneWrongFalsely : Prop := tableAloneRow.holds Try.pinned (OpenSpec.ofChange tableAloneWrong)

/-- 'cloakroomlaw12.TableNames': WHATEVER THE INPUT: true; the input reads as it did. -/
def tableNamesSpec : ChangeSpec := { name := "tableNames", fn := fun _ => fun
  | [] => { results := [.lit (.bool true)], args := [] }
  | _ => none }
def tableNamesRow : OpenClaim := { program := "ytlpimkmkcfbddaa", sum := "73cdee293007afb3af78325e8fdcc8fde90716a90c33be1b2806a8ee55d777e2", func := "cloakroom/cloakroomlaw12.TableNames", spec := "tableNames", plainKeys := false, apart := false }
def TableNamesSaid : Prop := tableNamesRow.holds Try.pinned (OpenSpec.ofChange tableNamesSpec)

/-- ITS FALSE NEIGHBOUR: 'it returns false'. Refute it at one input. -/
def tableNamesWrong : ChangeSpec := { name := "tableNames", fn := fun _ => fun
  | [] => { results := [.lit (.bool false)], args := [] }
  | _ => none }
def TableNamesWrongFalsely : Prop := tableNamesRow.holds Try.pinned (OpenSpec.ofChange tableNamesWrong)

/-- 'cloakroomlaw12.TableGives': WHATEVER THE INPUT: true; the input reads as it did. -/
def tableGivesSpec : ChangeSpec := { name := "tableGives", fn := fun _ => fun
  | [d1, d2, d3] => { results := [.lit (.bool true)], args := [d1, d2, d3] }
  | _ => none }
def tableGivesRow : OpenClaim := { program := "ytlpimkmkcfbddaa", sum := "73cdee293007afb3af78325e8fdcc8fde90716a90c33be1b2806a8ee55d777e2", func := "cloakroom/cloakroomlaw12.TableGives", spec := "tableGives", plainKeys := false, apart := false }
def TableGivesSaid : Prop := tableGivesRow.holds Try.pinned (OpenSpec.ofChange tableGivesSpec)

/-- ITS FALSE NEIGHBOUR: 'it returns false'. Refute it at one input. -/
def tableGivesWrong : ChangeSpec := { name := "tableGives", fn := fun _ => fun
  | [d1, d2, d3] => { results := [.lit (.bool false)], args := [d1, d2, d3] }
  | _ => none }
def TableGivesWrongFalsely : Prop := tableGivesRow.holds Try.pinned (OpenSpec.ofChange tableGivesWrong)

/-- 'cloakroomlaw12.TableClears': WHATEVER THE INPUT: true; the input reads as it did. -/
def tableClearsSpec : ChangeSpec := { name := "tableClears", fn := fun _ => fun
  | [d1, d2, d3] => { results := [.lit (.bool true)], args := [d1, d2, d3] }
  | _ => none }
def tableClearsRow : OpenClaim := { program := "ytlpimkmkcfbddaa", sum := "73cdee293007afb3af78325e8fdcc8fde90716a90c33be1b2806a8ee55d777e2", func := "cloakroom/cloakroomlaw12.TableClears", spec := "tableClears", plainKeys := false, apart := false }
def TableClearsSaid : Prop := tableClearsRow.holds Try.pinned (OpenSpec.ofChange tableClearsSpec)

/-- ITS FALSE NEIGHBOUR: 'it returns false'. Refute it at one input. -/
def tableClearsWrong : ChangeSpec := { name := "tableClears", fn := fun _ => fun
  | [d1, d2, d3] => { results := [.lit (.bool false)], args := [d1, d2, d3] }
  | _ => none }
def TableClearsWrongFalsely : Prop := tableClearsRow.holds Try.pinned (OpenSpec.ofChange tableClearsWrong)

/-- 'cloakroomlaw12.TableRuns': WHATEVER THE INPUT: true; the input reads as it did. -/
def tableRunsSpec : ChangeSpec := { name := "tableRuns", fn := fun _ => fun
  | [d1, d2] => { results := [.lit (.bool true)], args := [d1, d2] }
  | _ => none }
def tableRunsRow : OpenClaim := { program := "ytlpimkmkcfbddaa", sum := "73cdee293007afb3af78325e8fdcc8fde90716a90c33be1b2806a8ee55d777e2", func := "cloakroom/cloakroomlaw12.TableRuns", spec := "tableRuns", plainKeys := false, apart := false }
def TableRunsSaid : Prop := tableRunsRow.holds Try.pinned (OpenSpec.ofChange tableRunsSpec)

/-- ITS FALSE NEIGHBOUR: 'it returns false'. Refute it at one input. -/
def tableRunsWrong : ChangeSpec := { name := "tableRuns", fn := fun _ => fun
  | [d1, d2] => { results := [.lit (.bool false)], args := [d1, d2] }
  | _ => none }
def TableRunsWrongFalsely : Prop := tableRunsRow.holds Try.pinned (OpenSpec.ofChange tableRunsWrong)

/-- 'cloakroomlaw13.WaitsNames': WHATEVER THE INPUT: true; the input reads as it did. -/
def waitsNamesSpec : ChangeSpec := { name := "waitsNames", fn := fun _ => fun
  | [] => { results := [.lit (.bool true)], args := [] }
  | _ => none }
def waitsNamesRow : OpenClaim := { program := "ytlpimkmkcfbddaa", sum := "73cdee293007afb3af78325e8fdcc8fde90716a90c33be1b2806a8ee55d777e2", func := "cloakroom/cloakroomlaw13.WaitsNames", spec := "waitsNames", unfollowed := true, recurses := true, plainKeys := false, apart := false }
def WaitsNamesSaid : Prop := waitsNamesRow.holds Try.pinned (OpenSpec.ofChange waitsNamesSpec)

/-- ITS FALSE NEIGHBOUR: 'it returns false'. Refute it at one input. -/
def waitsNamesWrong : ChangeSpec := { name := "waitsNames", fn := fun _ => fun
  | [] => { results := [.lit (.bool false)], args := [] }
  | _ => none }
def WaitsNamesWrongFalsely : Prop := waitsNamesRow.holds Try.pinned (OpenSpec.ofChange waitsNamesWrong)

/-- 'cloakroomlaw13.WaitsEnds': WHATEVER THE INPUT: true; the input reads as it did. -/
def waitsEndsSpec : ChangeSpec := { name := "waitsEnds", fn := fun _ => fun
  | [d] => { results := [.lit (.bool true)], args := [d] }
  | _ => none }
def waitsEndsRow : OpenClaim := { program := "ytlpimkmkcfbddaa", sum := "73cdee293007afb3af78325e8fdcc8fde90716a90c33be1b2806a8ee55d777e2", func := "cloakroom/cloakroomlaw13.WaitsEnds", spec := "waitsEnds", unfollowed := true, recurses := true, plainKeys := false, apart := false }
def WaitsEndsSaid : Prop := waitsEndsRow.holds Try.pinned (OpenSpec.ofChange waitsEndsSpec)

/-- ITS FALSE NEIGHBOUR: 'it returns false'. Refute it at one input. -/
def waitsEndsWrong : ChangeSpec := { name := "waitsEnds", fn := fun _ => fun
  | [d] => { results := [.lit (.bool false)], args := [d] }
  | _ => none }
def WaitsEndsWrongFalsely : Prop := waitsEndsRow.holds Try.pinned (OpenSpec.ofChange waitsEndsWrong)

/-- 'cloakroomlaw13.WaitsMore': WHATEVER THE INPUT: true; the input reads as it did. -/
def waitsMoreSpec : ChangeSpec := { name := "waitsMore", fn := fun _ => fun
  | [d1, d2, d3] => { results := [.lit (.bool true)], args := [d1, d2, d3] }
  | _ => none }
def waitsMoreRow : OpenClaim := { program := "ytlpimkmkcfbddaa", sum := "73cdee293007afb3af78325e8fdcc8fde90716a90c33be1b2806a8ee55d777e2", func := "cloakroom/cloakroomlaw13.WaitsMore", spec := "waitsMore", unfollowed := true, recurses := true, plainKeys := false, apart := false }
def WaitsMoreSaid : Prop := waitsMoreRow.holds Try.pinned (OpenSpec.ofChange waitsMoreSpec)

/-- ITS FALSE NEIGHBOUR: 'it returns false'. Refute it at one input. -/
def waitsMoreWrong : ChangeSpec := { name := "waitsMore", fn := fun _ => fun
  | [d1, d2, d3] => { results := [.lit (.bool false)], args := [d1, d2, d3] }
  | _ => none }
def WaitsMoreWrongFalsely : Prop := waitsMoreRow.holds Try.pinned (OpenSpec.ofChange waitsMoreWrong)

/-- 'cloakroomlaw13.WaitsRings': WHATEVER THE INPUT: true; the input reads as it did. -/
def waitsRingsSpec : ChangeSpec := { name := "waitsRings", fn := fun _ => fun
  | [d1, d2] => { results := [.lit (.bool true)], args := [d1, d2] }
  | _ => none }
def waitsRingsRow : OpenClaim := { program := "ytlpimkmkcfbddaa", sum := "73cdee293007afb3af78325e8fdcc8fde90716a90c33be1b2806a8ee55d777e2", func := "cloakroom/cloakroomlaw13.WaitsRings", spec := "waitsRings", unfollowed := true, recurses := true, plainKeys := false, apart := false }
def WaitsRingsSaid : Prop := waitsRingsRow.holds Try.pinned (OpenSpec.ofChange waitsRingsSpec)

/-- ITS FALSE NEIGHBOUR: 'it returns false'. Refute it at one input. -/
def waitsRingsWrong : ChangeSpec := { name := "waitsRings", fn := fun _ => fun
  | [d1, d2] => { results := [.lit (.bool false)], args := [d1, d2] }
  | _ => none }
def WaitsRingsWrongFalsely : Prop := waitsRingsRow.holds Try.pinned (OpenSpec.ofChange waitsRingsWrong)

/-- 'cloakroomlaw13.WaitsTrees': WHATEVER THE INPUT: true; the input reads as it did. -/
def waitsTreesSpec : ChangeSpec := { name := "waitsTrees", fn := fun _ => fun
  | [d] => { results := [.lit (.bool true)], args := [d] }
  | _ => none }
def waitsTreesRow : OpenClaim := { program := "ytlpimkmkcfbddaa", sum := "73cdee293007afb3af78325e8fdcc8fde90716a90c33be1b2806a8ee55d777e2", func := "cloakroom/cloakroomlaw13.WaitsTrees", spec := "waitsTrees", unfollowed := true, recurses := true, plainKeys := false, apart := false }
def WaitsTreesSaid : Prop := waitsTreesRow.holds Try.pinned (OpenSpec.ofChange waitsTreesSpec)

/-- ITS FALSE NEIGHBOUR: 'it returns false'. Refute it at one input. -/
def waitsTreesWrong : ChangeSpec := { name := "waitsTrees", fn := fun _ => fun
  | [d] => { results := [.lit (.bool false)], args := [d] }
  | _ => none }
def WaitsTreesWrongFalsely : Prop := waitsTreesRow.holds Try.pinned (OpenSpec.ofChange waitsTreesWrong)

/-- 'cloakroomlaw14.QueueNames': WHATEVER THE INPUT: true; the input reads as it did. -/
def queueNamesSpec : ChangeSpec := { name := "queueNames", fn := fun _ => fun
  | [] => { results := [.lit (.bool true)], args := [] }
  | _ => none }
def queueNamesRow : OpenClaim := { program := "ytlpimkmkcfbddaa", sum := "73cdee293007afb3af78325e8fdcc8fde90716a90c33be1b2806a8ee55d777e2", func := "cloakroom/cloakroomlaw14.QueueNames", spec := "queueNames", unfollowed := true, recurses := true, plainKeys := false, apart := false }
def QueueNamesSaid : Prop := queueNamesRow.holds Try.pinned (OpenSpec.ofChange queueNamesSpec)

/-- ITS FALSE NEIGHBOUR: 'it returns false'. Refute it at one input. -/
def queueNamesWrong : ChangeSpec := { name := "queueNames", fn := fun _ => fun
  | [] => { results := [.lit (.bool false)], args := [] }
  | _ => none }
def QueueNamesWrongFalsely : Prop := queueNamesRow.holds Try.pinned (OpenSpec.ofChange queueNamesWrong)

/-- 'cloakroomlaw14.QueueFair': WHATEVER THE INPUT: true; the input reads as it did. -/
def queueFairSpec : ChangeSpec := { name := "queueFair", fn := fun _ => fun
  | [d] => { results := [.lit (.bool true)], args := [d] }
  | _ => none }
def queueFairRow : OpenClaim := { program := "ytlpimkmkcfbddaa", sum := "73cdee293007afb3af78325e8fdcc8fde90716a90c33be1b2806a8ee55d777e2", func := "cloakroom/cloakroomlaw14.QueueFair", spec := "queueFair", unfollowed := true, recurses := true, plainKeys := false, apart := false }
def QueueFairSaid : Prop := queueFairRow.holds Try.pinned (OpenSpec.ofChange queueFairSpec)

/-- ITS FALSE NEIGHBOUR: 'it returns false'. Refute it at one input. -/
def queueFairWrong : ChangeSpec := { name := "queueFair", fn := fun _ => fun
  | [d] => { results := [.lit (.bool false)], args := [d] }
  | _ => none }
def QueueFairWrongFalsely : Prop := queueFairRow.holds Try.pinned (OpenSpec.ofChange queueFairWrong)

/-- 'cloakroomlaw14.QueueOne': WHATEVER THE INPUT: true; the input reads as it did. -/
def queueOneSpec : ChangeSpec := { name := "queueOne", fn := fun _ => fun
  | [d1, d2] => { results := [.lit (.bool true)], args := [d1, d2] }
  | _ => none }
def queueOneRow : OpenClaim := { program := "ytlpimkmkcfbddaa", sum := "73cdee293007afb3af78325e8fdcc8fde90716a90c33be1b2806a8ee55d777e2", func := "cloakroom/cloakroomlaw14.QueueOne", spec := "queueOne", unfollowed := true, recurses := true, plainKeys := false, apart := false }
def QueueOneSaid : Prop := queueOneRow.holds Try.pinned (OpenSpec.ofChange queueOneSpec)

/-- ITS FALSE NEIGHBOUR: 'it returns false'. Refute it at one input. -/
def queueOneWrong : ChangeSpec := { name := "queueOne", fn := fun _ => fun
  | [d1, d2] => { results := [.lit (.bool false)], args := [d1, d2] }
  | _ => none }
def QueueOneWrongFalsely : Prop := queueOneRow.holds Try.pinned (OpenSpec.ofChange queueOneWrong)

/-- 'cloakroomlaw14.QueueRuns': WHATEVER THE INPUT: true; the input reads as it did. -/
def queueRunsSpec : ChangeSpec := { name := "queueRuns", fn := fun _ => fun
  | [d1, d2] => { results := [.lit (.bool true)], args := [d1, d2] }
  | _ => none }
def queueRunsRow : OpenClaim := { program := "ytlpimkmkcfbddaa", sum := "73cdee293007afb3af78325e8fdcc8fde90716a90c33be1b2806a8ee55d777e2", func := "cloakroom/cloakroomlaw14.QueueRuns", spec := "queueRuns", unfollowed := true, recurses := true, plainKeys := false, apart := false }
def QueueRunsSaid : Prop := queueRunsRow.holds Try.pinned (OpenSpec.ofChange queueRunsSpec)

/-- ITS FALSE NEIGHBOUR: 'it returns false'. Refute it at one input. -/
def queueRunsWrong : ChangeSpec := { name := "queueRuns", fn := fun _ => fun
  | [d1, d2] => { results := [.lit (.bool false)], args := [d1, d2] }
  | _ => none }
def QueueRunsWrongFalsely : Prop := queueRunsRow.holds Try.pinned (OpenSpec.ofChange queueRunsWrong)

/-- 'cloakroomlaw14.QueueCalls': WHATEVER THE INPUT: true; the input reads as it did. -/
def queueCallsSpec : ChangeSpec := { name := "queueCalls", fn := fun _ => fun
  | [d1, d2, d3] => { results := [.lit (.bool true)], args := [d1, d2, d3] }
  | _ => none }
def queueCallsRow : OpenClaim := { program := "ytlpimkmkcfbddaa", sum := "73cdee293007afb3af78325e8fdcc8fde90716a90c33be1b2806a8ee55d777e2", func := "cloakroom/cloakroomlaw14.QueueCalls", spec := "queueCalls", unfollowed := true, recurses := true, plainKeys := false, apart := false }
def QueueCallsSaid : Prop := queueCallsRow.holds Try.pinned (OpenSpec.ofChange queueCallsSpec)

/-- ITS FALSE NEIGHBOUR: 'it returns false'. Refute it at one input. -/
def queueCallsWrong : ChangeSpec := { name := "queueCalls", fn := fun _ => fun
  | [d1, d2, d3] => { results := [.lit (.bool false)], args := [d1, d2, d3] }
  | _ => none }
def QueueCallsWrongFalsely : Prop := queueCallsRow.holds Try.pinned (OpenSpec.ofChange queueCallsWrong)

/-- 'cloakroomlaw15.DeskReads': WHATEVER THE INPUT: true; the input reads as it did. -/
def deskReadsSpec : ChangeSpec := { name := "deskReads", fn := fun _ => fun
  | [d] => { results := [.lit (.bool true)], args := [d] }
  | _ => none }
def deskReadsRow : OpenClaim := { program := "ytlpimkmkcfbddaa", sum := "73cdee293007afb3af78325e8fdcc8fde90716a90c33be1b2806a8ee55d777e2", func := "cloakroom/cloakroomlaw15.DeskReads", spec := "deskReads", inPlace := ["math.Float64bits"], unfollowed := true, recurses := true, plainKeys := false, apart := false }
def DeskReadsSaid : Prop := deskReadsRow.holds Try.pinned (OpenSpec.ofChange deskReadsSpec)

/-- ITS FALSE NEIGHBOUR: 'it returns false'. Refute it at one input. -/
def deskReadsWrong : ChangeSpec := { name := "deskReads", fn := fun _ => fun
  | [d] => { results := [.lit (.bool false)], args := [d] }
  | _ => none }
def DeskReadsWrongFalsely : Prop := deskReadsRow.holds Try.pinned (OpenSpec.ofChange deskReadsWrong)

/-- 'cloakroomlaw15.DeskNames': WHATEVER THE INPUT: true; the input reads as it did. -/
def deskNamesSpec : ChangeSpec := { name := "deskNames", fn := fun _ => fun
  | [] => { results := [.lit (.bool true)], args := [] }
  | _ => none }
def deskNamesRow : OpenClaim := { program := "ytlpimkmkcfbddaa", sum := "73cdee293007afb3af78325e8fdcc8fde90716a90c33be1b2806a8ee55d777e2", func := "cloakroom/cloakroomlaw15.DeskNames", spec := "deskNames", unfollowed := true, recurses := true, plainKeys := false, apart := false }
def DeskNamesSaid : Prop := deskNamesRow.holds Try.pinned (OpenSpec.ofChange deskNamesSpec)

/-- ITS FALSE NEIGHBOUR: 'it returns false'. Refute it at one input. -/
def deskNamesWrong : ChangeSpec := { name := "deskNames", fn := fun _ => fun
  | [] => { results := [.lit (.bool false)], args := [] }
  | _ => none }
def DeskNamesWrongFalsely : Prop := deskNamesRow.holds Try.pinned (OpenSpec.ofChange deskNamesWrong)

/- THE SECOND FORM. 'bulk': how many values and letters a reading holds, each counted each time it is reached (what is shared counts as often as it is met; a slice's spare places count too). A statement '..UptoSaid' is the law's where the arguments, and the package variables that the reading takes, are together of bulk at most 1048576: NARROWER than '..Said'. Prove '..Said' where nothing that the law and all that it calls make is longer than what came in: it says more and counts as full. Else prove '..UptoSaid'. A law counts once. -/
mutual
def uptoBulk {H : Type} : DataW H → Nat
  | .lit (.string bytes) => bytes.length + 1
  | .lit _ => 1
  | .nil => 1
  | .ptr d => uptoBulk d + 1
  | .slice elems spare => uptoBulkAll elems + uptoBulkAll spare + 1
  | .agg parts => uptoBulkAll parts + 1
  | .iface _ d => uptoBulk d + 1
  | .map entries => uptoBulkEntries entries + 1
  | .held _ => 1
def uptoBulkAll {H : Type} : List (DataW H) → Nat
  | [] => 0
  | d :: r => uptoBulk d + uptoBulkAll r
def uptoBulkEntries {H : Type} : List (Lit × DataW H) → Nat
  | [] => 0
  | x :: r => uptoBulkEntry x + uptoBulkEntries r
def uptoBulkEntry {H : Type} : Lit × DataW H → Nat
  | (.string bytes, d) => bytes.length + uptoBulk d + 1
  | (_, d) => uptoBulk d + 1
 end
def uptoSmall : (H : Type) → List (DataW H) → Bool := fun _ ds => decide (uptoBulkAll ds ≤ 1048576)
def OpenSpec.upto (s : _root_.Go.ChangeSpec) : _root_.Go.OpenSpec := { _root_.Go.OpenSpec.ofChange s with cond := some uptoSmall }

/-- 'cloakroomlaw12.TableAlone', WHERE WHAT IT READS IS OF BULK AT MOST 1048576: true; the input reads as it did. -/
def tableAloneUptoRow : OpenClaim := { program := "ytlpimkmkcfbddaa", sum := "73cdee293007afb3af78325e8fdcc8fde90716a90c33be1b2806a8ee55d777e2", func := "cloakroom/cloakroomlaw12.TableAlone", spec := "tableAlone", plainKeys := false, apart := false, narrowed := true }
def TableAloneUptoSaid : Prop := tableAloneUptoRow.holds Try.pinned (OpenSpec.upto tableAloneSpec)

/-- 'cloakroomlaw12.TableNames', WHERE WHAT IT READS IS OF BULK AT MOST 1048576: true; the input reads as it did. -/
def tableNamesUptoRow : OpenClaim := { program := "ytlpimkmkcfbddaa", sum := "73cdee293007afb3af78325e8fdcc8fde90716a90c33be1b2806a8ee55d777e2", func := "cloakroom/cloakroomlaw12.TableNames", spec := "tableNames", plainKeys := false, apart := false, narrowed := true }
def TableNamesUptoSaid : Prop := tableNamesUptoRow.holds Try.pinned (OpenSpec.upto tableNamesSpec)

/-- 'cloakroomlaw12.TableGives', WHERE WHAT IT READS IS OF BULK AT MOST 1048576: true; the input reads as it did. -/
def tableGivesUptoRow : OpenClaim := { program := "ytlpimkmkcfbddaa", sum := "73cdee293007afb3af78325e8fdcc8fde90716a90c33be1b2806a8ee55d777e2", func := "cloakroom/cloakroomlaw12.TableGives", spec := "tableGives", plainKeys := false, apart := false, narrowed := true }
def TableGivesUptoSaid : Prop := tableGivesUptoRow.holds Try.pinned (OpenSpec.upto tableGivesSpec)

/-- 'cloakroomlaw12.TableClears', WHERE WHAT IT READS IS OF BULK AT MOST 1048576: true; the input reads as it did. -/
def tableClearsUptoRow : OpenClaim := { program := "ytlpimkmkcfbddaa", sum := "73cdee293007afb3af78325e8fdcc8fde90716a90c33be1b2806a8ee55d777e2", func := "cloakroom/cloakroomlaw12.TableClears", spec := "tableClears", plainKeys := false, apart := false, narrowed := true }
def TableClearsUptoSaid : Prop := tableClearsUptoRow.holds Try.pinned (OpenSpec.upto tableClearsSpec)

/-- 'cloakroomlaw12.TableRuns', WHERE WHAT IT READS IS OF BULK AT MOST 1048576: true; the input reads as it did. -/
def tableRunsUptoRow : OpenClaim := { program := "ytlpimkmkcfbddaa", sum := "73cdee293007afb3af78325e8fdcc8fde90716a90c33be1b2806a8ee55d777e2", func := "cloakroom/cloakroomlaw12.TableRuns", spec := "tableRuns", plainKeys := false, apart := false, narrowed := true }
def TableRunsUptoSaid : Prop := tableRunsUptoRow.holds Try.pinned (OpenSpec.upto tableRunsSpec)

/-- 'cloakroomlaw13.WaitsNames', WHERE WHAT IT READS IS OF BULK AT MOST 1048576: true; the input reads as it did. -/
def waitsNamesUptoRow : OpenClaim := { program := "ytlpimkmkcfbddaa", sum := "73cdee293007afb3af78325e8fdcc8fde90716a90c33be1b2806a8ee55d777e2", func := "cloakroom/cloakroomlaw13.WaitsNames", spec := "waitsNames", unfollowed := true, recurses := true, plainKeys := false, apart := false, narrowed := true }
def WaitsNamesUptoSaid : Prop := waitsNamesUptoRow.holds Try.pinned (OpenSpec.upto waitsNamesSpec)

/-- 'cloakroomlaw13.WaitsEnds', WHERE WHAT IT READS IS OF BULK AT MOST 1048576: true; the input reads as it did. -/
def waitsEndsUptoRow : OpenClaim := { program := "ytlpimkmkcfbddaa", sum := "73cdee293007afb3af78325e8fdcc8fde90716a90c33be1b2806a8ee55d777e2", func := "cloakroom/cloakroomlaw13.WaitsEnds", spec := "waitsEnds", unfollowed := true, recurses := true, plainKeys := false, apart := false, narrowed := true }
def WaitsEndsUptoSaid : Prop := waitsEndsUptoRow.holds Try.pinned (OpenSpec.upto waitsEndsSpec)

/-- 'cloakroomlaw13.WaitsMore', WHERE WHAT IT READS IS OF BULK AT MOST 1048576: true; the input reads as it did. -/
def waitsMoreUptoRow : OpenClaim := { program := "ytlpimkmkcfbddaa", sum := "73cdee293007afb3af78325e8fdcc8fde90716a90c33be1b2806a8ee55d777e2", func := "cloakroom/cloakroomlaw13.WaitsMore", spec := "waitsMore", unfollowed := true, recurses := true, plainKeys := false, apart := false, narrowed := true }
def WaitsMoreUptoSaid : Prop := waitsMoreUptoRow.holds Try.pinned (OpenSpec.upto waitsMoreSpec)

/-- 'cloakroomlaw13.WaitsRings', WHERE WHAT IT READS IS OF BULK AT MOST 1048576: true; the input reads as it did. -/
def waitsRingsUptoRow : OpenClaim := { program := "ytlpimkmkcfbddaa", sum := "73cdee293007afb3af78325e8fdcc8fde90716a90c33be1b2806a8ee55d777e2", func := "cloakroom/cloakroomlaw13.WaitsRings", spec := "waitsRings", unfollowed := true, recurses := true, plainKeys := false, apart := false, narrowed := true }
def WaitsRingsUptoSaid : Prop := waitsRingsUptoRow.holds Try.pinned (OpenSpec.upto waitsRingsSpec)

/-- 'cloakroomlaw13.WaitsTrees', WHERE WHAT IT READS IS OF BULK AT MOST 1048576: true; the input reads as it did. -/
def waitsTreesUptoRow : OpenClaim := { program := "ytlpimkmkcfbddaa", sum := "73cdee293007afb3af78325e8fdcc8fde90716a90c33be1b2806a8ee55d777e2", func := "cloakroom/cloakroomlaw13.WaitsTrees", spec := "waitsTrees", unfollowed := true, recurses := true, plainKeys := false, apart := false, narrowed := true }
def WaitsTreesUptoSaid : Prop := waitsTreesUptoRow.holds Try.pinned (OpenSpec.upto waitsTreesSpec)

/-- 'cloakroomlaw14.QueueNames', WHERE WHAT IT READS IS OF BULK AT MOST 1048576: true; the input reads as it did. -/
def queueNamesUptoRow : OpenClaim := { program := "ytlpimkmkcfbddaa", sum := "73cdee293007afb3af78325e8fdcc8fde90716a90c33be1b2806a8ee55d777e2", func := "cloakroom/cloakroomlaw14.QueueNames", spec := "queueNames", unfollowed := true, recurses := true, plainKeys := false, apart := false, narrowed := true }
def QueueNamesUptoSaid : Prop := queueNamesUptoRow.holds Try.pinned (OpenSpec.upto queueNamesSpec)

/-- 'cloakroomlaw14.QueueFair', WHERE WHAT IT READS IS OF BULK AT MOST 1048576: true; the input reads as it did. -/
def queueFairUptoRow : OpenClaim := { program := "ytlpimkmkcfbddaa", sum := "73cdee293007afb3af78325e8fdcc8fde90716a90c33be1b2806a8ee55d777e2", func := "cloakroom/cloakroomlaw14.QueueFair", spec := "queueFair", unfollowed := true, recurses := true, plainKeys := false, apart := false, narrowed := true }
def QueueFairUptoSaid : Prop := queueFairUptoRow.holds Try.pinned (OpenSpec.upto queueFairSpec)

/-- 'cloakroomlaw14.QueueOne', WHERE WHAT IT READS IS OF BULK AT MOST 1048576: true; the input reads as it did. -/
def queueOneUptoRow : OpenClaim := { program := "ytlpimkmkcfbddaa", sum := "73cdee293007afb3af78325e8fdcc8fde90716a90c33be1b2806a8ee55d777e2", func := "cloakroom/cloakroomlaw14.QueueOne", spec := "queueOne", unfollowed := true, recurses := true, plainKeys := false, apart := false, narrowed := true }
def QueueOneUptoSaid : Prop := queueOneUptoRow.holds Try.pinned (OpenSpec.upto queueOneSpec)

/-- 'cloakroomlaw14.QueueRuns', WHERE WHAT IT READS IS OF BULK AT MOST 1048576: true; the input reads as it did. -/
def queueRunsUptoRow : OpenClaim := { program := "ytlpimkmkcfbddaa", sum := "73cdee293007afb3af78325e8fdcc8fde90716a90c33be1b2806a8ee55d777e2", func := "cloakroom/cloakroomlaw14.QueueRuns", spec := "queueRuns", unfollowed := true, recurses := true, plainKeys := false, apart := false, narrowed := true }
def QueueRunsUptoSaid : Prop := queueRunsUptoRow.holds Try.pinned (OpenSpec.upto queueRunsSpec)

/-- 'cloakroomlaw14.QueueCalls', WHERE WHAT IT READS IS OF BULK AT MOST 1048576: true; the input reads as it did. -/
def queueCallsUptoRow : OpenClaim := { program := "ytlpimkmkcfbddaa", sum := "73cdee293007afb3af78325e8fdcc8fde90716a90c33be1b2806a8ee55d777e2", func := "cloakroom/cloakroomlaw14.QueueCalls", spec := "queueCalls", unfollowed := true, recurses := true, plainKeys := false, apart := false, narrowed := true }
def QueueCallsUptoSaid : Prop := queueCallsUptoRow.holds Try.pinned (OpenSpec.upto queueCallsSpec)

/-- 'cloakroomlaw15.DeskReads', WHERE WHAT IT READS IS OF BULK AT MOST 1048576: true; the input reads as it did. -/
def deskReadsUptoRow : OpenClaim := { program := "ytlpimkmkcfbddaa", sum := "73cdee293007afb3af78325e8fdcc8fde90716a90c33be1b2806a8ee55d777e2", func := "cloakroom/cloakroomlaw15.DeskReads", spec := "deskReads", inPlace := ["math.Float64bits"], unfollowed := true, recurses := true, plainKeys := false, apart := false, narrowed := true }
def DeskReadsUptoSaid : Prop := deskReadsUptoRow.holds Try.pinned (OpenSpec.upto deskReadsSpec)

/-- 'cloakroomlaw15.DeskNames', WHERE WHAT IT READS IS OF BULK AT MOST 1048576: true; the input reads as it did. -/
def deskNamesUptoRow : OpenClaim := { program := "ytlpimkmkcfbddaa", sum := "73cdee293007afb3af78325e8fdcc8fde90716a90c33be1b2806a8ee55d777e2", func := "cloakroom/cloakroomlaw15.DeskNames", spec := "deskNames", unfollowed := true, recurses := true, plainKeys := false, apart := false, narrowed := true }
def DeskNamesUptoSaid : Prop := deskNamesUptoRow.holds Try.pinned (OpenSpec.upto deskNamesSpec)

end Rows
end Go.Proofs.Ytlpimkmkcfbddaa
