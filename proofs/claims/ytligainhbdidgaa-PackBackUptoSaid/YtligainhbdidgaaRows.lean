/-
  No cell of these rows narrows 'for every input' (looked for: loops, veiled, ifaces, maps, wideKeys, modest, calm, conditions, laid).
  DERIVED. THE GIVEN ROWS OF THIS SEAT. 20 by the template 'for every input the law returns true; each argument reads behind the call as it read before'; 0 by the template 'total and deterministic' (their statements: YtligainhbdidgaaTotals.lean).
  GIVEN WITH THE SEED: the statements are not yours to turn. If you find one false, say at which input.
  Laid BY PROGRAM, IN A SANDBOX (cutbox-rows.mjs): the forced cells as the released guide's own fill.sh prints them over the translation 892fcb77053f7338… (all of the seat's roots in one cut). By AI agents, Wed Nov 11 2026. No macro, syntax, notation, axiom, sorry.
-/
import Derived.Test.YtligainhbdidgaaChecked
import GoSem.Claim
import GoSem.ClaimJoined
import GoSem.ClaimMapViews
import Derived.JoinedTies
import Derived.KernelRfl
namespace Go.Proofs.Ytligainhbdidgaa
/- THE CELL 'sum', in the pinned program and in every row, IS THE sha256 OF THE DUMP (.gsa) THAT YtligainhbdidgaaProg.lean LOADS. Nothing in Lean hashes anything: it is a label: what it is worth is what the hold of that sum in a sandbox is worth. -/
noncomputable def Try.pinned : Pinned := { name := "ytligainhbdidgaa", sum := "892fcb77053f73383bf1da73ad63237118c7e67f3a662dcc93b2cf2e4ffb0bbc", checked := Try.checked }
namespace Rows
def none {H : Type} : Left H := { results := [], args := [] }

/-- 'concordlaw7.DepsRuns': WHATEVER THE INPUT: true; the input reads as it did. -/
def depsRunsSpec : ChangeSpec := { name := "depsRuns", fn := fun _ => fun
  | [] => { results := [.lit (.bool true)], args := [] }
  | _ => none }
def depsRunsRow : OpenClaim := { program := "ytligainhbdidgaa", sum := "892fcb77053f73383bf1da73ad63237118c7e67f3a662dcc93b2cf2e4ffb0bbc", func := "concord/concordlaw7.DepsRuns", spec := "depsRuns", plainKeys := false, apart := false }
def DepsRunsSaid : Prop := depsRunsRow.holds Try.pinned (OpenSpec.ofChange depsRunsSpec)

/-- ITS FALSE NEIGHBOUR: 'it returns false'. Refute it at one input. -/
def depsRunsWrong : ChangeSpec := { name := "depsRuns", fn := fun _ => fun
  | [] => { results := [.lit (.bool false)], args := [] }
  | _ => none }
def DepsRunsWrongFalsely : Prop := depsRunsRow.holds Try.pinned (OpenSpec.ofChange depsRunsWrong)

/-- 'concordlaw7.DepsReach': WHATEVER THE INPUT: true; the input reads as it did. -/
def depsReachSpec : ChangeSpec := { name := "depsReach", fn := fun _ => fun
  | [d1, d2] => { results := [.lit (.bool true)], args := [d1, d2] }
  | _ => none }
def depsReachRow : OpenClaim := { program := "ytligainhbdidgaa", sum := "892fcb77053f73383bf1da73ad63237118c7e67f3a662dcc93b2cf2e4ffb0bbc", func := "concord/concordlaw7.DepsReach", spec := "depsReach", plainKeys := false, apart := false }
def DepsReachSaid : Prop := depsReachRow.holds Try.pinned (OpenSpec.ofChange depsReachSpec)

/-- ITS FALSE NEIGHBOUR: 'it returns false'. Refute it at one input. -/
def depsReachWrong : ChangeSpec := { name := "depsReach", fn := fun _ => fun
  | [d1, d2] => { results := [.lit (.bool false)], args := [d1, d2] }
  | _ => none }
def DepsReachWrongFalsely : Prop := depsReachRow.holds Try.pinned (OpenSpec.ofChange depsReachWrong)

/-- 'concordlaw7.DepsMost': WHATEVER THE INPUT: true; the input reads as it did. -/
def depsMostSpec : ChangeSpec := { name := "depsMost", fn := fun _ => fun
  | [d1, d2] => { results := [.lit (.bool true)], args := [d1, d2] }
  | _ => none }
def depsMostRow : OpenClaim := { program := "ytligainhbdidgaa", sum := "892fcb77053f73383bf1da73ad63237118c7e67f3a662dcc93b2cf2e4ffb0bbc", func := "concord/concordlaw7.DepsMost", spec := "depsMost", plainKeys := false, apart := false }
def DepsMostSaid : Prop := depsMostRow.holds Try.pinned (OpenSpec.ofChange depsMostSpec)

/-- ITS FALSE NEIGHBOUR: 'it returns false'. Refute it at one input. -/
def depsMostWrong : ChangeSpec := { name := "depsMost", fn := fun _ => fun
  | [d1, d2] => { results := [.lit (.bool false)], args := [d1, d2] }
  | _ => none }
def DepsMostWrongFalsely : Prop := depsMostRow.holds Try.pinned (OpenSpec.ofChange depsMostWrong)

/-- 'concordlaw7.DepsJoins': WHATEVER THE INPUT: true; the input reads as it did. -/
def depsJoinsSpec : ChangeSpec := { name := "depsJoins", fn := fun _ => fun
  | [d1, d2, d3] => { results := [.lit (.bool true)], args := [d1, d2, d3] }
  | _ => none }
def depsJoinsRow : OpenClaim := { program := "ytligainhbdidgaa", sum := "892fcb77053f73383bf1da73ad63237118c7e67f3a662dcc93b2cf2e4ffb0bbc", func := "concord/concordlaw7.DepsJoins", spec := "depsJoins", plainKeys := false, apart := false }
def DepsJoinsSaid : Prop := depsJoinsRow.holds Try.pinned (OpenSpec.ofChange depsJoinsSpec)

/-- ITS FALSE NEIGHBOUR: 'it returns false'. Refute it at one input. -/
def depsJoinsWrong : ChangeSpec := { name := "depsJoins", fn := fun _ => fun
  | [d1, d2, d3] => { results := [.lit (.bool false)], args := [d1, d2, d3] }
  | _ => none }
def DepsJoinsWrongFalsely : Prop := depsJoinsRow.holds Try.pinned (OpenSpec.ofChange depsJoinsWrong)

/-- 'concordlaw7.DepsCovers': WHATEVER THE INPUT: true; the input reads as it did. -/
def depsCoversSpec : ChangeSpec := { name := "depsCovers", fn := fun _ => fun
  | [d1, d2, d3, d4] => { results := [.lit (.bool true)], args := [d1, d2, d3, d4] }
  | _ => none }
def depsCoversRow : OpenClaim := { program := "ytligainhbdidgaa", sum := "892fcb77053f73383bf1da73ad63237118c7e67f3a662dcc93b2cf2e4ffb0bbc", func := "concord/concordlaw7.DepsCovers", spec := "depsCovers", plainKeys := false, apart := false }
def DepsCoversSaid : Prop := depsCoversRow.holds Try.pinned (OpenSpec.ofChange depsCoversSpec)

/-- ITS FALSE NEIGHBOUR: 'it returns false'. Refute it at one input. -/
def depsCoversWrong : ChangeSpec := { name := "depsCovers", fn := fun _ => fun
  | [d1, d2, d3, d4] => { results := [.lit (.bool false)], args := [d1, d2, d3, d4] }
  | _ => none }
def DepsCoversWrongFalsely : Prop := depsCoversRow.holds Try.pinned (OpenSpec.ofChange depsCoversWrong)

/-- 'concordlaw7.DepsTells': WHATEVER THE INPUT: true; the input reads as it did. -/
def depsTellsSpec : ChangeSpec := { name := "depsTells", fn := fun _ => fun
  | [d1, d2, d3, d4] => { results := [.lit (.bool true)], args := [d1, d2, d3, d4] }
  | _ => none }
def depsTellsRow : OpenClaim := { program := "ytligainhbdidgaa", sum := "892fcb77053f73383bf1da73ad63237118c7e67f3a662dcc93b2cf2e4ffb0bbc", func := "concord/concordlaw7.DepsTells", spec := "depsTells", plainKeys := false, apart := false }
def DepsTellsSaid : Prop := depsTellsRow.holds Try.pinned (OpenSpec.ofChange depsTellsSpec)

/-- ITS FALSE NEIGHBOUR: 'it returns false'. Refute it at one input. -/
def depsTellsWrong : ChangeSpec := { name := "depsTells", fn := fun _ => fun
  | [d1, d2, d3, d4] => { results := [.lit (.bool false)], args := [d1, d2, d3, d4] }
  | _ => none }
def DepsTellsWrongFalsely : Prop := depsTellsRow.holds Try.pinned (OpenSpec.ofChange depsTellsWrong)

/-- 'concordlaw5.CmdRuns': WHATEVER THE INPUT: true; the input reads as it did. -/
def cmdRunsSpec : ChangeSpec := { name := "cmdRuns", fn := fun _ => fun
  | [] => { results := [.lit (.bool true)], args := [] }
  | _ => none }
def cmdRunsRow : OpenClaim := { program := "ytligainhbdidgaa", sum := "892fcb77053f73383bf1da73ad63237118c7e67f3a662dcc93b2cf2e4ffb0bbc", func := "concord/concordlaw5.CmdRuns", spec := "cmdRuns", plainKeys := false, apart := false }
def CmdRunsSaid : Prop := cmdRunsRow.holds Try.pinned (OpenSpec.ofChange cmdRunsSpec)

/-- ITS FALSE NEIGHBOUR: 'it returns false'. Refute it at one input. -/
def cmdRunsWrong : ChangeSpec := { name := "cmdRuns", fn := fun _ => fun
  | [] => { results := [.lit (.bool false)], args := [] }
  | _ => none }
def CmdRunsWrongFalsely : Prop := cmdRunsRow.holds Try.pinned (OpenSpec.ofChange cmdRunsWrong)

/-- 'concordlaw5.CmdTells': WHATEVER THE INPUT: true; the input reads as it did. -/
def cmdTellsSpec : ChangeSpec := { name := "cmdTells", fn := fun _ => fun
  | [d1, d2] => { results := [.lit (.bool true)], args := [d1, d2] }
  | _ => none }
def cmdTellsRow : OpenClaim := { program := "ytligainhbdidgaa", sum := "892fcb77053f73383bf1da73ad63237118c7e67f3a662dcc93b2cf2e4ffb0bbc", func := "concord/concordlaw5.CmdTells", spec := "cmdTells", plainKeys := false, apart := false }
def CmdTellsSaid : Prop := cmdTellsRow.holds Try.pinned (OpenSpec.ofChange cmdTellsSpec)

/-- ITS FALSE NEIGHBOUR: 'it returns false'. Refute it at one input. -/
def cmdTellsWrong : ChangeSpec := { name := "cmdTells", fn := fun _ => fun
  | [d1, d2] => { results := [.lit (.bool false)], args := [d1, d2] }
  | _ => none }
def CmdTellsWrongFalsely : Prop := cmdTellsRow.holds Try.pinned (OpenSpec.ofChange cmdTellsWrong)

/-- 'concordlaw5.CmdMirrors': WHATEVER THE INPUT: true; the input reads as it did. -/
def cmdMirrorsSpec : ChangeSpec := { name := "cmdMirrors", fn := fun _ => fun
  | [d1, d2, d3] => { results := [.lit (.bool true)], args := [d1, d2, d3] }
  | _ => none }
def cmdMirrorsRow : OpenClaim := { program := "ytligainhbdidgaa", sum := "892fcb77053f73383bf1da73ad63237118c7e67f3a662dcc93b2cf2e4ffb0bbc", func := "concord/concordlaw5.CmdMirrors", spec := "cmdMirrors", plainKeys := false, apart := false }
def CmdMirrorsSaid : Prop := cmdMirrorsRow.holds Try.pinned (OpenSpec.ofChange cmdMirrorsSpec)

/-- ITS FALSE NEIGHBOUR: 'it returns false'. Refute it at one input. -/
def cmdMirrorsWrong : ChangeSpec := { name := "cmdMirrors", fn := fun _ => fun
  | [d1, d2, d3] => { results := [.lit (.bool false)], args := [d1, d2, d3] }
  | _ => none }
def CmdMirrorsWrongFalsely : Prop := cmdMirrorsRow.holds Try.pinned (OpenSpec.ofChange cmdMirrorsWrong)

/-- 'concordlaw5.CmdSpans': WHATEVER THE INPUT: true; the input reads as it did. -/
def cmdSpansSpec : ChangeSpec := { name := "cmdSpans", fn := fun _ => fun
  | [d1, d2, d3, d4] => { results := [.lit (.bool true)], args := [d1, d2, d3, d4] }
  | _ => none }
def cmdSpansRow : OpenClaim := { program := "ytligainhbdidgaa", sum := "892fcb77053f73383bf1da73ad63237118c7e67f3a662dcc93b2cf2e4ffb0bbc", func := "concord/concordlaw5.CmdSpans", spec := "cmdSpans", plainKeys := false, apart := false }
def CmdSpansSaid : Prop := cmdSpansRow.holds Try.pinned (OpenSpec.ofChange cmdSpansSpec)

/-- ITS FALSE NEIGHBOUR: 'it returns false'. Refute it at one input. -/
def cmdSpansWrong : ChangeSpec := { name := "cmdSpans", fn := fun _ => fun
  | [d1, d2, d3, d4] => { results := [.lit (.bool false)], args := [d1, d2, d3, d4] }
  | _ => none }
def CmdSpansWrongFalsely : Prop := cmdSpansRow.holds Try.pinned (OpenSpec.ofChange cmdSpansWrong)

/-- 'concordlaw3.PackRuns': WHATEVER THE INPUT: true; the input reads as it did. -/
def packRunsSpec : ChangeSpec := { name := "packRuns", fn := fun _ => fun
  | [] => { results := [.lit (.bool true)], args := [] }
  | _ => none }
def packRunsRow : OpenClaim := { program := "ytligainhbdidgaa", sum := "892fcb77053f73383bf1da73ad63237118c7e67f3a662dcc93b2cf2e4ffb0bbc", func := "concord/concordlaw3.PackRuns", spec := "packRuns", plainKeys := false, apart := false }
def PackRunsSaid : Prop := packRunsRow.holds Try.pinned (OpenSpec.ofChange packRunsSpec)

/-- ITS FALSE NEIGHBOUR: 'it returns false'. Refute it at one input. -/
def packRunsWrong : ChangeSpec := { name := "packRuns", fn := fun _ => fun
  | [] => { results := [.lit (.bool false)], args := [] }
  | _ => none }
def PackRunsWrongFalsely : Prop := packRunsRow.holds Try.pinned (OpenSpec.ofChange packRunsWrong)

/-- 'concordlaw3.PackOrder': WHATEVER THE INPUT: true; the input reads as it did. -/
def packOrderSpec : ChangeSpec := { name := "packOrder", fn := fun _ => fun
  | [d1, d2] => { results := [.lit (.bool true)], args := [d1, d2] }
  | _ => none }
def packOrderRow : OpenClaim := { program := "ytligainhbdidgaa", sum := "892fcb77053f73383bf1da73ad63237118c7e67f3a662dcc93b2cf2e4ffb0bbc", func := "concord/concordlaw3.PackOrder", spec := "packOrder", plainKeys := false, apart := false }
def PackOrderSaid : Prop := packOrderRow.holds Try.pinned (OpenSpec.ofChange packOrderSpec)

/-- ITS FALSE NEIGHBOUR: 'it returns false'. Refute it at one input. -/
def packOrderWrong : ChangeSpec := { name := "packOrder", fn := fun _ => fun
  | [d1, d2] => { results := [.lit (.bool false)], args := [d1, d2] }
  | _ => none }
def PackOrderWrongFalsely : Prop := packOrderRow.holds Try.pinned (OpenSpec.ofChange packOrderWrong)

/-- 'concordlaw3.PackReads': WHATEVER THE INPUT: true; the input reads as it did. -/
def packReadsSpec : ChangeSpec := { name := "packReads", fn := fun _ => fun
  | [d1, d2] => { results := [.lit (.bool true)], args := [d1, d2] }
  | _ => none }
def packReadsRow : OpenClaim := { program := "ytligainhbdidgaa", sum := "892fcb77053f73383bf1da73ad63237118c7e67f3a662dcc93b2cf2e4ffb0bbc", func := "concord/concordlaw3.PackReads", spec := "packReads", plainKeys := false, apart := false }
def PackReadsSaid : Prop := packReadsRow.holds Try.pinned (OpenSpec.ofChange packReadsSpec)

/-- ITS FALSE NEIGHBOUR: 'it returns false'. Refute it at one input. -/
def packReadsWrong : ChangeSpec := { name := "packReads", fn := fun _ => fun
  | [d1, d2] => { results := [.lit (.bool false)], args := [d1, d2] }
  | _ => none }
def PackReadsWrongFalsely : Prop := packReadsRow.holds Try.pinned (OpenSpec.ofChange packReadsWrong)

/-- 'concordlaw3.PackOne': WHATEVER THE INPUT: true; the input reads as it did. -/
def packOneSpec : ChangeSpec := { name := "packOne", fn := fun _ => fun
  | [d1, d2] => { results := [.lit (.bool true)], args := [d1, d2] }
  | _ => none }
def packOneRow : OpenClaim := { program := "ytligainhbdidgaa", sum := "892fcb77053f73383bf1da73ad63237118c7e67f3a662dcc93b2cf2e4ffb0bbc", func := "concord/concordlaw3.PackOne", spec := "packOne", plainKeys := false, apart := false }
def PackOneSaid : Prop := packOneRow.holds Try.pinned (OpenSpec.ofChange packOneSpec)

/-- ITS FALSE NEIGHBOUR: 'it returns false'. Refute it at one input. -/
def packOneWrong : ChangeSpec := { name := "packOne", fn := fun _ => fun
  | [d1, d2] => { results := [.lit (.bool false)], args := [d1, d2] }
  | _ => none }
def PackOneWrongFalsely : Prop := packOneRow.holds Try.pinned (OpenSpec.ofChange packOneWrong)

/-- 'concordlaw3.PackStops': WHATEVER THE INPUT: true; the input reads as it did. -/
def packStopsSpec : ChangeSpec := { name := "packStops", fn := fun _ => fun
  | [d1, d2] => { results := [.lit (.bool true)], args := [d1, d2] }
  | _ => none }
def packStopsRow : OpenClaim := { program := "ytligainhbdidgaa", sum := "892fcb77053f73383bf1da73ad63237118c7e67f3a662dcc93b2cf2e4ffb0bbc", func := "concord/concordlaw3.PackStops", spec := "packStops", plainKeys := false, apart := false }
def PackStopsSaid : Prop := packStopsRow.holds Try.pinned (OpenSpec.ofChange packStopsSpec)

/-- ITS FALSE NEIGHBOUR: 'it returns false'. Refute it at one input. -/
def packStopsWrong : ChangeSpec := { name := "packStops", fn := fun _ => fun
  | [d1, d2] => { results := [.lit (.bool false)], args := [d1, d2] }
  | _ => none }
def PackStopsWrongFalsely : Prop := packStopsRow.holds Try.pinned (OpenSpec.ofChange packStopsWrong)

/-- 'concordlaw3.PackWrites': WHATEVER THE INPUT: true; the input reads as it did. -/
def packWritesSpec : ChangeSpec := { name := "packWrites", fn := fun _ => fun
  | [d1, d2] => { results := [.lit (.bool true)], args := [d1, d2] }
  | _ => none }
def packWritesRow : OpenClaim := { program := "ytligainhbdidgaa", sum := "892fcb77053f73383bf1da73ad63237118c7e67f3a662dcc93b2cf2e4ffb0bbc", func := "concord/concordlaw3.PackWrites", spec := "packWrites", plainKeys := false, apart := false }
def PackWritesSaid : Prop := packWritesRow.holds Try.pinned (OpenSpec.ofChange packWritesSpec)

/-- ITS FALSE NEIGHBOUR: 'it returns false'. Refute it at one input. -/
def packWritesWrong : ChangeSpec := { name := "packWrites", fn := fun _ => fun
  | [d1, d2] => { results := [.lit (.bool false)], args := [d1, d2] }
  | _ => none }
def PackWritesWrongFalsely : Prop := packWritesRow.holds Try.pinned (OpenSpec.ofChange packWritesWrong)

/-- 'concordlaw3.PackBack': WHATEVER THE INPUT: true; the input reads as it did. -/
def packBackSpec : ChangeSpec := { name := "packBack", fn := fun _ => fun
  | [d1, d2, d3] => { results := [.lit (.bool true)], args := [d1, d2, d3] }
  | _ => none }
def packBackRow : OpenClaim := { program := "ytligainhbdidgaa", sum := "892fcb77053f73383bf1da73ad63237118c7e67f3a662dcc93b2cf2e4ffb0bbc", func := "concord/concordlaw3.PackBack", spec := "packBack", unfollowed := true, recurses := true, plainKeys := false, apart := false }
def PackBackSaid : Prop := packBackRow.holds Try.pinned (OpenSpec.ofChange packBackSpec)

/-- ITS FALSE NEIGHBOUR: 'it returns false'. Refute it at one input. -/
def packBackWrong : ChangeSpec := { name := "packBack", fn := fun _ => fun
  | [d1, d2, d3] => { results := [.lit (.bool false)], args := [d1, d2, d3] }
  | _ => none }
def PackBackWrongFalsely : Prop := packBackRow.holds Try.pinned (OpenSpec.ofChange packBackWrong)

/-- 'concordlaw7.DepsBack': WHATEVER THE INPUT: true; the input reads as it did. -/
def depsBackSpec : ChangeSpec := { name := "depsBack", fn := fun _ => fun
  | [d1, d2] => { results := [.lit (.bool true)], args := [d1, d2] }
  | _ => none }
def depsBackRow : OpenClaim := { program := "ytligainhbdidgaa", sum := "892fcb77053f73383bf1da73ad63237118c7e67f3a662dcc93b2cf2e4ffb0bbc", func := "concord/concordlaw7.DepsBack", spec := "depsBack", plainKeys := false, apart := false }
def DepsBackSaid : Prop := depsBackRow.holds Try.pinned (OpenSpec.ofChange depsBackSpec)

/-- ITS FALSE NEIGHBOUR: 'it returns false'. Refute it at one input. -/
def depsBackWrong : ChangeSpec := { name := "depsBack", fn := fun _ => fun
  | [d1, d2] => { results := [.lit (.bool false)], args := [d1, d2] }
  | _ => none }
def DepsBackWrongFalsely : Prop := depsBackRow.holds Try.pinned (OpenSpec.ofChange depsBackWrong)

/-- 'concordlaw5.CmdReads': WHATEVER THE INPUT: true; the input reads as it did. -/
def cmdReadsSpec : ChangeSpec := { name := "cmdReads", fn := fun _ => fun
  | [d1, d2] => { results := [.lit (.bool true)], args := [d1, d2] }
  | _ => none }
def cmdReadsRow : OpenClaim := { program := "ytligainhbdidgaa", sum := "892fcb77053f73383bf1da73ad63237118c7e67f3a662dcc93b2cf2e4ffb0bbc", func := "concord/concordlaw5.CmdReads", spec := "cmdReads", plainKeys := false, apart := false }
def CmdReadsSaid : Prop := cmdReadsRow.holds Try.pinned (OpenSpec.ofChange cmdReadsSpec)

/-- ITS FALSE NEIGHBOUR: 'it returns false'. Refute it at one input. -/
def cmdReadsWrong : ChangeSpec := { name := "cmdReads", fn := fun _ => fun
  | [d1, d2] => { results := [.lit (.bool false)], args := [d1, d2] }
  | _ => none }
def CmdReadsWrongFalsely : Prop := cmdReadsRow.holds Try.pinned (OpenSpec.ofChange cmdReadsWrong)

/-- 'concordlaw5.CmdBack': WHATEVER THE INPUT: true; the input reads as it did. -/
def cmdBackSpec : ChangeSpec := { name := "cmdBack", fn := fun _ => fun
  | [d] => { results := [.lit (.bool true)], args := [d] }
  | _ => none }
def cmdBackRow : OpenClaim := { program := "ytligainhbdidgaa", sum := "892fcb77053f73383bf1da73ad63237118c7e67f3a662dcc93b2cf2e4ffb0bbc", func := "concord/concordlaw5.CmdBack", spec := "cmdBack", plainKeys := false, apart := false }
def CmdBackSaid : Prop := cmdBackRow.holds Try.pinned (OpenSpec.ofChange cmdBackSpec)

/-- ITS FALSE NEIGHBOUR: 'it returns false'. Refute it at one input. -/
def cmdBackWrong : ChangeSpec := { name := "cmdBack", fn := fun _ => fun
  | [d] => { results := [.lit (.bool false)], args := [d] }
  | _ => none }
def CmdBackWrongFalsely : Prop := cmdBackRow.holds Try.pinned (OpenSpec.ofChange cmdBackWrong)

/- THE SECOND FORM. 'bulk': how many values and letters a reading holds, each counted each time it is reached (what is shared counts as often as it is met; a slice's spare places count too). A statement '..UptoSaid' is the law's where the arguments, and the package variables that the reading takes, are together of bulk at most 1048576: NARROWER than '..Said'. Prove '..Said' where nothing that the law and all that it calls make is longer than what came in: it says more and counts as full. Else prove '..UptoSaid'. A law counts once. -/
mutual
def uptoBulk {H : Type} : DataW H → Nat
  | .lit (.string bytes) => bytes.length + 1
  | .lit _ => 1
  | .nil => 1
  | .ptr d => uptoBulk d + 1
  | .slice elems spare => uptoBulkAll elems + uptoBulkAll spare + 1
  | .agg parts => uptoBulkAll parts + 1
  | .iface _ d => uptoBulk d + 1
  | .map entries => uptoBulkEntries entries + 1
  | .held _ => 1
def uptoBulkAll {H : Type} : List (DataW H) → Nat
  | [] => 0
  | d :: r => uptoBulk d + uptoBulkAll r
def uptoBulkEntries {H : Type} : List (Lit × DataW H) → Nat
  | [] => 0
  | x :: r => uptoBulkEntry x + uptoBulkEntries r
def uptoBulkEntry {H : Type} : Lit × DataW H → Nat
  | (.string bytes, d) => bytes.length + uptoBulk d + 1
  | (_, d) => uptoBulk d + 1
 end
def uptoSmall : (H : Type) → List (DataW H) → Bool := fun _ ds => decide (uptoBulkAll ds ≤ 1048576)
def OpenSpec.upto (s : _root_.Go.ChangeSpec) : _root_.Go.OpenSpec := { _root_.Go.OpenSpec.ofChange s with cond := some uptoSmall }

/-- 'concordlaw7.DepsRuns', WHERE WHAT IT READS IS OF BULK AT MOST 1048576: true; the input reads as it did. -/
def depsRunsUptoRow : OpenClaim := { program := "ytligainhbdidgaa", sum := "892fcb77053f73383bf1da73ad63237118c7e67f3a662dcc93b2cf2e4ffb0bbc", func := "concord/concordlaw7.DepsRuns", spec := "depsRuns", plainKeys := false, apart := false, narrowed := true }
def DepsRunsUptoSaid : Prop := depsRunsUptoRow.holds Try.pinned (OpenSpec.upto depsRunsSpec)

/-- 'concordlaw7.DepsReach', WHERE WHAT IT READS IS OF BULK AT MOST 1048576: true; the input reads as it did. -/
def depsReachUptoRow : OpenClaim := { program := "ytligainhbdidgaa", sum := "892fcb77053f73383bf1da73ad63237118c7e67f3a662dcc93b2cf2e4ffb0bbc", func := "concord/concordlaw7.DepsReach", spec := "depsReach", plainKeys := false, apart := false, narrowed := true }
def DepsReachUptoSaid : Prop := depsReachUptoRow.holds Try.pinned (OpenSpec.upto depsReachSpec)

/-- 'concordlaw7.DepsMost', WHERE WHAT IT READS IS OF BULK AT MOST 1048576: true; the input reads as it did. -/
def depsMostUptoRow : OpenClaim := { program := "ytligainhbdidgaa", sum := "892fcb77053f73383bf1da73ad63237118c7e67f3a662dcc93b2cf2e4ffb0bbc", func := "concord/concordlaw7.DepsMost", spec := "depsMost", plainKeys := false, apart := false, narrowed := true }
def DepsMostUptoSaid : Prop := depsMostUptoRow.holds Try.pinned (OpenSpec.upto depsMostSpec)

/-- 'concordlaw7.DepsJoins', WHERE WHAT IT READS IS OF BULK AT MOST 1048576: true; the input reads as it did. -/
def depsJoinsUptoRow : OpenClaim := { program := "ytligainhbdidgaa", sum := "892fcb77053f73383bf1da73ad63237118c7e67f3a662dcc93b2cf2e4ffb0bbc", func := "concord/concordlaw7.DepsJoins", spec := "depsJoins", plainKeys := false, apart := false, narrowed := true }
def DepsJoinsUptoSaid : Prop := depsJoinsUptoRow.holds Try.pinned (OpenSpec.upto depsJoinsSpec)

/-- 'concordlaw7.DepsCovers', WHERE WHAT IT READS IS OF BULK AT MOST 1048576: true; the input reads as it did. -/
def depsCoversUptoRow : OpenClaim := { program := "ytligainhbdidgaa", sum := "892fcb77053f73383bf1da73ad63237118c7e67f3a662dcc93b2cf2e4ffb0bbc", func := "concord/concordlaw7.DepsCovers", spec := "depsCovers", plainKeys := false, apart := false, narrowed := true }
def DepsCoversUptoSaid : Prop := depsCoversUptoRow.holds Try.pinned (OpenSpec.upto depsCoversSpec)

/-- 'concordlaw7.DepsTells', WHERE WHAT IT READS IS OF BULK AT MOST 1048576: true; the input reads as it did. -/
def depsTellsUptoRow : OpenClaim := { program := "ytligainhbdidgaa", sum := "892fcb77053f73383bf1da73ad63237118c7e67f3a662dcc93b2cf2e4ffb0bbc", func := "concord/concordlaw7.DepsTells", spec := "depsTells", plainKeys := false, apart := false, narrowed := true }
def DepsTellsUptoSaid : Prop := depsTellsUptoRow.holds Try.pinned (OpenSpec.upto depsTellsSpec)

/-- 'concordlaw5.CmdRuns', WHERE WHAT IT READS IS OF BULK AT MOST 1048576: true; the input reads as it did. -/
def cmdRunsUptoRow : OpenClaim := { program := "ytligainhbdidgaa", sum := "892fcb77053f73383bf1da73ad63237118c7e67f3a662dcc93b2cf2e4ffb0bbc", func := "concord/concordlaw5.CmdRuns", spec := "cmdRuns", plainKeys := false, apart := false, narrowed := true }
def CmdRunsUptoSaid : Prop := cmdRunsUptoRow.holds Try.pinned (OpenSpec.upto cmdRunsSpec)

/-- 'concordlaw5.CmdTells', WHERE WHAT IT READS IS OF BULK AT MOST 1048576: true; the input reads as it did. -/
def cmdTellsUptoRow : OpenClaim := { program := "ytligainhbdidgaa", sum := "892fcb77053f73383bf1da73ad63237118c7e67f3a662dcc93b2cf2e4ffb0bbc", func := "concord/concordlaw5.CmdTells", spec := "cmdTells", plainKeys := false, apart := false, narrowed := true }
def CmdTellsUptoSaid : Prop := cmdTellsUptoRow.holds Try.pinned (OpenSpec.upto cmdTellsSpec)

/-- 'concordlaw5.CmdMirrors', WHERE WHAT IT READS IS OF BULK AT MOST 1048576: true; the input reads as it did. -/
def cmdMirrorsUptoRow : OpenClaim := { program := "ytligainhbdidgaa", sum := "892fcb77053f73383bf1da73ad63237118c7e67f3a662dcc93b2cf2e4ffb0bbc", func := "concord/concordlaw5.CmdMirrors", spec := "cmdMirrors", plainKeys := false, apart := false, narrowed := true }
def CmdMirrorsUptoSaid : Prop := cmdMirrorsUptoRow.holds Try.pinned (OpenSpec.upto cmdMirrorsSpec)

/-- 'concordlaw5.CmdSpans', WHERE WHAT IT READS IS OF BULK AT MOST 1048576: true; the input reads as it did. -/
def cmdSpansUptoRow : OpenClaim := { program := "ytligainhbdidgaa", sum := "892fcb77053f73383bf1da73ad63237118c7e67f3a662dcc93b2cf2e4ffb0bbc", func := "concord/concordlaw5.CmdSpans", spec := "cmdSpans", plainKeys := false, apart := false, narrowed := true }
def CmdSpansUptoSaid : Prop := cmdSpansUptoRow.holds Try.pinned (OpenSpec.upto cmdSpansSpec)

/-- 'concordlaw3.PackRuns', WHERE WHAT IT READS IS OF BULK AT MOST 1048576: true; the input reads as it did. -/
def packRunsUptoRow : OpenClaim := { program := "ytligainhbdidgaa", sum := "892fcb77053f73383bf1da73ad63237118c7e67f3a662dcc93b2cf2e4ffb0bbc", func := "concord/concordlaw3.PackRuns", spec := "packRuns", plainKeys := false, apart := false, narrowed := true }
def PackRunsUptoSaid : Prop := packRunsUptoRow.holds Try.pinned (OpenSpec.upto packRunsSpec)

/-- 'concordlaw3.PackOrder', WHERE WHAT IT READS IS OF BULK AT MOST 1048576: true; the input reads as it did. -/
def packOrderUptoRow : OpenClaim := { program := "ytligainhbdidgaa", sum := "892fcb77053f73383bf1da73ad63237118c7e67f3a662dcc93b2cf2e4ffb0bbc", func := "concord/concordlaw3.PackOrder", spec := "packOrder", plainKeys := false, apart := false, narrowed := true }
def PackOrderUptoSaid : Prop := packOrderUptoRow.holds Try.pinned (OpenSpec.upto packOrderSpec)

/-- 'concordlaw3.PackReads', WHERE WHAT IT READS IS OF BULK AT MOST 1048576: true; the input reads as it did. -/
def packReadsUptoRow : OpenClaim := { program := "ytligainhbdidgaa", sum := "892fcb77053f73383bf1da73ad63237118c7e67f3a662dcc93b2cf2e4ffb0bbc", func := "concord/concordlaw3.PackReads", spec := "packReads", plainKeys := false, apart := false, narrowed := true }
def PackReadsUptoSaid : Prop := packReadsUptoRow.holds Try.pinned (OpenSpec.upto packReadsSpec)

/-- 'concordlaw3.PackOne', WHERE WHAT IT READS IS OF BULK AT MOST 1048576: true; the input reads as it did. -/
def packOneUptoRow : OpenClaim := { program := "ytligainhbdidgaa", sum := "892fcb77053f73383bf1da73ad63237118c7e67f3a662dcc93b2cf2e4ffb0bbc", func := "concord/concordlaw3.PackOne", spec := "packOne", plainKeys := false, apart := false, narrowed := true }
def PackOneUptoSaid : Prop := packOneUptoRow.holds Try.pinned (OpenSpec.upto packOneSpec)

/-- 'concordlaw3.PackStops', WHERE WHAT IT READS IS OF BULK AT MOST 1048576: true; the input reads as it did. -/
def packStopsUptoRow : OpenClaim := { program := "ytligainhbdidgaa", sum := "892fcb77053f73383bf1da73ad63237118c7e67f3a662dcc93b2cf2e4ffb0bbc", func := "concord/concordlaw3.PackStops", spec := "packStops", plainKeys := false, apart := false, narrowed := true }
def PackStopsUptoSaid : Prop := packStopsUptoRow.holds Try.pinned (OpenSpec.upto packStopsSpec)

/-- 'concordlaw3.PackWrites', WHERE WHAT IT READS IS OF BULK AT MOST 1048576: true; the input reads as it did. -/
def packWritesUptoRow : OpenClaim := { program := "ytligainhbdidgaa", sum := "892fcb77053f73383bf1da73ad63237118c7e67f3a662dcc93b2cf2e4ffb0bbc", func := "concord/concordlaw3.PackWrites", spec := "packWrites", plainKeys := false, apart := false, narrowed := true }
def PackWritesUptoSaid : Prop := packWritesUptoRow.holds Try.pinned (OpenSpec.upto packWritesSpec)

/-- 'concordlaw3.PackBack', WHERE WHAT IT READS IS OF BULK AT MOST 1048576: true; the input reads as it did. -/
def packBackUptoRow : OpenClaim := { program := "ytligainhbdidgaa", sum := "892fcb77053f73383bf1da73ad63237118c7e67f3a662dcc93b2cf2e4ffb0bbc", func := "concord/concordlaw3.PackBack", spec := "packBack", unfollowed := true, recurses := true, plainKeys := false, apart := false, narrowed := true }
def PackBackUptoSaid : Prop := packBackUptoRow.holds Try.pinned (OpenSpec.upto packBackSpec)

/-- 'concordlaw7.DepsBack', WHERE WHAT IT READS IS OF BULK AT MOST 1048576: true; the input reads as it did. -/
def depsBackUptoRow : OpenClaim := { program := "ytligainhbdidgaa", sum := "892fcb77053f73383bf1da73ad63237118c7e67f3a662dcc93b2cf2e4ffb0bbc", func := "concord/concordlaw7.DepsBack", spec := "depsBack", plainKeys := false, apart := false, narrowed := true }
def DepsBackUptoSaid : Prop := depsBackUptoRow.holds Try.pinned (OpenSpec.upto depsBackSpec)

/-- 'concordlaw5.CmdReads', WHERE WHAT IT READS IS OF BULK AT MOST 1048576: true; the input reads as it did. -/
def cmdReadsUptoRow : OpenClaim := { program := "ytligainhbdidgaa", sum := "892fcb77053f73383bf1da73ad63237118c7e67f3a662dcc93b2cf2e4ffb0bbc", func := "concord/concordlaw5.CmdReads", spec := "cmdReads", plainKeys := false, apart := false, narrowed := true }
def CmdReadsUptoSaid : Prop := cmdReadsUptoRow.holds Try.pinned (OpenSpec.upto cmdReadsSpec)

/-- 'concordlaw5.CmdBack', WHERE WHAT IT READS IS OF BULK AT MOST 1048576: true; the input reads as it did. -/
def cmdBackUptoRow : OpenClaim := { program := "ytligainhbdidgaa", sum := "892fcb77053f73383bf1da73ad63237118c7e67f3a662dcc93b2cf2e4ffb0bbc", func := "concord/concordlaw5.CmdBack", spec := "cmdBack", plainKeys := false, apart := false, narrowed := true }
def CmdBackUptoSaid : Prop := cmdBackUptoRow.holds Try.pinned (OpenSpec.upto cmdBackSpec)

end Rows
end Go.Proofs.Ytligainhbdidgaa
