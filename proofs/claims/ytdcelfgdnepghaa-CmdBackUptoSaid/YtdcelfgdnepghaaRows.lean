/-
  No cell of these rows narrows 'for every input' (looked for: loops, veiled, ifaces, maps, wideKeys, modest, calm, conditions, laid).
  DERIVED. THE GIVEN ROWS OF THIS SEAT. 6 by the template 'for every input the law returns true; each argument reads behind the call as it read before'; 0 by the template 'total and deterministic' (their statements: YtdcelfgdnepghaaTotals.lean).
  GIVEN WITH THE SEED: the statements are not yours to turn. If you find one false, say at which input.
  Laid BY PROGRAM, IN A SANDBOX (cutbox-rows.mjs): the forced cells as the released guide's own fill.sh prints them over the translation ad840586b7d94d8c… (all of the seat's roots in one cut). By AI agents, Wed Nov 11 2026. No macro, syntax, notation, axiom, sorry.
-/
import Derived.Test.YtdcelfgdnepghaaChecked
import GoSem.Claim
import GoSem.ClaimJoined
import GoSem.ClaimMapViews
import Derived.JoinedTies
import Derived.KernelRfl
namespace Go.Proofs.Ytdcelfgdnepghaa
/- THE CELL 'sum', in the pinned program and in every row, IS THE sha256 OF THE DUMP (.gsa) THAT YtdcelfgdnepghaaProg.lean LOADS. Nothing in Lean hashes anything: it is a label: what it is worth is what the hold of that sum in a sandbox is worth. -/
noncomputable def Try.pinned : Pinned := { name := "ytdcelfgdnepghaa", sum := "ad840586b7d94d8c1e80ce350a507c6cdf228c7ac94d4380f2e2bc0ed34db4ec", checked := Try.checked }
namespace Rows
def none {H : Type} : Left H := { results := [], args := [] }

/-- 'concordlaw5.CmdRuns': WHATEVER THE INPUT: true; the input reads as it did. -/
def cmdRunsSpec : ChangeSpec := { name := "cmdRuns", fn := fun _ => fun
  | [] => { results := [.lit (.bool true)], args := [] }
  | _ => none }
def cmdRunsRow : OpenClaim := { program := "ytdcelfgdnepghaa", sum := "ad840586b7d94d8c1e80ce350a507c6cdf228c7ac94d4380f2e2bc0ed34db4ec", func := "concord/concordlaw5.CmdRuns", spec := "cmdRuns", apart := false }
def CmdRunsSaid : Prop := cmdRunsRow.holds Try.pinned (OpenSpec.ofChange cmdRunsSpec)

/-- ITS FALSE NEIGHBOUR: 'it returns false'. Refute it at one input. -/
def cmdRunsWrong : ChangeSpec := { name := "cmdRuns", fn := fun _ => fun
  | [] => { results := [.lit (.bool false)], args := [] }
  | _ => none }
def CmdRunsWrongFalsely : Prop := cmdRunsRow.holds Try.pinned (OpenSpec.ofChange cmdRunsWrong)

/-- 'concordlaw5.CmdTells': WHATEVER THE INPUT: true; the input reads as it did. -/
def cmdTellsSpec : ChangeSpec := { name := "cmdTells", fn := fun _ => fun
  | [d1, d2] => { results := [.lit (.bool true)], args := [d1, d2] }
  | _ => none }
def cmdTellsRow : OpenClaim := { program := "ytdcelfgdnepghaa", sum := "ad840586b7d94d8c1e80ce350a507c6cdf228c7ac94d4380f2e2bc0ed34db4ec", func := "concord/concordlaw5.CmdTells", spec := "cmdTells", apart := false }
def CmdTellsSaid : Prop := cmdTellsRow.holds Try.pinned (OpenSpec.ofChange cmdTellsSpec)

/-- ITS FALSE NEIGHBOUR: 'it returns false'. Refute it at one input. -/
def cmdTellsWrong : ChangeSpec := { name := "cmdTells", fn := fun _ => fun
  | [d1, d2] => { results := [.lit (.bool false)], args := [d1, d2] }
  | _ => none }
def CmdTellsWrongFalsely : Prop := cmdTellsRow.holds Try.pinned (OpenSpec.ofChange cmdTellsWrong)

/-- 'concordlaw5.CmdMirrors': WHATEVER THE INPUT: true; the input reads as it did. -/
def cmdMirrorsSpec : ChangeSpec := { name := "cmdMirrors", fn := fun _ => fun
  | [d1, d2, d3] => { results := [.lit (.bool true)], args := [d1, d2, d3] }
  | _ => none }
def cmdMirrorsRow : OpenClaim := { program := "ytdcelfgdnepghaa", sum := "ad840586b7d94d8c1e80ce350a507c6cdf228c7ac94d4380f2e2bc0ed34db4ec", func := "concord/concordlaw5.CmdMirrors", spec := "cmdMirrors", apart := false }
def CmdMirrorsSaid : Prop := cmdMirrorsRow.holds Try.pinned (OpenSpec.ofChange cmdMirrorsSpec)

/-- ITS FALSE NEIGHBOUR: 'it returns false'. Refute it at one input. -/
def cmdMirrorsWrong : ChangeSpec := { name := "cmdMirrors", fn := fun _ => fun
  | [d1, d2, d3] => { results := [.lit (.bool false)], args := [d1, d2, d3] }
  | _ => none }
def CmdMirrorsWrongFalsely : Prop := cmdMirrorsRow.holds Try.pinned (OpenSpec.ofChange cmdMirrorsWrong)

/-- 'concordlaw5.CmdSpans': WHATEVER THE INPUT: true; the input reads as it did. -/
def cmdSpansSpec : ChangeSpec := { name := "cmdSpans", fn := fun _ => fun
  | [d1, d2, d3, d4] => { results := [.lit (.bool true)], args := [d1, d2, d3, d4] }
  | _ => none }
def cmdSpansRow : OpenClaim := { program := "ytdcelfgdnepghaa", sum := "ad840586b7d94d8c1e80ce350a507c6cdf228c7ac94d4380f2e2bc0ed34db4ec", func := "concord/concordlaw5.CmdSpans", spec := "cmdSpans", apart := false }
def CmdSpansSaid : Prop := cmdSpansRow.holds Try.pinned (OpenSpec.ofChange cmdSpansSpec)

/-- ITS FALSE NEIGHBOUR: 'it returns false'. Refute it at one input. -/
def cmdSpansWrong : ChangeSpec := { name := "cmdSpans", fn := fun _ => fun
  | [d1, d2, d3, d4] => { results := [.lit (.bool false)], args := [d1, d2, d3, d4] }
  | _ => none }
def CmdSpansWrongFalsely : Prop := cmdSpansRow.holds Try.pinned (OpenSpec.ofChange cmdSpansWrong)

/-- 'concordlaw5.CmdReads': WHATEVER THE INPUT: true; the input reads as it did. -/
def cmdReadsSpec : ChangeSpec := { name := "cmdReads", fn := fun _ => fun
  | [d1, d2] => { results := [.lit (.bool true)], args := [d1, d2] }
  | _ => none }
def cmdReadsRow : OpenClaim := { program := "ytdcelfgdnepghaa", sum := "ad840586b7d94d8c1e80ce350a507c6cdf228c7ac94d4380f2e2bc0ed34db4ec", func := "concord/concordlaw5.CmdReads", spec := "cmdReads", apart := false }
def CmdReadsSaid : Prop := cmdReadsRow.holds Try.pinned (OpenSpec.ofChange cmdReadsSpec)

/-- ITS FALSE NEIGHBOUR: 'it returns false'. Refute it at one input. -/
def cmdReadsWrong : ChangeSpec := { name := "cmdReads", fn := fun _ => fun
  | [d1, d2] => { results := [.lit (.bool false)], args := [d1, d2] }
  | _ => none }
def CmdReadsWrongFalsely : Prop := cmdReadsRow.holds Try.pinned (OpenSpec.ofChange cmdReadsWrong)

/-- 'concordlaw5.CmdBack': WHATEVER THE INPUT: true; the input reads as it did. -/
def cmdBackSpec : ChangeSpec := { name := "cmdBack", fn := fun _ => fun
  | [d] => { results := [.lit (.bool true)], args := [d] }
  | _ => none }
def cmdBackRow : OpenClaim := { program := "ytdcelfgdnepghaa", sum := "ad840586b7d94d8c1e80ce350a507c6cdf228c7ac94d4380f2e2bc0ed34db4ec", func := "concord/concordlaw5.CmdBack", spec := "cmdBack", apart := false }
def CmdBackSaid : Prop := cmdBackRow.holds Try.pinned (OpenSpec.ofChange cmdBackSpec)

/-- ITS FALSE NEIGHBOUR: 'it returns false'. Refute it at one input. -/
def cmdBackWrong : ChangeSpec := { name := "cmdBack", fn := fun _ => fun
  | [d] => { results := [.lit (.bool false)], args := [d] }
  | _ => none }
def CmdBackWrongFalsely : Prop := cmdBackRow.holds Try.pinned (OpenSpec.ofChange cmdBackWrong)

/- THE SECOND FORM. 'bulk': how many values and letters a reading holds, each counted each time it is reached (what is shared counts as often as it is met; a slice's spare places count too). A statement '..UptoSaid' is the law's where the arguments, and the package variables that the reading takes, are together of bulk at most 1048576: NARROWER than '..Said'. Prove '..Said' where nothing that the law and all that it calls make is longer than what came in: it says more and counts as full. Else prove '..UptoSaid'. A law counts once. -/
mutual
def uptoBulk {H : Type} : DataW H → Nat
  | .lit (.string bytes) => bytes.length + 1
  | .lit _ => 1
  | .nil => 1
  | .ptr d => uptoBulk d + 1
  | .slice elems spare => uptoBulkAll elems + uptoBulkAll spare + 1
  | .agg parts => uptoBulkAll parts + 1
  | .iface _ d => uptoBulk d + 1
  | .map entries => uptoBulkEntries entries + 1
  | .held _ => 1
def uptoBulkAll {H : Type} : List (DataW H) → Nat
  | [] => 0
  | d :: r => uptoBulk d + uptoBulkAll r
def uptoBulkEntries {H : Type} : List (Lit × DataW H) → Nat
  | [] => 0
  | x :: r => uptoBulkEntry x + uptoBulkEntries r
def uptoBulkEntry {H : Type} : Lit × DataW H → Nat
  | (.string bytes, d) => bytes.length + uptoBulk d + 1
  | (_, d) => uptoBulk d + 1
 end
def uptoSmall : (H : Type) → List (DataW H) → Bool := fun _ ds => decide (uptoBulkAll ds ≤ 1048576)
def OpenSpec.upto (s : _root_.Go.ChangeSpec) : _root_.Go.OpenSpec := { _root_.Go.OpenSpec.ofChange s with cond := some uptoSmall }

/-- 'concordlaw5.CmdRuns', WHERE WHAT IT READS IS OF BULK AT MOST 1048576: true; the input reads as it did. -/
def cmdRunsUptoRow : OpenClaim := { program := "ytdcelfgdnepghaa", sum := "ad840586b7d94d8c1e80ce350a507c6cdf228c7ac94d4380f2e2bc0ed34db4ec", func := "concord/concordlaw5.CmdRuns", spec := "cmdRuns", apart := false, narrowed := true }
def CmdRunsUptoSaid : Prop := cmdRunsUptoRow.holds Try.pinned (OpenSpec.upto cmdRunsSpec)

/-- 'concordlaw5.CmdTells', WHERE WHAT IT READS IS OF BULK AT MOST 1048576: true; the input reads as it did. -/
def cmdTellsUptoRow : OpenClaim := { program := "ytdcelfgdnepghaa", sum := "ad840586b7d94d8c1e80ce350a507c6cdf228c7ac94d4380f2e2bc0ed34db4ec", func := "concord/concordlaw5.CmdTells", spec := "cmdTells", apart := false, narrowed := true }
def CmdTellsUptoSaid : Prop := cmdTellsUptoRow.holds Try.pinned (OpenSpec.upto cmdTellsSpec)

/-- 'concordlaw5.CmdMirrors', WHERE WHAT IT READS IS OF BULK AT MOST 1048576: true; the input reads as it did. -/
def cmdMirrorsUptoRow : OpenClaim := { program := "ytdcelfgdnepghaa", sum := "ad840586b7d94d8c1e80ce350a507c6cdf228c7ac94d4380f2e2bc0ed34db4ec", func := "concord/concordlaw5.CmdMirrors", spec := "cmdMirrors", apart := false, narrowed := true }
def CmdMirrorsUptoSaid : Prop := cmdMirrorsUptoRow.holds Try.pinned (OpenSpec.upto cmdMirrorsSpec)

/-- 'concordlaw5.CmdSpans', WHERE WHAT IT READS IS OF BULK AT MOST 1048576: true; the input reads as it did. -/
def cmdSpansUptoRow : OpenClaim := { program := "ytdcelfgdnepghaa", sum := "ad840586b7d94d8c1e80ce350a507c6cdf228c7ac94d4380f2e2bc0ed34db4ec", func := "concord/concordlaw5.CmdSpans", spec := "cmdSpans", apart := false, narrowed := true }
def CmdSpansUptoSaid : Prop := cmdSpansUptoRow.holds Try.pinned (OpenSpec.upto cmdSpansSpec)

/-- 'concordlaw5.CmdReads', WHERE WHAT IT READS IS OF BULK AT MOST 1048576: true; the input reads as it did. -/
def cmdReadsUptoRow : OpenClaim := { program := "ytdcelfgdnepghaa", sum := "ad840586b7d94d8c1e80ce350a507c6cdf228c7ac94d4380f2e2bc0ed34db4ec", func := "concord/concordlaw5.CmdReads", spec := "cmdReads", apart := false, narrowed := true }
def CmdReadsUptoSaid : Prop := cmdReadsUptoRow.holds Try.pinned (OpenSpec.upto cmdReadsSpec)

/-- 'concordlaw5.CmdBack', WHERE WHAT IT READS IS OF BULK AT MOST 1048576: true; the input reads as it did. -/
def cmdBackUptoRow : OpenClaim := { program := "ytdcelfgdnepghaa", sum := "ad840586b7d94d8c1e80ce350a507c6cdf228c7ac94d4380f2e2bc0ed34db4ec", func := "concord/concordlaw5.CmdBack", spec := "cmdBack", apart := false, narrowed := true }
def CmdBackUptoSaid : Prop := cmdBackUptoRow.holds Try.pinned (OpenSpec.upto cmdBackSpec)

end Rows
end Go.Proofs.Ytdcelfgdnepghaa
