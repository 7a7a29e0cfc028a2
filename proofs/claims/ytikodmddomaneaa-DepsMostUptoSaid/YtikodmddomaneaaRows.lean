/-
  No cell of these rows narrows 'for every input' (looked for: loops, veiled, ifaces, maps, wideKeys, modest, calm, conditions, laid).
  DERIVED. THE GIVEN ROWS OF THIS SEAT. 7 by the template 'for every input the law returns true; each argument reads behind the call as it read before'; 0 by the template 'total and deterministic' (their statements: YtikodmddomaneaaTotals.lean).
  GIVEN WITH THE SEED: the statements are not yours to turn. If you find one false, say at which input.
  Laid BY PROGRAM, IN A SANDBOX (cutbox-rows.mjs): the forced cells as the released guide's own fill.sh prints them over the translation 6f6471928a39cc21… (all of the seat's roots in one cut). By AI agents, Wed Nov 11 2026. No macro, syntax, notation, axiom, sorry.
-/
import Derived.Test.YtikodmddomaneaaChecked
import GoSem.Claim
import GoSem.ClaimJoined
import GoSem.ClaimMapViews
import Derived.JoinedTies
import Derived.KernelRfl
namespace Go.Proofs.Ytikodmddomaneaa
/- THE CELL 'sum', in the pinned program and in every row, IS THE sha256 OF THE DUMP (.gsa) THAT YtikodmddomaneaaProg.lean LOADS. Nothing in Lean hashes anything: it is a label: what it is worth is what the hold of that sum in a sandbox is worth. -/
noncomputable def Try.pinned : Pinned := { name := "ytikodmddomaneaa", sum := "6f6471928a39cc2123c873254e0f846fc740aefb643544835226c9e3ce1b8874", checked := Try.checked }
namespace Rows
def none {H : Type} : Left H := { results := [], args := [] }

/-- 'concordlaw7.DepsRuns': WHATEVER THE INPUT: true; the input reads as it did. -/
def depsRunsSpec : ChangeSpec := { name := "depsRuns", fn := fun _ => fun
  | [] => { results := [.lit (.bool true)], args := [] }
  | _ => none }
def depsRunsRow : OpenClaim := { program := "ytikodmddomaneaa", sum := "6f6471928a39cc2123c873254e0f846fc740aefb643544835226c9e3ce1b8874", func := "concord/concordlaw7.DepsRuns", spec := "depsRuns", plainKeys := false, apart := false }
def DepsRunsSaid : Prop := depsRunsRow.holds Try.pinned (OpenSpec.ofChange depsRunsSpec)

/-- ITS FALSE NEIGHBOUR: 'it returns false'. Refute it at one input. -/
def depsRunsWrong : ChangeSpec := { name := "depsRuns", fn := fun _ => fun
  | [] => { results := [.lit (.bool false)], args := [] }
  | _ => none }
def DepsRunsWrongFalsely : Prop := depsRunsRow.holds Try.pinned (OpenSpec.ofChange depsRunsWrong)

/-- 'concordlaw7.DepsReach': WHATEVER THE INPUT: true; the input reads as it did. -/
def depsReachSpec : ChangeSpec := { name := "depsReach", fn := fun _ => fun
  | [d1, d2] => { results := [.lit (.bool true)], args := [d1, d2] }
  | _ => none }
def depsReachRow : OpenClaim := { program := "ytikodmddomaneaa", sum := "6f6471928a39cc2123c873254e0f846fc740aefb643544835226c9e3ce1b8874", func := "concord/concordlaw7.DepsReach", spec := "depsReach", plainKeys := false, apart := false }
def DepsReachSaid : Prop := depsReachRow.holds Try.pinned (OpenSpec.ofChange depsReachSpec)

/-- ITS FALSE NEIGHBOUR: 'it returns false'. Refute it at one input. -/
def depsReachWrong : ChangeSpec := { name := "depsReach", fn := fun _ => fun
  | [d1, d2] => { results := [.lit (.bool false)], args := [d1, d2] }
  | _ => none }
def DepsReachWrongFalsely : Prop := depsReachRow.holds Try.pinned (OpenSpec.ofChange depsReachWrong)

/-- 'concordlaw7.DepsMost': WHATEVER THE INPUT: true; the input reads as it did. -/
def depsMostSpec : ChangeSpec := { name := "depsMost", fn := fun _ => fun
  | [d1, d2] => { results := [.lit (.bool true)], args := [d1, d2] }
  | _ => none }
def depsMostRow : OpenClaim := { program := "ytikodmddomaneaa", sum := "6f6471928a39cc2123c873254e0f846fc740aefb643544835226c9e3ce1b8874", func := "concord/concordlaw7.DepsMost", spec := "depsMost", plainKeys := false, apart := false }
def DepsMostSaid : Prop := depsMostRow.holds Try.pinned (OpenSpec.ofChange depsMostSpec)

/-- ITS FALSE NEIGHBOUR: 'it returns false'. Refute it at one input. -/
def depsMostWrong : ChangeSpec := { name := "depsMost", fn := fun _ => fun
  | [d1, d2] => { results := [.lit (.bool false)], args := [d1, d2] }
  | _ => none }
def DepsMostWrongFalsely : Prop := depsMostRow.holds Try.pinned (OpenSpec.ofChange depsMostWrong)

/-- 'concordlaw7.DepsJoins': WHATEVER THE INPUT: true; the input reads as it did. -/
def depsJoinsSpec : ChangeSpec := { name := "depsJoins", fn := fun _ => fun
  | [d1, d2, d3] => { results := [.lit (.bool true)], args := [d1, d2, d3] }
  | _ => none }
def depsJoinsRow : OpenClaim := { program := "ytikodmddomaneaa", sum := "6f6471928a39cc2123c873254e0f846fc740aefb643544835226c9e3ce1b8874", func := "concord/concordlaw7.DepsJoins", spec := "depsJoins", plainKeys := false, apart := false }
def DepsJoinsSaid : Prop := depsJoinsRow.holds Try.pinned (OpenSpec.ofChange depsJoinsSpec)

/-- ITS FALSE NEIGHBOUR: 'it returns false'. Refute it at one input. -/
def depsJoinsWrong : ChangeSpec := { name := "depsJoins", fn := fun _ => fun
  | [d1, d2, d3] => { results := [.lit (.bool false)], args := [d1, d2, d3] }
  | _ => none }
def DepsJoinsWrongFalsely : Prop := depsJoinsRow.holds Try.pinned (OpenSpec.ofChange depsJoinsWrong)

/-- 'concordlaw7.DepsCovers': WHATEVER THE INPUT: true; the input reads as it did. -/
def depsCoversSpec : ChangeSpec := { name := "depsCovers", fn := fun _ => fun
  | [d1, d2, d3, d4] => { results := [.lit (.bool true)], args := [d1, d2, d3, d4] }
  | _ => none }
def depsCoversRow : OpenClaim := { program := "ytikodmddomaneaa", sum := "6f6471928a39cc2123c873254e0f846fc740aefb643544835226c9e3ce1b8874", func := "concord/concordlaw7.DepsCovers", spec := "depsCovers", plainKeys := false, apart := false }
def DepsCoversSaid : Prop := depsCoversRow.holds Try.pinned (OpenSpec.ofChange depsCoversSpec)

/-- ITS FALSE NEIGHBOUR: 'it returns false'. Refute it at one input. -/
def depsCoversWrong : ChangeSpec := { name := "depsCovers", fn := fun _ => fun
  | [d1, d2, d3, d4] => { results := [.lit (.bool false)], args := [d1, d2, d3, d4] }
  | _ => none }
def DepsCoversWrongFalsely : Prop := depsCoversRow.holds Try.pinned (OpenSpec.ofChange depsCoversWrong)

/-- 'concordlaw7.DepsTells': WHATEVER THE INPUT: true; the input reads as it did. -/
def depsTellsSpec : ChangeSpec := { name := "depsTells", fn := fun _ => fun
  | [d1, d2, d3, d4] => { results := [.lit (.bool true)], args := [d1, d2, d3, d4] }
  | _ => none }
def depsTellsRow : OpenClaim := { program := "ytikodmddomaneaa", sum := "6f6471928a39cc2123c873254e0f846fc740aefb643544835226c9e3ce1b8874", func := "concord/concordlaw7.DepsTells", spec := "depsTells", plainKeys := false, apart := false }
def DepsTellsSaid : Prop := depsTellsRow.holds Try.pinned (OpenSpec.ofChange depsTellsSpec)

/-- ITS FALSE NEIGHBOUR: 'it returns false'. Refute it at one input. -/
def depsTellsWrong : ChangeSpec := { name := "depsTells", fn := fun _ => fun
  | [d1, d2, d3, d4] => { results := [.lit (.bool false)], args := [d1, d2, d3, d4] }
  | _ => none }
def DepsTellsWrongFalsely : Prop := depsTellsRow.holds Try.pinned (OpenSpec.ofChange depsTellsWrong)

/-- 'concordlaw7.DepsBack': WHATEVER THE INPUT: true; the input reads as it did. -/
def depsBackSpec : ChangeSpec := { name := "depsBack", fn := fun _ => fun
  | [d1, d2] => { results := [.lit (.bool true)], args := [d1, d2] }
  | _ => none }
def depsBackRow : OpenClaim := { program := "ytikodmddomaneaa", sum := "6f6471928a39cc2123c873254e0f846fc740aefb643544835226c9e3ce1b8874", func := "concord/concordlaw7.DepsBack", spec := "depsBack", plainKeys := false, apart := false }
def DepsBackSaid : Prop := depsBackRow.holds Try.pinned (OpenSpec.ofChange depsBackSpec)

/-- ITS FALSE NEIGHBOUR: 'it returns false'. Refute it at one input. -/
def depsBackWrong : ChangeSpec := { name := "depsBack", fn := fun _ => fun
  | [d1, d2] => { results := [.lit (.bool false)], args := [d1, d2] }
  | _ => none }
def DepsBackWrongFalsely : Prop := depsBackRow.holds Try.pinned (OpenSpec.ofChange depsBackWrong)

/- THE SECOND FORM. 'bulk': how many values and letters a reading holds, each counted each time it is reached (what is shared counts as often as it is met; a slice's spare places count too). A statement '..UptoSaid' is the law's where the arguments, and the package variables that the reading takes, are together of bulk at most 1048576: NARROWER than '..Said'. Prove '..Said' where nothing that the law and all that it calls make is longer than what came in: it says more and counts as full. Else prove '..UptoSaid'. A law counts once. -/
mutual
def uptoBulk {H : Type} : DataW H → Nat
  | .lit (.string bytes) => bytes.length + 1
  | .lit _ => 1
  | .nil => 1
  | .ptr d => uptoBulk d + 1
  | .slice elems spare => uptoBulkAll elems + uptoBulkAll spare + 1
  | .agg parts => uptoBulkAll parts + 1
  | .iface _ d => uptoBulk d + 1
  | .map entries => uptoBulkEntries entries + 1
  | .held _ => 1
def uptoBulkAll {H : Type} : List (DataW H) → Nat
  | [] => 0
  | d :: r => uptoBulk d + uptoBulkAll r
def uptoBulkEntries {H : Type} : List (Lit × DataW H) → Nat
  | [] => 0
  | x :: r => uptoBulkEntry x + uptoBulkEntries r
def uptoBulkEntry {H : Type} : Lit × DataW H → Nat
  | (.string bytes, d) => bytes.length + uptoBulk d + 1
  | (_, d) => uptoBulk d + 1
 end
def uptoSmall : (H : Type) → List (DataW H) → Bool := fun _ ds => decide (uptoBulkAll ds ≤ 1048576)
def OpenSpec.upto (s : _root_.Go.ChangeSpec) : _root_.Go.OpenSpec := { _root_.Go.OpenSpec.ofChange s with cond := some uptoSmall }

/-- 'concordlaw7.DepsRuns', WHERE WHAT IT READS IS OF BULK AT MOST 1048576: true; the input reads as it did. -/
def depsRunsUptoRow : OpenClaim := { program := "ytikodmddomaneaa", sum := "6f6471928a39cc2123c873254e0f846fc740aefb643544835226c9e3ce1b8874", func := "concord/concordlaw7.DepsRuns", spec := "depsRuns", plainKeys := false, apart := false, narrowed := true }
def DepsRunsUptoSaid : Prop := depsRunsUptoRow.holds Try.pinned (OpenSpec.upto depsRunsSpec)

/-- 'concordlaw7.DepsReach', WHERE WHAT IT READS IS OF BULK AT MOST 1048576: true; the input reads as it did. -/
def depsReachUptoRow : OpenClaim := { program := "ytikodmddomaneaa", sum := "6f6471928a39cc2123c873254e0f846fc740aefb643544835226c9e3ce1b8874", func := "concord/concordlaw7.DepsReach", spec := "depsReach", plainKeys := false, apart := false, narrowed := true }
def DepsReachUptoSaid : Prop := depsReachUptoRow.holds Try.pinned (OpenSpec.upto depsReachSpec)

/-- 'concordlaw7.DepsMost', WHERE WHAT IT READS IS OF BULK AT MOST 1048576: true; the input reads as it did. -/
def depsMostUptoRow : OpenClaim := { program := "ytikodmddomaneaa", sum := "6f6471928a39cc2123c873254e0f846fc740aefb643544835226c9e3ce1b8874", func := "concord/concordlaw7.DepsMost", spec := "depsMost", plainKeys := false, apart := false, narrowed := true }
def DepsMostUptoSaid : Prop := depsMostUptoRow.holds Try.pinned (OpenSpec.upto depsMostSpec)

/-- 'concordlaw7.DepsJoins', WHERE WHAT IT READS IS OF BULK AT MOST 1048576: true; the input reads as it did. -/
def depsJoinsUptoRow : OpenClaim := { program := "ytikodmddomaneaa", sum := "6f6471928a39cc2123c873254e0f846fc740aefb643544835226c9e3ce1b8874", func := "concord/concordlaw7.DepsJoins", spec := "depsJoins", plainKeys := false, apart := false, narrowed := true }
def DepsJoinsUptoSaid : Prop := depsJoinsUptoRow.holds Try.pinned (OpenSpec.upto depsJoinsSpec)

/-- 'concordlaw7.DepsCovers', WHERE WHAT IT READS IS OF BULK AT MOST 1048576: true; the input reads as it did. -/
def depsCoversUptoRow : OpenClaim := { program := "ytikodmddomaneaa", sum := "6f6471928a39cc2123c873254e0f846fc740aefb643544835226c9e3ce1b8874", func := "concord/concordlaw7.DepsCovers", spec := "depsCovers", plainKeys := false, apart := false, narrowed := true }
def DepsCoversUptoSaid : Prop := depsCoversUptoRow.holds Try.pinned (OpenSpec.upto depsCoversSpec)

/-- 'concordlaw7.DepsTells', WHERE WHAT IT READS IS OF BULK AT MOST 1048576: true; the input reads as it did. -/
def depsTellsUptoRow : OpenClaim := { program := "ytikodmddomaneaa", sum := "6f6471928a39cc2123c873254e0f846fc740aefb643544835226c9e3ce1b8874", func := "concord/concordlaw7.DepsTells", spec := "depsTells", plainKeys := false, apart := false, narrowed := true }
def DepsTellsUptoSaid : Prop := depsTellsUptoRow.holds Try.pinned (OpenSpec.upto depsTellsSpec)

/-- 'concordlaw7.DepsBack', WHERE WHAT IT READS IS OF BULK AT MOST 1048576: true; the input reads as it did. -/
def depsBackUptoRow : OpenClaim := { program := "ytikodmddomaneaa", sum := "6f6471928a39cc2123c873254e0f846fc740aefb643544835226c9e3ce1b8874", func := "concord/concordlaw7.DepsBack", spec := "depsBack", plainKeys := false, apart := false, narrowed := true }
def DepsBackUptoSaid : Prop := depsBackUptoRow.holds Try.pinned (OpenSpec.upto depsBackSpec)

end Rows
end Go.Proofs.Ytikodmddomaneaa
