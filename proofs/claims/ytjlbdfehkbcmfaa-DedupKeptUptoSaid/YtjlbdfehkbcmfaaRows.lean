/-
  No cell of these rows narrows 'for every input' (looked for: loops, veiled, ifaces, maps, wideKeys, modest, calm, conditions, laid).
  DERIVED. THE GIVEN ROWS OF THIS SEAT. 5 by the template 'for every input the law returns true; each argument reads behind the call as it read before'; 0 by the template 'total and deterministic' (their statements: YtjlbdfehkbcmfaaTotals.lean).
  GIVEN WITH THE SEED: the statements are not yours to turn. If you find one false, say at which input.
  Laid BY PROGRAM, IN A SANDBOX (cutbox-rows.mjs): the forced cells as the released guide's own fill.sh prints them over the translation f532a223a4944acf… (all of the seat's roots in one cut). By AI agents, Wed Nov 11 2026. No macro, syntax, notation, axiom, sorry.
-/
import Derived.Test.YtjlbdfehkbcmfaaChecked
import GoSem.Claim
import GoSem.ClaimJoined
import GoSem.ClaimMapViews
import Derived.JoinedTies
import Derived.KernelRfl
namespace Go.Proofs.Ytjlbdfehkbcmfaa
/- THE CELL 'sum', in the pinned program and in every row, IS THE sha256 OF THE DUMP (.gsa) THAT YtjlbdfehkbcmfaaProg.lean LOADS. Nothing in Lean hashes anything: it is a label: what it is worth is what the hold of that sum in a sandbox is worth. -/
noncomputable def Try.pinned : Pinned := { name := "ytjlbdfehkbcmfaa", sum := "f532a223a4944acfbed053021fdec15678ae1a3ccbc3d8429f8ddbd03064263e", checked := Try.checked }
namespace Rows
def none {H : Type} : Left H := { results := [], args := [] }

/-- 'concordlaw12.DedupRuns': WHATEVER THE INPUT: true; the input reads as it did. -/
def dedupRunsSpec : ChangeSpec := { name := "dedupRuns", fn := fun _ => fun
  | [] => { results := [.lit (.bool true)], args := [] }
  | _ => none }
def dedupRunsRow : OpenClaim := { program := "ytjlbdfehkbcmfaa", sum := "f532a223a4944acfbed053021fdec15678ae1a3ccbc3d8429f8ddbd03064263e", func := "concord/concordlaw12.DedupRuns", spec := "dedupRuns", apart := false }
def DedupRunsSaid : Prop := dedupRunsRow.holds Try.pinned (OpenSpec.ofChange dedupRunsSpec)

/-- ITS FALSE NEIGHBOUR: 'it returns false'. Refute it at one input. -/
def dedupRunsWrong : ChangeSpec := { name := "dedupRuns", fn := fun _ => fun
  | [] => { results := [.lit (.bool false)], args := [] }
  | _ => none }
def DedupRunsWrongFalsely : Prop := dedupRunsRow.holds Try.pinned (OpenSpec.ofChange dedupRunsWrong)

/-- 'concordlaw12.DedupKept': WHATEVER THE INPUT: true; the input reads as it did. -/
def dedupKeptSpec : ChangeSpec := { name := "dedupKept", fn := fun _ => fun
  | [d1, d2] => { results := [.lit (.bool true)], args := [d1, d2] }
  | _ => none }
def dedupKeptRow : OpenClaim := { program := "ytjlbdfehkbcmfaa", sum := "f532a223a4944acfbed053021fdec15678ae1a3ccbc3d8429f8ddbd03064263e", func := "concord/concordlaw12.DedupKept", spec := "dedupKept", unfollowed := true, recurses := true, apart := false }
def DedupKeptSaid : Prop := dedupKeptRow.holds Try.pinned (OpenSpec.ofChange dedupKeptSpec)

/-- ITS FALSE NEIGHBOUR: 'it returns false'. Refute it at one input. -/
def dedupKeptWrong : ChangeSpec := { name := "dedupKept", fn := fun _ => fun
  | [d1, d2] => { results := [.lit (.bool false)], args := [d1, d2] }
  | _ => none }
def DedupKeptWrongFalsely : Prop := dedupKeptRow.holds Try.pinned (OpenSpec.ofChange dedupKeptWrong)

/-- 'concordlaw12.DedupOthers': WHATEVER THE INPUT: true; the input reads as it did. -/
def dedupOthersSpec : ChangeSpec := { name := "dedupOthers", fn := fun _ => fun
  | [d1, d2, d3, d4, d5, d6] => { results := [.lit (.bool true)], args := [d1, d2, d3, d4, d5, d6] }
  | _ => none }
def dedupOthersRow : OpenClaim := { program := "ytjlbdfehkbcmfaa", sum := "f532a223a4944acfbed053021fdec15678ae1a3ccbc3d8429f8ddbd03064263e", func := "concord/concordlaw12.DedupOthers", spec := "dedupOthers", apart := false }
def DedupOthersSaid : Prop := dedupOthersRow.holds Try.pinned (OpenSpec.ofChange dedupOthersSpec)

/-- ITS FALSE NEIGHBOUR: 'it returns false'. Refute it at one input. -/
def dedupOthersWrong : ChangeSpec := { name := "dedupOthers", fn := fun _ => fun
  | [d1, d2, d3, d4, d5, d6] => { results := [.lit (.bool false)], args := [d1, d2, d3, d4, d5, d6] }
  | _ => none }
def DedupOthersWrongFalsely : Prop := dedupOthersRow.holds Try.pinned (OpenSpec.ofChange dedupOthersWrong)

/-- 'concordlaw12.DedupTells': WHATEVER THE INPUT: true; the input reads as it did. -/
def dedupTellsSpec : ChangeSpec := { name := "dedupTells", fn := fun _ => fun
  | [d1, d2, d3, d4] => { results := [.lit (.bool true)], args := [d1, d2, d3, d4] }
  | _ => none }
def dedupTellsRow : OpenClaim := { program := "ytjlbdfehkbcmfaa", sum := "f532a223a4944acfbed053021fdec15678ae1a3ccbc3d8429f8ddbd03064263e", func := "concord/concordlaw12.DedupTells", spec := "dedupTells", apart := false }
def DedupTellsSaid : Prop := dedupTellsRow.holds Try.pinned (OpenSpec.ofChange dedupTellsSpec)

/-- ITS FALSE NEIGHBOUR: 'it returns false'. Refute it at one input. -/
def dedupTellsWrong : ChangeSpec := { name := "dedupTells", fn := fun _ => fun
  | [d1, d2, d3, d4] => { results := [.lit (.bool false)], args := [d1, d2, d3, d4] }
  | _ => none }
def DedupTellsWrongFalsely : Prop := dedupTellsRow.holds Try.pinned (OpenSpec.ofChange dedupTellsWrong)

/-- 'concordlaw12.DedupOnce': WHATEVER THE INPUT: true; the input reads as it did. -/
def dedupOnceSpec : ChangeSpec := { name := "dedupOnce", fn := fun _ => fun
  | [d1, d2] => { results := [.lit (.bool true)], args := [d1, d2] }
  | _ => none }
def dedupOnceRow : OpenClaim := { program := "ytjlbdfehkbcmfaa", sum := "f532a223a4944acfbed053021fdec15678ae1a3ccbc3d8429f8ddbd03064263e", func := "concord/concordlaw12.DedupOnce", spec := "dedupOnce", apart := false }
def DedupOnceSaid : Prop := dedupOnceRow.holds Try.pinned (OpenSpec.ofChange dedupOnceSpec)

/-- ITS FALSE NEIGHBOUR: 'it returns false'. Refute it at one input. -/
def dedupOnceWrong : ChangeSpec := { name := "dedupOnce", fn := fun _ => fun
  | [d1, d2] => { results := [.lit (.bool false)], args := [d1, d2] }
  | _ => none }
def DedupOnceWrongFalsely : Prop := dedupOnceRow.holds Try.pinned (OpenSpec.ofChange dedupOnceWrong)

/- THE SECOND FORM. 'bulk': how many values and letters a reading holds, each counted each time it is reached (what is shared counts as often as it is met; a slice's spare places count too). A statement '..UptoSaid' is the law's where the arguments, and the package variables that the reading takes, are together of bulk at most 1048576: NARROWER than '..Said'. Prove '..Said' where nothing that the law and all that it calls make is longer than what came in: it says more and counts as full. Else prove '..UptoSaid'. A law counts once. -/
mutual
def uptoBulk {H : Type} : DataW H → Nat
  | .lit (.string bytes) => bytes.length + 1
  | .lit _ => 1
  | .nil => 1
  | .ptr d => uptoBulk d + 1
  | .slice elems spare => uptoBulkAll elems + uptoBulkAll spare + 1
  | .agg parts => uptoBulkAll parts + 1
  | .iface _ d => uptoBulk d + 1
  | .map entries => uptoBulkEntries entries + 1
  | .held _ => 1
def uptoBulkAll {H : Type} : List (DataW H) → Nat
  | [] => 0
  | d :: r => uptoBulk d + uptoBulkAll r
def uptoBulkEntries {H : Type} : List (Lit × DataW H) → Nat
  | [] => 0
  | x :: r => uptoBulkEntry x + uptoBulkEntries r
def uptoBulkEntry {H : Type} : Lit × DataW H → Nat
  | (.string bytes, d) => bytes.length + uptoBulk d + 1
  | (_, d) => uptoBulk d + 1
 end
def uptoSmall : (H : Type) → List (DataW H) → Bool := fun _ ds => decide (uptoBulkAll ds ≤ 1048576)
def OpenSpec.upto (s : _root_.Go.ChangeSpec) : _root_.Go.OpenSpec := { _root_.Go.OpenSpec.ofChange s with cond := some uptoSmall }

/-- 'concordlaw12.DedupRuns', WHERE WHAT IT READS IS OF BULK AT MOST 1048576: true; the input reads as it did. -/
def dedupRunsUptoRow : OpenClaim := { program := "ytjlbdfehkbcmfaa", sum := "f532a223a4944acfbed053021fdec15678ae1a3ccbc3d8429f8ddbd03064263e", func := "concord/concordlaw12.DedupRuns", spec := "dedupRuns", apart := false, narrowed := true }
def DedupRunsUptoSaid : Prop := dedupRunsUptoRow.holds Try.pinned (OpenSpec.upto dedupRunsSpec)

/-- 'concordlaw12.DedupKept', WHERE WHAT IT READS IS OF BULK AT MOST 1048576: true; the input reads as it did. -/
def dedupKeptUptoRow : OpenClaim := { program := "ytjlbdfehkbcmfaa", sum := "f532a223a4944acfbed053021fdec15678ae1a3ccbc3d8429f8ddbd03064263e", func := "concord/concordlaw12.DedupKept", spec := "dedupKept", unfollowed := true, recurses := true, apart := false, narrowed := true }
def DedupKeptUptoSaid : Prop := dedupKeptUptoRow.holds Try.pinned (OpenSpec.upto dedupKeptSpec)

/-- 'concordlaw12.DedupOthers', WHERE WHAT IT READS IS OF BULK AT MOST 1048576: true; the input reads as it did. -/
def dedupOthersUptoRow : OpenClaim := { program := "ytjlbdfehkbcmfaa", sum := "f532a223a4944acfbed053021fdec15678ae1a3ccbc3d8429f8ddbd03064263e", func := "concord/concordlaw12.DedupOthers", spec := "dedupOthers", apart := false, narrowed := true }
def DedupOthersUptoSaid : Prop := dedupOthersUptoRow.holds Try.pinned (OpenSpec.upto dedupOthersSpec)

/-- 'concordlaw12.DedupTells', WHERE WHAT IT READS IS OF BULK AT MOST 1048576: true; the input reads as it did. -/
def dedupTellsUptoRow : OpenClaim := { program := "ytjlbdfehkbcmfaa", sum := "f532a223a4944acfbed053021fdec15678ae1a3ccbc3d8429f8ddbd03064263e", func := "concord/concordlaw12.DedupTells", spec := "dedupTells", apart := false, narrowed := true }
def DedupTellsUptoSaid : Prop := dedupTellsUptoRow.holds Try.pinned (OpenSpec.upto dedupTellsSpec)

/-- 'concordlaw12.DedupOnce', WHERE WHAT IT READS IS OF BULK AT MOST 1048576: true; the input reads as it did. -/
def dedupOnceUptoRow : OpenClaim := { program := "ytjlbdfehkbcmfaa", sum := "f532a223a4944acfbed053021fdec15678ae1a3ccbc3d8429f8ddbd03064263e", func := "concord/concordlaw12.DedupOnce", spec := "dedupOnce", apart := false, narrowed := true }
def DedupOnceUptoSaid : Prop := dedupOnceUptoRow.holds Try.pinned (OpenSpec.upto dedupOnceSpec)

end Rows
end Go.Proofs.Ytjlbdfehkbcmfaa
