/-
  No cell of these rows narrows 'for every input' (looked for: loops, veiled, ifaces, maps, wideKeys, modest, calm, conditions, laid).
  DERIVED. THE GIVEN ROWS OF THIS SEAT. 6 by the template 'for every input the law returns true; each argument reads behind the call as it read before'; 0 by the template 'total and deterministic' (their statements: YtbhapclaochcnaaTotals.lean).
  GIVEN WITH THE SEED: the statements are not yours to turn. If you find one false, say at which input.
  Laid BY PROGRAM, IN A SANDBOX (cutbox-rows.mjs): the forced cells as the released guide's own fill.sh prints them over the translation 3a122e328815c21f… (all of the seat's roots in one cut). By AI agents, Wed Nov 11 2026. No macro, syntax, notation, axiom, sorry.
-/
import Derived.Test.YtbhapclaochcnaaChecked
import GoSem.Claim
import GoSem.ClaimJoined
import GoSem.ClaimMapViews
import Derived.JoinedTies
import Derived.KernelRfl
namespace Go.Proofs.Ytbhapclaochcnaa
/- THE CELL 'sum', in the pinned program and in every row, IS THE sha256 OF THE DUMP (.gsa) THAT YtbhapclaochcnaaProg.lean LOADS. Nothing in Lean hashes anything: it is a label: what it is worth is what the hold of that sum in a sandbox is worth. -/
noncomputable def Try.pinned : Pinned := { name := "ytbhapclaochcnaa", sum := "3a122e328815c21f9111f2fe56e891a9f98e630f6f6f5613d79100b0907c73e6", checked := Try.checked }
namespace Rows
def none {H : Type} : Left H := { results := [], args := [] }

/-- 'concordlaw15.LetterRuns': WHATEVER THE INPUT: true; the input reads as it did. -/
def letterRunsSpec : ChangeSpec := { name := "letterRuns", fn := fun _ => fun
  | [] => { results := [.lit (.bool true)], args := [] }
  | _ => none }
def letterRunsRow : OpenClaim := { program := "ytbhapclaochcnaa", sum := "3a122e328815c21f9111f2fe56e891a9f98e630f6f6f5613d79100b0907c73e6", func := "concord/concordlaw15.LetterRuns", spec := "letterRuns", apart := false }
def LetterRunsSaid : Prop := letterRunsRow.holds Try.pinned (OpenSpec.ofChange letterRunsSpec)

/-- ITS FALSE NEIGHBOUR: 'it returns false'. Refute it at one input. -/
def letterRunsWrong : ChangeSpec := { name := "letterRuns", fn := fun _ => fun
  | [] => { results := [.lit (.bool false)], args := [] }
  | _ => none }
def LetterRunsWrongFalsely : Prop := letterRunsRow.holds Try.pinned (OpenSpec.ofChange letterRunsWrong)

/-- 'concordlaw15.LetterWrites': WHATEVER THE INPUT: true; the input reads as it did. -/
def letterWritesSpec : ChangeSpec := { name := "letterWrites", fn := fun _ => fun
  | [d1, d2] => { results := [.lit (.bool true)], args := [d1, d2] }
  | _ => none }
def letterWritesRow : OpenClaim := { program := "ytbhapclaochcnaa", sum := "3a122e328815c21f9111f2fe56e891a9f98e630f6f6f5613d79100b0907c73e6", func := "concord/concordlaw15.LetterWrites", spec := "letterWrites", apart := false }
def LetterWritesSaid : Prop := letterWritesRow.holds Try.pinned (OpenSpec.ofChange letterWritesSpec)

/-- ITS FALSE NEIGHBOUR: 'it returns false'. Refute it at one input. -/
def letterWritesWrong : ChangeSpec := { name := "letterWrites", fn := fun _ => fun
  | [d1, d2] => { results := [.lit (.bool false)], args := [d1, d2] }
  | _ => none }
def LetterWritesWrongFalsely : Prop := letterWritesRow.holds Try.pinned (OpenSpec.ofChange letterWritesWrong)

/-- 'concordlaw15.LetterReads': WHATEVER THE INPUT: true; the input reads as it did. -/
def letterReadsSpec : ChangeSpec := { name := "letterReads", fn := fun _ => fun
  | [d1, d2, d3, d4, d5] => { results := [.lit (.bool true)], args := [d1, d2, d3, d4, d5] }
  | _ => none }
def letterReadsRow : OpenClaim := { program := "ytbhapclaochcnaa", sum := "3a122e328815c21f9111f2fe56e891a9f98e630f6f6f5613d79100b0907c73e6", func := "concord/concordlaw15.LetterReads", spec := "letterReads", apart := false }
def LetterReadsSaid : Prop := letterReadsRow.holds Try.pinned (OpenSpec.ofChange letterReadsSpec)

/-- ITS FALSE NEIGHBOUR: 'it returns false'. Refute it at one input. -/
def letterReadsWrong : ChangeSpec := { name := "letterReads", fn := fun _ => fun
  | [d1, d2, d3, d4, d5] => { results := [.lit (.bool false)], args := [d1, d2, d3, d4, d5] }
  | _ => none }
def LetterReadsWrongFalsely : Prop := letterReadsRow.holds Try.pinned (OpenSpec.ofChange letterReadsWrong)

/-- 'concordlaw15.LetterBack': WHATEVER THE INPUT: true; the input reads as it did. -/
def letterBackSpec : ChangeSpec := { name := "letterBack", fn := fun _ => fun
  | [d1, d2, d3] => { results := [.lit (.bool true)], args := [d1, d2, d3] }
  | _ => none }
def letterBackRow : OpenClaim := { program := "ytbhapclaochcnaa", sum := "3a122e328815c21f9111f2fe56e891a9f98e630f6f6f5613d79100b0907c73e6", func := "concord/concordlaw15.LetterBack", spec := "letterBack", apart := false }
def LetterBackSaid : Prop := letterBackRow.holds Try.pinned (OpenSpec.ofChange letterBackSpec)

/-- ITS FALSE NEIGHBOUR: 'it returns false'. Refute it at one input. -/
def letterBackWrong : ChangeSpec := { name := "letterBack", fn := fun _ => fun
  | [d1, d2, d3] => { results := [.lit (.bool false)], args := [d1, d2, d3] }
  | _ => none }
def LetterBackWrongFalsely : Prop := letterBackRow.holds Try.pinned (OpenSpec.ofChange letterBackWrong)

/-- 'concordlaw15.LetterApart': WHATEVER THE INPUT: true; the input reads as it did. -/
def letterApartSpec : ChangeSpec := { name := "letterApart", fn := fun _ => fun
  | [d1, d2] => { results := [.lit (.bool true)], args := [d1, d2] }
  | _ => none }
def letterApartRow : OpenClaim := { program := "ytbhapclaochcnaa", sum := "3a122e328815c21f9111f2fe56e891a9f98e630f6f6f5613d79100b0907c73e6", func := "concord/concordlaw15.LetterApart", spec := "letterApart", apart := false }
def LetterApartSaid : Prop := letterApartRow.holds Try.pinned (OpenSpec.ofChange letterApartSpec)

/-- ITS FALSE NEIGHBOUR: 'it returns false'. Refute it at one input. -/
def letterApartWrong : ChangeSpec := { name := "letterApart", fn := fun _ => fun
  | [d1, d2] => { results := [.lit (.bool false)], args := [d1, d2] }
  | _ => none }
def LetterApartWrongFalsely : Prop := letterApartRow.holds Try.pinned (OpenSpec.ofChange letterApartWrong)

/-- 'concordlaw15.LetterCells': WHATEVER THE INPUT: true; the input reads as it did. -/
def letterCellsSpec : ChangeSpec := { name := "letterCells", fn := fun _ => fun
  | [d] => { results := [.lit (.bool true)], args := [d] }
  | _ => none }
def letterCellsRow : OpenClaim := { program := "ytbhapclaochcnaa", sum := "3a122e328815c21f9111f2fe56e891a9f98e630f6f6f5613d79100b0907c73e6", func := "concord/concordlaw15.LetterCells", spec := "letterCells", apart := false }
def LetterCellsSaid : Prop := letterCellsRow.holds Try.pinned (OpenSpec.ofChange letterCellsSpec)

/-- ITS FALSE NEIGHBOUR: 'it returns false'. Refute it at one input. -/
def letterCellsWrong : ChangeSpec := { name := "letterCells", fn := fun _ => fun
  | [d] => { results := [.lit (.bool false)], args := [d] }
  | _ => none }
def LetterCellsWrongFalsely : Prop := letterCellsRow.holds Try.pinned (OpenSpec.ofChange letterCellsWrong)

/- THE SECOND FORM. 'bulk': how many values and letters a reading holds, each counted each time it is reached (what is shared counts as often as it is met; a slice's spare places count too). A statement '..UptoSaid' is the law's where the arguments, and the package variables that the reading takes, are together of bulk at most 1048576: NARROWER than '..Said'. Prove '..Said' where nothing that the law and all that it calls make is longer than what came in: it says more and counts as full. Else prove '..UptoSaid'. A law counts once. -/
mutual
def uptoBulk {H : Type} : DataW H → Nat
  | .lit (.string bytes) => bytes.length + 1
  | .lit _ => 1
  | .nil => 1
  | .ptr d => uptoBulk d + 1
  | .slice elems spare => uptoBulkAll elems + uptoBulkAll spare + 1
  | .agg parts => uptoBulkAll parts + 1
  | .iface _ d => uptoBulk d + 1
  | .map entries => uptoBulkEntries entries + 1
  | .held _ => 1
def uptoBulkAll {H : Type} : List (DataW H) → Nat
  | [] => 0
  | d :: r => uptoBulk d + uptoBulkAll r
def uptoBulkEntries {H : Type} : List (Lit × DataW H) → Nat
  | [] => 0
  | x :: r => uptoBulkEntry x + uptoBulkEntries r
def uptoBulkEntry {H : Type} : Lit × DataW H → Nat
  | (.string bytes, d) => bytes.length + uptoBulk d + 1
  | (_, d) => uptoBulk d + 1
 end
def uptoSmall : (H : Type) → List (DataW H) → Bool := fun _ ds => decide (uptoBulkAll ds ≤ 1048576)
def OpenSpec.upto (s : _root_.Go.ChangeSpec) : _root_.Go.OpenSpec := { _root_.Go.OpenSpec.ofChange s with cond := some uptoSmall }

/-- 'concordlaw15.LetterRuns', WHERE WHAT IT READS IS OF BULK AT MOST 1048576: true; the input reads as it did. -/
def letterRunsUptoRow : OpenClaim := { program := "ytbhapclaochcnaa", sum := "3a122e328815c21f9111f2fe56e891a9f98e630f6f6f5613d79100b0907c73e6", func := "concord/concordlaw15.LetterRuns", spec := "letterRuns", apart := false, narrowed := true }
def LetterRunsUptoSaid : Prop := letterRunsUptoRow.holds Try.pinned (OpenSpec.upto letterRunsSpec)

/-- 'concordlaw15.LetterWrites', WHERE WHAT IT READS IS OF BULK AT MOST 1048576: true; the input reads as it did. -/
def letterWritesUptoRow : OpenClaim := { program := "ytbhapclaochcnaa", sum := "3a122e328815c21f9111f2fe56e891a9f98e630f6f6f5613d79100b0907c73e6", func := "concord/concordlaw15.LetterWrites", spec := "letterWrites", apart := false, narrowed := true }
def LetterWritesUptoSaid : Prop := letterWritesUptoRow.holds Try.pinned (OpenSpec.upto letterWritesSpec)

/-- 'concordlaw15.LetterReads', WHERE WHAT IT READS IS OF BULK AT MOST 1048576: true; the input reads as it did. -/
def letterReadsUptoRow : OpenClaim := { program := "ytbhapclaochcnaa", sum := "3a122e328815c21f9111f2fe56e891a9f98e630f6f6f5613d79100b0907c73e6", func := "concord/concordlaw15.LetterReads", spec := "letterReads", apart := false, narrowed := true }
def LetterReadsUptoSaid : Prop := letterReadsUptoRow.holds Try.pinned (OpenSpec.upto letterReadsSpec)

/-- 'concordlaw15.LetterBack', WHERE WHAT IT READS IS OF BULK AT MOST 1048576: true; the input reads as it did. -/
def letterBackUptoRow : OpenClaim := { program := "ytbhapclaochcnaa", sum := "3a122e328815c21f9111f2fe56e891a9f98e630f6f6f5613d79100b0907c73e6", func := "concord/concordlaw15.LetterBack", spec := "letterBack", apart := false, narrowed := true }
def LetterBackUptoSaid : Prop := letterBackUptoRow.holds Try.pinned (OpenSpec.upto letterBackSpec)

/-- 'concordlaw15.LetterApart', WHERE WHAT IT READS IS OF BULK AT MOST 1048576: true; the input reads as it did. -/
def letterApartUptoRow : OpenClaim := { program := "ytbhapclaochcnaa", sum := "3a122e328815c21f9111f2fe56e891a9f98e630f6f6f5613d79100b0907c73e6", func := "concord/concordlaw15.LetterApart", spec := "letterApart", apart := false, narrowed := true }
def LetterApartUptoSaid : Prop := letterApartUptoRow.holds Try.pinned (OpenSpec.upto letterApartSpec)

/-- 'concordlaw15.LetterCells', WHERE WHAT IT READS IS OF BULK AT MOST 1048576: true; the input reads as it did. -/
def letterCellsUptoRow : OpenClaim := { program := "ytbhapclaochcnaa", sum := "3a122e328815c21f9111f2fe56e891a9f98e630f6f6f5613d79100b0907c73e6", func := "concord/concordlaw15.LetterCells", spec := "letterCells", apart := false, narrowed := true }
def LetterCellsUptoSaid : Prop := letterCellsUptoRow.holds Try.pinned (OpenSpec.upto letterCellsSpec)

end Rows
end Go.Proofs.Ytbhapclaochcnaa
