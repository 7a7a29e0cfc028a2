/-
  No cell of these rows narrows 'for every input' (looked for: loops, veiled, ifaces, maps, wideKeys, modest, calm, conditions, laid).
  DERIVED. THE GIVEN ROWS OF THIS SEAT. 6 by the template 'for every input the law returns true; each argument reads behind the call as it read before'; 0 by the template 'total and deterministic' (their statements: YtbceikkjogbgeaaTotals.lean).
  GIVEN WITH THE SEED: the statements are not yours to turn. If you find one false, say at which input.
  Laid BY PROGRAM, IN A SANDBOX (cutbox-rows.mjs): the forced cells as the released guide's own fill.sh prints them over the translation d34ffdc4e52286a7… (all of the seat's roots in one cut). By AI agents, Wed Nov 11 2026. No macro, syntax, notation, axiom, sorry.
-/
import Derived.Test.YtbceikkjogbgeaaChecked
import GoSem.Claim
import GoSem.ClaimJoined
import GoSem.ClaimMapViews
import Derived.JoinedTies
import Derived.KernelRfl
namespace Go.Proofs.Ytbceikkjogbgeaa
/- THE CELL 'sum', in the pinned program and in every row, IS THE sha256 OF THE DUMP (.gsa) THAT YtbceikkjogbgeaaProg.lean LOADS. Nothing in Lean hashes anything: it is a label: what it is worth is what the hold of that sum in a sandbox is worth. -/
noncomputable def Try.pinned : Pinned := { name := "ytbceikkjogbgeaa", sum := "d34ffdc4e52286a71a2335534412f2afab0aecc7535bca48b85fad4b532f6a10", checked := Try.checked }
namespace Rows
def none {H : Type} : Left H := { results := [], args := [] }

/-- 'concordlaw11.KvRuns': WHATEVER THE INPUT: true; the input reads as it did. -/
def kvRunsSpec : ChangeSpec := { name := "kvRuns", fn := fun _ => fun
  | [] => { results := [.lit (.bool true)], args := [] }
  | _ => none }
def kvRunsRow : OpenClaim := { program := "ytbceikkjogbgeaa", sum := "d34ffdc4e52286a71a2335534412f2afab0aecc7535bca48b85fad4b532f6a10", func := "concord/concordlaw11.KvRuns", spec := "kvRuns", inPlace := ["slices.overlaps[concord/api.Pair]"], apart := false }
def KvRunsSaid : Prop := kvRunsRow.holds Try.pinned (OpenSpec.ofChange kvRunsSpec)

/-- ITS FALSE NEIGHBOUR: 'it returns false'. Refute it at one input. -/
def kvRunsWrong : ChangeSpec := { name := "kvRuns", fn := fun _ => fun
  | [] => { results := [.lit (.bool false)], args := [] }
  | _ => none }
def KvRunsWrongFalsely : Prop := kvRunsRow.holds Try.pinned (OpenSpec.ofChange kvRunsWrong)

/-- 'concordlaw11.KvOthers': WHATEVER THE INPUT: true; the input reads as it did. -/
def kvOthersSpec : ChangeSpec := { name := "kvOthers", fn := fun _ => fun
  | [d1, d2, d3, d4] => { results := [.lit (.bool true)], args := [d1, d2, d3, d4] }
  | _ => none }
def kvOthersRow : OpenClaim := { program := "ytbceikkjogbgeaa", sum := "d34ffdc4e52286a71a2335534412f2afab0aecc7535bca48b85fad4b532f6a10", func := "concord/concordlaw11.KvOthers", spec := "kvOthers", inPlace := ["slices.overlaps[concord/api.Pair]"], apart := false }
def KvOthersSaid : Prop := kvOthersRow.holds Try.pinned (OpenSpec.ofChange kvOthersSpec)

/-- ITS FALSE NEIGHBOUR: 'it returns false'. Refute it at one input. -/
def kvOthersWrong : ChangeSpec := { name := "kvOthers", fn := fun _ => fun
  | [d1, d2, d3, d4] => { results := [.lit (.bool false)], args := [d1, d2, d3, d4] }
  | _ => none }
def KvOthersWrongFalsely : Prop := kvOthersRow.holds Try.pinned (OpenSpec.ofChange kvOthersWrong)

/-- 'concordlaw11.KvRanges': WHATEVER THE INPUT: true; the input reads as it did. -/
def kvRangesSpec : ChangeSpec := { name := "kvRanges", fn := fun _ => fun
  | [d1, d2] => { results := [.lit (.bool true)], args := [d1, d2] }
  | _ => none }
def kvRangesRow : OpenClaim := { program := "ytbceikkjogbgeaa", sum := "d34ffdc4e52286a71a2335534412f2afab0aecc7535bca48b85fad4b532f6a10", func := "concord/concordlaw11.KvRanges", spec := "kvRanges", inPlace := ["slices.overlaps[concord/api.Pair]"], apart := false }
def KvRangesSaid : Prop := kvRangesRow.holds Try.pinned (OpenSpec.ofChange kvRangesSpec)

/-- ITS FALSE NEIGHBOUR: 'it returns false'. Refute it at one input. -/
def kvRangesWrong : ChangeSpec := { name := "kvRanges", fn := fun _ => fun
  | [d1, d2] => { results := [.lit (.bool false)], args := [d1, d2] }
  | _ => none }
def KvRangesWrongFalsely : Prop := kvRangesRow.holds Try.pinned (OpenSpec.ofChange kvRangesWrong)

/-- 'concordlaw11.KvDeletes': WHATEVER THE INPUT: true; the input reads as it did. -/
def kvDeletesSpec : ChangeSpec := { name := "kvDeletes", fn := fun _ => fun
  | [d1, d2, d3] => { results := [.lit (.bool true)], args := [d1, d2, d3] }
  | _ => none }
def kvDeletesRow : OpenClaim := { program := "ytbceikkjogbgeaa", sum := "d34ffdc4e52286a71a2335534412f2afab0aecc7535bca48b85fad4b532f6a10", func := "concord/concordlaw11.KvDeletes", spec := "kvDeletes", inPlace := ["slices.overlaps[concord/api.Pair]"], apart := false }
def KvDeletesSaid : Prop := kvDeletesRow.holds Try.pinned (OpenSpec.ofChange kvDeletesSpec)

/-- ITS FALSE NEIGHBOUR: 'it returns false'. Refute it at one input. -/
def kvDeletesWrong : ChangeSpec := { name := "kvDeletes", fn := fun _ => fun
  | [d1, d2, d3] => { results := [.lit (.bool false)], args := [d1, d2, d3] }
  | _ => none }
def KvDeletesWrongFalsely : Prop := kvDeletesRow.holds Try.pinned (OpenSpec.ofChange kvDeletesWrong)

/-- 'concordlaw11.KvTells': WHATEVER THE INPUT: true; the input reads as it did. -/
def kvTellsSpec : ChangeSpec := { name := "kvTells", fn := fun _ => fun
  | [d1, d2, d3, d4] => { results := [.lit (.bool true)], args := [d1, d2, d3, d4] }
  | _ => none }
def kvTellsRow : OpenClaim := { program := "ytbceikkjogbgeaa", sum := "d34ffdc4e52286a71a2335534412f2afab0aecc7535bca48b85fad4b532f6a10", func := "concord/concordlaw11.KvTells", spec := "kvTells", inPlace := ["slices.overlaps[concord/api.Pair]"], apart := false }
def KvTellsSaid : Prop := kvTellsRow.holds Try.pinned (OpenSpec.ofChange kvTellsSpec)

/-- ITS FALSE NEIGHBOUR: 'it returns false'. Refute it at one input. -/
def kvTellsWrong : ChangeSpec := { name := "kvTells", fn := fun _ => fun
  | [d1, d2, d3, d4] => { results := [.lit (.bool false)], args := [d1, d2, d3, d4] }
  | _ => none }
def KvTellsWrongFalsely : Prop := kvTellsRow.holds Try.pinned (OpenSpec.ofChange kvTellsWrong)

/-- 'concordlaw11.KvPlays': WHATEVER THE INPUT: true; the input reads as it did. -/
def kvPlaysSpec : ChangeSpec := { name := "kvPlays", fn := fun _ => fun
  | [d] => { results := [.lit (.bool true)], args := [d] }
  | _ => none }
def kvPlaysRow : OpenClaim := { program := "ytbceikkjogbgeaa", sum := "d34ffdc4e52286a71a2335534412f2afab0aecc7535bca48b85fad4b532f6a10", func := "concord/concordlaw11.KvPlays", spec := "kvPlays", inPlace := ["slices.overlaps[concord/api.Pair]"], apart := false }
def KvPlaysSaid : Prop := kvPlaysRow.holds Try.pinned (OpenSpec.ofChange kvPlaysSpec)

/-- ITS FALSE NEIGHBOUR: 'it returns false'. Refute it at one input. -/
def kvPlaysWrong : ChangeSpec := { name := "kvPlays", fn := fun _ => fun
  | [d] => { results := [.lit (.bool false)], args := [d] }
  | _ => none }
def KvPlaysWrongFalsely : Prop := kvPlaysRow.holds Try.pinned (OpenSpec.ofChange kvPlaysWrong)

/- THE SECOND FORM. 'bulk': how many values and letters a reading holds, each counted each time it is reached (what is shared counts as often as it is met; a slice's spare places count too). A statement '..UptoSaid' is the law's where the arguments, and the package variables that the reading takes, are together of bulk at most 1048576: NARROWER than '..Said'. Prove '..Said' where nothing that the law and all that it calls make is longer than what came in: it says more and counts as full. Else prove '..UptoSaid'. A law counts once. -/
mutual
def uptoBulk {H : Type} : DataW H → Nat
  | .lit (.string bytes) => bytes.length + 1
  | .lit _ => 1
  | .nil => 1
  | .ptr d => uptoBulk d + 1
  | .slice elems spare => uptoBulkAll elems + uptoBulkAll spare + 1
  | .agg parts => uptoBulkAll parts + 1
  | .iface _ d => uptoBulk d + 1
  | .map entries => uptoBulkEntries entries + 1
  | .held _ => 1
def uptoBulkAll {H : Type} : List (DataW H) → Nat
  | [] => 0
  | d :: r => uptoBulk d + uptoBulkAll r
def uptoBulkEntries {H : Type} : List (Lit × DataW H) → Nat
  | [] => 0
  | x :: r => uptoBulkEntry x + uptoBulkEntries r
def uptoBulkEntry {H : Type} : Lit × DataW H → Nat
  | (.string bytes, d) => bytes.length + uptoBulk d + 1
  | (_, d) => uptoBulk d + 1
 end
def uptoSmall : (H : Type) → List (DataW H) → Bool := fun _ ds => decide (uptoBulkAll ds ≤ 1048576)
def OpenSpec.upto (s : _root_.Go.ChangeSpec) : _root_.Go.OpenSpec := { _root_.Go.OpenSpec.ofChange s with cond := some uptoSmall }

/-- 'concordlaw11.KvRuns', WHERE WHAT IT READS IS OF BULK AT MOST 1048576: true; the input reads as it did. -/
def kvRunsUptoRow : OpenClaim := { program := "ytbceikkjogbgeaa", sum := "d34ffdc4e52286a71a2335534412f2afab0aecc7535bca48b85fad4b532f6a10", func := "concord/concordlaw11.KvRuns", spec := "kvRuns", inPlace := ["slices.overlaps[concord/api.Pair]"], apart := false, narrowed := true }
def KvRunsUptoSaid : Prop := kvRunsUptoRow.holds Try.pinned (OpenSpec.upto kvRunsSpec)

/-- 'concordlaw11.KvOthers', WHERE WHAT IT READS IS OF BULK AT MOST 1048576: true; the input reads as it did. -/
def kvOthersUptoRow : OpenClaim := { program := "ytbceikkjogbgeaa", sum := "d34ffdc4e52286a71a2335534412f2afab0aecc7535bca48b85fad4b532f6a10", func := "concord/concordlaw11.KvOthers", spec := "kvOthers", inPlace := ["slices.overlaps[concord/api.Pair]"], apart := false, narrowed := true }
def KvOthersUptoSaid : Prop := kvOthersUptoRow.holds Try.pinned (OpenSpec.upto kvOthersSpec)

/-- 'concordlaw11.KvRanges', WHERE WHAT IT READS IS OF BULK AT MOST 1048576: true; the input reads as it did. -/
def kvRangesUptoRow : OpenClaim := { program := "ytbceikkjogbgeaa", sum := "d34ffdc4e52286a71a2335534412f2afab0aecc7535bca48b85fad4b532f6a10", func := "concord/concordlaw11.KvRanges", spec := "kvRanges", inPlace := ["slices.overlaps[concord/api.Pair]"], apart := false, narrowed := true }
def KvRangesUptoSaid : Prop := kvRangesUptoRow.holds Try.pinned (OpenSpec.upto kvRangesSpec)

/-- 'concordlaw11.KvDeletes', WHERE WHAT IT READS IS OF BULK AT MOST 1048576: true; the input reads as it did. -/
def kvDeletesUptoRow : OpenClaim := { program := "ytbceikkjogbgeaa", sum := "d34ffdc4e52286a71a2335534412f2afab0aecc7535bca48b85fad4b532f6a10", func := "concord/concordlaw11.KvDeletes", spec := "kvDeletes", inPlace := ["slices.overlaps[concord/api.Pair]"], apart := false, narrowed := true }
def KvDeletesUptoSaid : Prop := kvDeletesUptoRow.holds Try.pinned (OpenSpec.upto kvDeletesSpec)

/-- 'concordlaw11.KvTells', WHERE WHAT IT READS IS OF BULK AT MOST 1048576: true; the input reads as it did. -/
def kvTellsUptoRow : OpenClaim := { program := "ytbceikkjogbgeaa", sum := "d34ffdc4e52286a71a2335534412f2afab0aecc7535bca48b85fad4b532f6a10", func := "concord/concordlaw11.KvTells", spec := "kvTells", inPlace := ["slices.overlaps[concord/api.Pair]"], apart := false, narrowed := true }
def KvTellsUptoSaid : Prop := kvTellsUptoRow.holds Try.pinned (OpenSpec.upto kvTellsSpec)

/-- 'concordlaw11.KvPlays', WHERE WHAT IT READS IS OF BULK AT MOST 1048576: true; the input reads as it did. -/
def kvPlaysUptoRow : OpenClaim := { program := "ytbceikkjogbgeaa", sum := "d34ffdc4e52286a71a2335534412f2afab0aecc7535bca48b85fad4b532f6a10", func := "concord/concordlaw11.KvPlays", spec := "kvPlays", inPlace := ["slices.overlaps[concord/api.Pair]"], apart := false, narrowed := true }
def KvPlaysUptoSaid : Prop := kvPlaysUptoRow.holds Try.pinned (OpenSpec.upto kvPlaysSpec)

end Rows
end Go.Proofs.Ytbceikkjogbgeaa
