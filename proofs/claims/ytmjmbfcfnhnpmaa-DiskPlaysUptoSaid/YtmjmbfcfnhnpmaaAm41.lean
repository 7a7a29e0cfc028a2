/- The program logic, forty-first part: regions in any order whose orders are told apart: which one of two operations comes first. No condition: lemmas of any program. -/
import Derived.Test.YtmjmbfcfnhnpmaaAm40
namespace Go.Proofs.Ytmjmbfcfnhnpmaa
open Go.RowKit
set_option linter.all false
structure PermOK (π : List Nat) (n : Nat) : Prop where
  len : π.length = n
  lt : ∀ i ∈ π, i < n
  to : ∀ i, i < n → π.idxOf i < n ∧ π[π.idxOf i]? = some i
  back : ∀ k, k < n → ∃ i, π[k]? = some i ∧ i < n ∧ π.idxOf i = k
  out : ∀ i, n ≤ i → π.idxOf i = n
section perm
variable {P : Program} {ops : Array Oper} {Q : Exit → Act → World → Prop} {π : List Nat} {ex : List (Nat × Nat)} (hp : PermOK π ops.size)
include hp
end perm
section perm2
variable {ops : Array Oper} {π : List Nat} {ex : List (Nat × Nat)} (hp : PermOK π ops.size)
include hp
end perm2
/-- Which one of two operations comes first; at the end an order and levels. -/
inductive SpT where
  | leaf (π lv : List Nat)
  | node (x y : Nat) (l r : SpT)
def SpT.holds (K : List Nat → List Nat → List (Nat × Nat) → Prop) : SpT → List (Nat × Nat) → Prop
  | .leaf π lv, ex => K π lv ex
  | .node x y l r, ex => x ≠ y ∧ l.holds K ((x, y) :: ex) ∧ r.holds K ((y, x) :: ex)
end Go.Proofs.Ytmjmbfcfnhnpmaa
