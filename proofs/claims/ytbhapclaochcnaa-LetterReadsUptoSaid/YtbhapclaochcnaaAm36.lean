/- The program logic, thirty-sixth part: a map of numbers besides the boxes: what it holds, what its operations do. No condition: lemmas of any program. -/
import Derived.Test.YtbhapclaochcnaaAm35
import Derived.Maps.Keyed
import Derived.DeepKeys4
namespace Go.Proofs.Ytbhapclaochcnaa
open Go.RowKit Go.Maps
set_option linter.all false
/-- What a map holds: each key's number (nought: it isn't there, or it is with nought). -/
def MapOk (P : Program) (kt : TypeId) (es : Array MapEntry) (clock : Nat) (F : Value → Int) : Prop :=
  (∀ e ∈ es.toList, (∃ l, keyOf P kt e.key = some l) ∧ e.val = .int .i64 (F e.key) ∧ e.born < clock) ∧ (∀ x, (∀ e ∈ es.toList, e.key ≠ x) → F x = 0) ∧
  es.toList.Pairwise fun a b => a.key ≠ b.key ∧ a.born ≠ b.born
def MapAny (P : Program) (kt : TypeId) (g : Nat) (F : Value → Int) (w : World) : Prop := ∃ es clock, w.heap[g]? = some (.map es clock) ∧ MapOk P kt es clock F
/-- The same, with the stamp of one key: the one that it has, or will have. -/
def MapAt (P : Program) (kt : TypeId) (g : Nat) (x0 : Value) (b0 : Nat) (F : Value → Int) (there : Bool) (w : World) : Prop := ∃ es clock, w.heap[g]? = some (.map es clock) ∧ MapOk P kt es clock F ∧
  ((∃ e ∈ es.toList, e.key = x0 ∧ e.born = b0) ∨ ((∀ e ∈ es.toList, e.key ≠ x0) ∧ clock = b0)) ∧ (there = true → ∃ e ∈ es.toList, e.key = x0)
theorem MapAt.any {P : Program} {kt : TypeId} {g : Nat} {x0 : Value} {b0 : Nat} {F : Value → Int} {there : Bool} {w : World} (h : MapAt P kt g x0 b0 F there w) : MapAny P kt g F w := by
  obtain ⟨es, clock, h1, h2, _⟩ := h
  exact ⟨es, clock, h1, h2⟩
theorem MapAny.at {P : Program} {kt : TypeId} {g : Nat} {F : Value → Int} {w : World} (h : MapAny P kt g F w) (x0 : Value) : ∃ b0, MapAt P kt g x0 b0 F false w := by
  obtain ⟨es, clock, h1, h2⟩ := h
  by_cases hx : ∃ e ∈ es.toList, e.key = x0
  · obtain ⟨e, he, hk⟩ := hx
    exact ⟨e.born, es, clock, h1, h2, .inl ⟨e, he, hk, rfl⟩, fun h => by cases h⟩
  · refine ⟨clock, es, clock, h1, h2, .inr ⟨fun e he hk => hx ⟨e, he, hk⟩, rfl⟩, fun h => by cases h⟩
section runs
variable {P : Program} {w : World} {mt kt et : TypeId} {g : Nat} {F : Value → Int} (K : Keyed P kt) (hm : P.underlying mt = some (.map kt et)) (hz : ∃ i, P.info? et = some i ∧ i.zero = some (.int .i64 0))
include K hm hz
omit K hm hz
end runs
end Go.Proofs.Ytbhapclaochcnaa
