/- The program logic, thirty-second part: loops that change one counter. No condition: lemmas of any program. -/
import Derived.Test.YtmjmbfcfnhnpmaaAm31
namespace Go.Proofs.Ytmjmbfcfnhnpmaa
open Go.RowKit
set_option linter.all false

/-- The slots that a loop keeps, and its counter. -/
def keptS (j : Nat) (s : SL) (i : Int) (ks : List Nat) : SL := (j, .d (.sc (.int .i64 i))) :: ks.map fun k => (k, getS s k)
theorem toldP_kept (s : SL) : ∀ ks : List Nat, toldP id s (ks.map fun k => (k, getS s k))
  | [] => trivial
  | k :: ks => ⟨.inl rfl, toldP_kept s ks⟩
section
variable {P : Program} {T : Unit → Tab} (hT : TabOk P (T ())) {H : Unit → Kn} (hH : SoundK P (H ())) (hm : P.follows .mixedOrders = true) {N : Nat} {c : Code} {Q : Exit → SL → Store → Prop} {s : SL} {st : Store} {A : Ar} {X : Cps}
include hT hH hm in
theorem loopK (hA : A = A0) (hX : X = X0 P N) (ks : List Nat) (j : Nat) (i0 : Int) (Inv : Int → Prop) (μ : Int → Nat) (hs : getS s j = .d (.sc (.int .i64 i0))) (h0 : Inv i0)
    (round : ∀ (R : SL → Store → Prop) (i : Int), (R = fun s' st' => ∃ y, Inv y ∧ μ y < μ i ∧ Told st.length s' st' (keptS j s y ks) st) → Inv i → wpC T A X H N c (thenC R Q) (keptS j s i ks) st) : X.st (.loop c) Q s st :=
  loopL hT hH hm hA hX Inv (fun i => keptS j s i ks) (fun _ => st) μ i0 h0 (told_less ⟨.inl hs.symm, toldP_kept s ks⟩) round
end
end Go.Proofs.Ytmjmbfcfnhnpmaa
