/- The program logic, thirty-ninth part: loops of a known number of rounds. No condition: lemmas of any program. -/
import Derived.Test.YtmjmbfcfnhnpmaaAm35
import Derived.LoopN
namespace Go.Proofs.Ytmjmbfcfnhnpmaa
open Go.RowKit
set_option linter.all false
/-- So many rounds at most. -/
def rndC (T : Unit → Tab) (A : Ar) (X : Cps) (H : Unit → Kn) (N : Nat) (c : Code) (Q : Exit → SL → Store → Prop) : Nat → SL → Store → Prop
  | 0, _, _ => False
  | n + 1, s, st => wpC T A X H N c (thenC (rndC T A X H N c Q n) Q) s st
section
variable {P : Program} {T : Unit → Tab} (hT : TabOk P (T ())) {H : Unit → Kn} (hH : SoundK P (H ())) (hm : P.follows .mixedOrders = true) {N : Nat} {c : Code} {Q : Exit → SL → Store → Prop}
include hT hH hm
theorem rndC_ok (E0 : Env) (h0 : E0.σ.length = E0.st.length) : ∀ (n : Nat) (s : SL) (E : Env) (a : Act), Conc E → SlotsOk E N (getS s) a → Ext E0 E → rndC T A0 (X0 P N) H N c Q n s E.st →
    Code.rounds P c (fun e a' w' => ∃ (s' : Slots) (E' : Env), E'.w = w' ∧ lessQ Q e s' E'.st ∧ Conc E' ∧ Ext E0 E' ∧ SlotsOk E' N s' a') n a E.w
  | 0, _, _, _, _, _, _, h => h.elim
  | n + 1, s, E, a, hc, hs, hx, h => by
      have h1 := wpC_ok hT hH hm c _ _ _ h
      refine wp_mono (h1 E a hc rfl hs) ?_
      rintro e a' w' ⟨s', E', rfl, ⟨l, hl, hq⟩, k1, k2, k3⟩
      cases e <;> first
        | exact rndC_ok E0 h0 n l E' a' k1 (k3.less hl) (Ext.trans h0 hc.len hx k2) hq
        | exact ⟨s', E', rfl, ⟨l, hl, hq⟩, k1, Ext.trans h0 hc.len hx k2, k3⟩
/-- A loop, round by round. -/
theorem unrollL {s : SL} {st : Store} {A : Ar} {X : Cps} (hA : A = A0) (hX : X = X0 P N) (n : Nat) (h : ∀ R : Nat → SL → Store → Prop, (∀ m s st, wpC T A X H N c (thenC (R m) Q) s st → R (m + 1) s st) → R n s st) : X.st (.loop c) Q s st := by
  subst hA; subst hX
  show wpD P N (.loop c) (lessQ Q) (getS s) st
  intro E a hc hst hs
  subst hst
  refine wp_mono (wp_loop_rounds n (rndC_ok hT hH hm E hc.len n s E a hc hs (Ext.refl E) (h _ fun m s st h => h))) ?_
  rintro e a' w' ⟨s', E', rfl, hq, k1, k2, k3⟩
  exact ⟨s', E', rfl, hq, k1, k2, k3⟩
end
end Go.Proofs.Ytmjmbfcfnhnpmaa
