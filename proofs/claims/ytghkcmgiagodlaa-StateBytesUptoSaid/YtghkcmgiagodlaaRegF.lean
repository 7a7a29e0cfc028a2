/- A region in order whose built slices are settled at once. No condition: lemmas of any program. -/
import Derived.Test.YtghkcmgiagodlaaAm35
namespace Go.Proofs.Ytghkcmgiagodlaa
open Go.RowKit
set_option linter.all false
def setF (T : Unit → Tab) (o : Op) (s : SL) : RV := match o with
  | .buildSlice t len parts => setV T t len (parts.toList.map fun p => (p.1, evL s p.2))
  | _ => none
def rowF (T : Unit → Tab) (A : Ar) (X : Cps) (H : Unit → Kn) (N : Nat) : List Oper → SL → Store → (SL → Store → Prop) → Prop
  | [], s, st, Q => Q s st
  | o :: rest, s, st, Q => match dstB N o.dst, o.guard with
    | true, none => match setF T o.op s with
      | some (cs, d) => allP cs (rowF T A X H N rest (putL o.dst d s) st Q)
      | none => opC T A X H o.op s st fun d st' => rowF T A X H N rest (putL o.dst d s) st' Q
    | _, _ => False
theorem setF_D {P : Program} {T : Unit → Tab} (hT : TabOk P (T ())) {o : Op} {s : SL} {st : Store} {cs : List Prop} {d : DV} (h : setF T o s = some (cs, d)) {K : DV → Store → Prop} (hk : K d st) : opD P o (getS s) st K := by
  unfold setF at h
  split at h
  · exact .inr (setV_D hT (K := fun d => K d st) h hk)
  · cases h
theorem rowF_ok {P : Program} {T : Unit → Tab} (hT : TabOk P (T ())) {H : Unit → Kn} (hH : SoundK P (H ())) {N : Nat} {ops : Array Oper} {Q : Exit → Act → World → Prop} : ∀ (l : List Oper) (s : SL) (E : Env) (a : Act) (K : SL → Store → Prop), Conc E → SlotsOk E N (getS s) a → rowF T A0 (X0 P N) H N l s E.st K →
    (∀ (s' : SL) (a' : Act) (E' : Env), K s' E'.st → Conc E' → Ext E E' → SlotsOk E' N (getS s') a' → Q .normal a' E'.w) → wpList P ops Q l a E.w
  | [], s, E, a, K, hc, hs, h, hn => hn s a E h hc (Ext.refl E) hs
  | o :: rest, s, E, a, K, hc, hs, h, hn => by
      unfold rowF at h
      split at h
      · rename_i hd hg
        have h1 : opD P o.op (getS s) E.st fun d st' => rowF T A0 (X0 P N) H N rest (putL o.dst d s) st' K := by
          split at h
          · rename_i cs d he
            exact setF_D hT he ((allP_iff _ _).1 h).2
          · exact opC_D hT hH h
        have e : (fun d st' => rowF T A0 (X0 P N) H N rest (putL o.dst d s) st' K) = fun d st' => rowF T A0 (X0 P N) H N rest (againL o.dst (putS o.dst d (getS s)) s) st' K ∧ getS (againL o.dst (putS o.dst d (getS s)) s) = putS o.dst d (getS s) := by
          funext d st'
          rw [againL_put, getS_putL]
          simp
        rw [e] at h1
        have hst : stepD P N ops o (getS s) E.st fun s' st' => rowF T A0 (X0 P N) H N rest (againL o.dst s' s) st' K ∧ getS (againL o.dst s' s) = s' := by
          unfold stepD
          have : wantedD ops o.guard (getS s) = some true := by rw [hg]; rfl
          simp only [this]
          exact ⟨dstB_ok hd, h1⟩
        have := step_ok (P := P) (Q := Q) (ops := ops) (next := wpList P ops Q rest) hc hs o hst fun s' a' E' hk h1 hx h3 => by
          rw [← hk.2] at h3
          exact rowF_ok hT hH rest _ E' a' K h1 h3 hk.1 fun s2 a2 E2 k1 k2 k3 k4 => hn s2 a2 E2 k1 k2 (Ext.trans hc.len h1.len hx k3) k4
        unfold wpList
        exact this
      · exact h.elim
theorem regionF {P : Program} {T : Unit → Tab} (hT : TabOk P (T ())) {H : Unit → Kn} (hH : SoundK P (H ())) {N : Nat} {Q : Exit → SL → Store → Prop} {s : SL} {st : Store} {id : Nat} {ops : Array Oper} {A : Ar} {X : Cps} (hA : A = A0) (hX : X = X0 P N)
    (h : rowF T A X H N ops.toList s st (Q .normal)) : X.st (.region id ops false) Q s st := by
  subst hA; subst hX
  obtain ⟨l⟩ := ops
  show wpD P N (.region id l.toArray false) (lessQ Q) (getS s) st
  refine region_less fun E a Q' hst hc hs hn => ?_
  subst hst
  exact rowF_ok hT hH l s E a _ hc hs h hn
end Go.Proofs.Ytghkcmgiagodlaa
