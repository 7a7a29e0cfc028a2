/- The program logic, thirty-fifth part: a row's room is told, and hidden again; slices of one's own settled by a call; nothing for a settled slice. No condition: lemmas of any program. -/
import Derived.Test.YtghkcmgiagodlaaAm34
namespace Go.Proofs.Ytghkcmgiagodlaa
open Go.RowKit
set_option linter.all false
/-- How 'cbv' leaves a number's cast. -/
theorem nc (k : Nat) : (NatCast.natCast k : Int) = (k : Int) := rfl
theorem wpD_after {P : Program} {N : Nat} {c : Code} {Q : Exit → Slots → Store → Prop} {s : Slots} {st : Store} (h : wpD P N c (fun e s' st' => ∃ s2 st2, Tells st.length s' st' s2 st2 ∧ Q e s2 st2) s st) : wpD P N c Q s st := by
  intro E a hc hst hs
  refine wp_mono (h E a hc hst hs) ?_
  rintro e a' w' ⟨s', E', rfl, ⟨s2, st2, ht, hq⟩, h1, h2, h3⟩
  obtain ⟨E2, a1, a2, a3, a4, a5⟩ := ht E' N a' h1 rfl h3
  exact ⟨s2, E2, a1, by rw [a2]; exact hq, a3, a5 E hc.len (by rw [hst]; exact Nat.le_refl _) h2, a4⟩
/-- A statement behind which the state is told otherwise. -/
theorem afterL {P : Program} {T : Unit → Tab} (hT : TabOk P (T ())) {H : Unit → Kn} (hH : SoundK P (H ())) (hm : P.follows .mixedOrders = true) {N : Nat} {c : Code} {Q : Exit → SL → Store → Prop} {s : SL} {st : Store} {A : Ar} {X : Cps} (hA : A = A0) (hX : X = X0 P N)
    (h : wpC T A X H N c (fun e s' st' => ∃ s2 st2, Told st.length s' st' s2 st2 ∧ Q e s2 st2) s st) : X.st c Q s st := by
  subst hA; subst hX
  show wpD P N c (lessQ Q) (getS s) st
  refine wpD_after (wpD_mono (wpC_ok hT hH hm c _ _ _ h) ?_)
  rintro e s' st' ⟨l, hl, s2, st2, ht, hq⟩
  exact ⟨getS s2, st2, Tells.trans (Tells.any _ _ _ _ hl) ht, s2, fun _ => .inl rfl, hq⟩
def toldUP (s : SL) : SL → Prop
  | [] => True
  | (i, d) :: l => (UpD (getS s i) d ∨ d = .any) ∧ toldUP s l
theorem toldUP_get {s : SL} : ∀ {l : SL}, toldUP s l → ∀ i, UpD (getS s i) (getS l i) ∨ getS l i = .any
  | [], _, i => .inr rfl
  | (j, d) :: l, h, i => by
      by_cases hi : i = j
      · subst hi
        simpa [getS] using h.1
      · have := toldUP_get h.2 i
        have e : getS ((j, d) :: l) i = getS l i := by
          have e0 : (i == j) = false := by simp [hi]
          simp only [getS, e0]
        rw [e]
        exact this
end Go.Proofs.Ytghkcmgiagodlaa
