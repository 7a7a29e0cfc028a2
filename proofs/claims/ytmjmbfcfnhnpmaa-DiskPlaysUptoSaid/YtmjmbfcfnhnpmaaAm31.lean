/- The program logic, thirty-first part: nothing told as a settled slice without elements, within aggregates too. No condition: lemmas of any program. -/
import Derived.Test.YtmjmbfcfnhnpmaaAm30
namespace Go.Proofs.Ytmjmbfcfnhnpmaa
open Go.RowKit
set_option linter.all false
mutual
def UpD : DV → DV → Prop
  | .agg as, b => ∃ bs, b = .agg bs ∧ UpL as bs
  | .tup as, b => ∃ bs, b = .tup bs ∧ UpL as bs
  | a, b => a = b ∨ (a = .d (.sc (.slice none 0 0)) ∧ ∃ sz, b = .d (.slc sz []))
def UpL : List DV → List DV → Prop
  | [], bs => bs = []
  | a :: as, bs => ∃ b cs, bs = b :: cs ∧ UpD a b ∧ UpL as cs
end
mutual
theorem UpD.rep {E : Env} : ∀ {a b : DV} {v : Value}, UpD a b → Rep E a v → Rep E b v
  | .agg as, b, v, h, hr => by
      obtain ⟨bs, rfl, h⟩ := h
      obtain ⟨vs, h1, h2, h3⟩ := hr
      exact ⟨vs, h1, h2, UpL.reps h h3⟩
  | .tup as, b, v, h, hr => by
      obtain ⟨bs, rfl, h⟩ := h
      obtain ⟨vs, h1, h3⟩ := hr
      exact ⟨vs, h1, UpL.reps h h3⟩
  | .any, b, v, h, hr => by rcases h with rfl | ⟨h, _⟩; exact hr; cases h
  | .d p, b, v, h, hr => by
      rcases h with rfl | ⟨h, sz, rfl⟩
      · exact hr
      · cases h; exact .inl ⟨rfl, hr⟩
  | .ref _ _ _, b, v, h, hr => by rcases h with rfl | ⟨h, _⟩; exact hr; cases h
  | .cref _, b, v, h, hr => by rcases h with rfl | ⟨h, _⟩; exact hr; cases h
  | .view _ _ _ _ _, b, v, h, hr => by rcases h with rfl | ⟨h, _⟩; exact hr; cases h
  | .fn _ _, b, v, h, hr => by rcases h with rfl | ⟨h, _⟩; exact hr; cases h
theorem UpL.reps {E : Env} : ∀ {as bs : List DV} {vs : List Value}, UpL as bs → Reps E as vs → Reps E bs vs
  | [], bs, vs, h, hr => by have h : bs = [] := h; subst h; exact hr
  | a :: as, bs, [], h, hr => hr.elim
  | a :: as, bs, v :: vs, h, hr => by
      obtain ⟨b, cs, rfl, h1, h2⟩ := h
      exact ⟨UpD.rep h1 hr.1, UpL.reps h2 hr.2⟩
end
theorem UpL.refl : ∀ {as : List DV}, (∀ a ∈ as, UpD a a) → UpL as as
  | [], _ => rfl
  | a :: as, h => ⟨a, as, rfl, h a (by simp), UpL.refl fun x hx => h x (by simp [hx])⟩
mutual
theorem UpD.refl : ∀ a : DV, UpD a a
  | .agg as => ⟨as, rfl, UpL.refl' as⟩
  | .tup as => ⟨as, rfl, UpL.refl' as⟩
  | .any => .inl rfl
  | .d _ => .inl rfl
  | .ref _ _ _ => .inl rfl
  | .cref _ => .inl rfl
  | .view _ _ _ _ _ => .inl rfl
  | .fn _ _ => .inl rfl
theorem UpL.refl' : ∀ as : List DV, UpL as as
  | [] => rfl
  | a :: as => ⟨a, as, rfl, UpD.refl a, UpL.refl' as⟩
end
theorem UpL.done : UpL [] [] := rfl
theorem UpL.keep {a : DV} {as bs : List DV} (h : UpL as bs) : UpL (a :: as) (a :: bs) := ⟨_, _, rfl, UpD.refl a, h⟩
theorem UpL.nil {sz : Nat} {as bs : List DV} (h : UpL as bs) : UpL (.d (.sc (.slice none 0 0)) :: as) (.d (.slc sz []) :: bs) := ⟨_, _, rfl, .inr ⟨rfl, _, rfl⟩, h⟩
theorem UpL.agg {cs ds as bs : List DV} (h1 : UpL cs ds) (h : UpL as bs) : UpL (.agg cs :: as) (.agg ds :: bs) := ⟨_, _, rfl, ⟨_, rfl, h1⟩, h⟩
theorem TellsV.up (k : Nat) (st : Store) {d d' : DV} (h : UpD d d') : TellsV k d st d' st := fun E v h1 h2 h3 => ⟨E, rfl, h2, h1, h.rep h3, fun _ _ _ h => h⟩
mutual
theorem UpD.pure : ∀ {a b : DV}, UpD a b → closedD 0 a = true → closedD 0 b = true
  | .agg as, b, h, hr => by
      obtain ⟨bs, rfl, h⟩ := h
      exact UpL.pure h hr
  | .tup as, b, h, hr => by
      obtain ⟨bs, rfl, h⟩ := h
      exact UpL.pure h hr
  | .any, b, h, hr => by rcases h with rfl | ⟨h, _⟩; exact hr; cases h
  | .d p, b, h, hr => by
      rcases h with rfl | ⟨h, sz, rfl⟩
      · exact hr
      · rfl
  | .ref _ _ _, b, h, hr => by rcases h with rfl | ⟨h, _⟩; exact hr; cases h
  | .cref _, b, h, hr => by rcases h with rfl | ⟨h, _⟩; exact hr; cases h
  | .view _ _ _ _ _, b, h, hr => by rcases h with rfl | ⟨h, _⟩; exact hr; cases h
  | .fn _ _, b, h, hr => by rcases h with rfl | ⟨h, _⟩; exact hr; cases h
theorem UpL.pure : ∀ {as bs : List DV}, UpL as bs → closedL 0 as = true → closedL 0 bs = true
  | [], bs, h, hr => by have h : bs = [] := h; subst h; exact hr
  | a :: as, bs, h, hr => by
      obtain ⟨b, cs, rfl, h1, h2⟩ := h
      simp only [closedL, Bool.and_eq_true] at hr ⊢
      exact ⟨UpD.pure h1 hr.1, UpL.pure h2 hr.2⟩
end
/-- A settled slice without elements: it may be nothing, or not. -/
theorem nilTestL {P : Program} {N : Nat} {X : Cps} (hX : X = X0 P N) {T : Tab} (hT : TabOk P T) {t g sz sz' e : Nat} {x : Operand} {s : SL} {st : Store} {K : DV → Store → Prop}
    (h1 : T.sl t = some (e, sz)) (hx : ev (getS s) x = .d (.slc sz' [])) (k1 : K (.d (.sc (.bool true))) st) (k0 : K (.d (.sc (.bool false))) st) :
    X.op (.binOp .eql t x (.const (.slice none 0 0)) g) s st K := by
  refine opL hX ?_
  have hy : ev (getS s) (.const (.slice none 0 0)) = .d (.sc (.slice none 0 0)) := rfl
  have h2 : (slD P t).isSome = true := by rw [hT.sl _ _ h1]; rfl
  simp only [opD, hx, hy, binD]
  exact ⟨h2, k1, k0⟩
end Go.Proofs.Ytmjmbfcfnhnpmaa
