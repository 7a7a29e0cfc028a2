/- The program logic, thirty-seventh part: statements and functions with a map of numbers besides the boxes. No condition: lemmas of any program. -/
import Derived.Test.YtbhapclaochcnaaAm36
namespace Go.Proofs.Ytbhapclaochcnaa
open Go.RowKit Go.Maps
set_option linter.all false
mutual
theorem RepP.same {w w' : World} {S : Nat → Prop} (h : ∀ a, w'.cell? a = w.cell? a) : ∀ (p : PD) (u : Value), RepP w S p u → RepP w' S p u
  | .sc _, _, hr => hr
  | .slc sz xs, u, .inl h1 => .inl h1
  | .slc sz xs, u, .inr ⟨a, c, h1, h2, h3, h4, h5⟩ => .inr ⟨a, c, h1, h2, h3, h4, RowsP.same h sz xs a h5⟩
theorem RowsP.same {w w' : World} {S : Nat → Prop} (h : ∀ a, w'.cell? a = w.cell? a) (sz : Nat) : ∀ (xs : List (List PD)) (a : Addr), RowsP w S sz xs a → RowsP w' S sz xs a
  | [], _, _ => trivial
  | x :: xs, a, ⟨h1, h2, h3⟩ => ⟨h1, CellsP.same h x a h2, RowsP.same h sz xs (a.add sz) h3⟩
theorem CellsP.same {w w' : World} {S : Nat → Prop} (h : ∀ a, w'.cell? a = w.cell? a) : ∀ (ps : List PD) (a : Addr), CellsP w S ps a → CellsP w' S ps a
  | [], _, _ => trivial
  | p :: ps, a, ⟨⟨u, h1, h2, h3⟩, h4⟩ => ⟨⟨u, (h a).trans h1, h2, RepP.same h p u h3⟩, CellsP.same h ps (a.add 1) h4⟩
end
mutual
theorem Rep.same {E : Env} {w' : World} (h : ∀ a, w'.cell? a = E.w.cell? a) : ∀ (d : DV) (u : Value), Rep E d u → Rep ⟨w', E.S, E.σ, E.st⟩ d u
  | .any, _, _ => trivial
  | .d p, u, hr => RepP.same h p u hr
  | .agg cs, _, ⟨vs, h1, h3, h2⟩ => ⟨vs, h1, h3, Reps.same h cs vs h2⟩
  | .tup cs, _, ⟨vs, h1, h2⟩ => ⟨vs, h1, Reps.same h cs vs h2⟩
  | .fn _ cs, _, ⟨vs, h1, h2⟩ => ⟨vs, h1, Reps.same h cs vs h2⟩
  | .ref b ver o, u, hr => hr
  | .cref cs, _, ⟨a, h1, h2, h3⟩ => ⟨a, h1, h2, CellsP.same h cs a h3⟩
  | .view sz b ver o n, u, hr => hr
theorem Reps.same {E : Env} {w' : World} (h : ∀ a, w'.cell? a = E.w.cell? a) : ∀ (ds : List DV) (vs : List Value), Reps E ds vs → Reps ⟨w', E.S, E.σ, E.st⟩ ds vs
  | [], [], _ => trivial
  | d :: ds, v :: vs, ⟨h1, h2⟩ => ⟨Rep.same h d v h1, Reps.same h ds vs h2⟩
  | [], _ :: _, h => h.elim
  | _ :: _, [], h => h.elim
end
/-- What is known of the map: nothing (there is none yet), or its block and what it holds. -/
abbrev MS := Option (Nat × (Value → Int))
def MapS (P : Program) (kt : TypeId) (B : Env) (y : MS) (w : World) : Prop := match y with
  | none => True
  | some (g, F) => B.w.heap.size ≤ g ∧ MapAny P kt g F w
theorem map_old {E E' : Env} (hc : Conc E) (hx : Ext E E') {g : Nat} {es : Array MapEntry} {clock : Nat} (h : E.w.heap[g]? = some (.map es clock)) : E'.w.heap[g]? = some (.map es clock) := by
  rw [hx.heap g (Array.getElem?_eq_some_iff.1 h).1 fun b z bx h1 h2 => ?_]
  · exact h
  · cases hl : bx.live with
    | false => rfl
    | true =>
      obtain ⟨cur, a1, _⟩ := hc.box b bx g z h2 h1 hl
      rw [h] at a1
      cases a1
theorem MapS.ext {P : Program} {kt : TypeId} {B : Env} {y : MS} {E E' : Env} (hc : Conc E) (h : MapS P kt B y E.w) (hx : Ext E E') : MapS P kt B y E'.w := by
  cases y with
  | none => trivial
  | some p =>
    obtain ⟨h1, es, clock, h2, h3⟩ := h
    exact ⟨h1, es, clock, map_old hc hx h2, h3⟩
section
variable {P : Program} {N : Nat} {B : Env} {kt : TypeId} {Q : Exit → SL → Store → MS → Prop} {s : SL} {st : Store} {y : MS}
end
end Go.Proofs.Ytbhapclaochcnaa
