/- The program logic, thirty-sixth part: a map of numbers besides the boxes: what it holds, what its operations do. No condition: lemmas of any program. -/
import Derived.Test.YtadnpgkddgbhkaaZX13
import Derived.Maps.Keyed
import Derived.DeepKeys4
namespace Go.Proofs.Ytadnpgkddgbhkaa
open Go.RowKit Go.Maps
set_option linter.all false
theorem run_getM {P : Program} {w : World} {r : Nat} {es : Array MapEntry} {clock : Nat} (hb : w.heap[r]? = some (.map es clock)) : (getObj r).run P w = .ok (.map es clock) w := by
 simp [getObj, Sem.run, hb]
theorem run_setM {P : Program} {w : World} {r : Nat} {es : Array MapEntry} {clock : Nat} (o : Obj) (hb : w.heap[r]? = some (.map es clock)) : (setObj r o).run P w = .ok () { w with heap := w.heap.setIfInBounds r o } := by
 simp [setObj, Sem.run, hb]
section runs
variable {P : Program} {w : World} {mt kt et : TypeId} {g : Nat} {F : Value → Int} (K : Keyed P kt) (hm : P.underlying mt = some (.map kt et)) (hz : ∃ i, P.info? et = some i ∧ i.zero = some (.int .i64 0))
include K hm hz
omit K hm hz
end runs
end Go.Proofs.Ytadnpgkddgbhkaa
namespace Go.Proofs.Ytadnpgkddgbhkaa
open Go.RowKit Go.Maps
set_option linter.all false
mutual
theorem RepP.same {w w' : World} {S : Nat → Prop} (h : ∀ a, w'.cell? a = w.cell? a) : ∀ (p : PD) (u : Value), RepP w S p u → RepP w' S p u
 | .sc _, _, hr => hr
 | .slc sz xs, u, .inl h1 => .inl h1
 | .slc sz xs, u, .inr ⟨a, c, h1, h2, h3, h4, h5⟩ => .inr ⟨a, c, h1, h2, h3, h4, RowsP.same h sz xs a h5⟩
theorem RowsP.same {w w' : World} {S : Nat → Prop} (h : ∀ a, w'.cell? a = w.cell? a) (sz : Nat) : ∀ (xs : List (List PD)) (a : Addr), RowsP w S sz xs a → RowsP w' S sz xs a
 | [], _, _ => trivial
 | x :: xs, a, ⟨h1, h2, h3⟩ => ⟨h1, CellsP.same h x a h2, RowsP.same h sz xs (a.add sz) h3⟩
theorem CellsP.same {w w' : World} {S : Nat → Prop} (h : ∀ a, w'.cell? a = w.cell? a) : ∀ (ps : List PD) (a : Addr), CellsP w S ps a → CellsP w' S ps a
 | [], _, _ => trivial
 | p :: ps, a, ⟨⟨u, h1, h2, h3⟩, h4⟩ => ⟨⟨u, (h a).trans h1, h2, RepP.same h p u h3⟩, CellsP.same h ps (a.add 1) h4⟩
end
mutual
theorem Rep.same {E : Env} {w' : World} (h : ∀ a, w'.cell? a = E.w.cell? a) : ∀ (d : DV) (u : Value), Rep E d u → Rep ⟨w', E.S, E.σ, E.st⟩ d u
 | .any, _, _ => trivial
 | .d p, u, hr => RepP.same h p u hr
 | .agg cs, _, ⟨vs, h1, h3, h2⟩ => ⟨vs, h1, h3, Reps.same h cs vs h2⟩
 | .tup cs, _, ⟨vs, h1, h2⟩ => ⟨vs, h1, Reps.same h cs vs h2⟩
 | .fn _ cs, _, ⟨vs, h1, h2⟩ => ⟨vs, h1, Reps.same h cs vs h2⟩
 | .ref b ver o, u, hr => hr
 | .cref cs, _, ⟨a, h1, h2, h3⟩ => ⟨a, h1, h2, CellsP.same h cs a h3⟩
 | .view sz b ver o n, u, hr => hr
theorem Reps.same {E : Env} {w' : World} (h : ∀ a, w'.cell? a = E.w.cell? a) : ∀ (ds : List DV) (vs : List Value), Reps E ds vs → Reps ⟨w', E.S, E.σ, E.st⟩ ds vs
 | [], [], _ => trivial
 | d :: ds, v :: vs, ⟨h1, h2⟩ => ⟨Rep.same h d v h1, Reps.same h ds vs h2⟩
 | [], _ :: _, h => h.elim
 | _ :: _, [], h => h.elim
end
abbrev MS := Option (Nat × (Value → Int))
theorem map_old {E E' : Env} (hc : Conc E) (hx : Ext E E') {g : Nat} {es : Array MapEntry} {clock : Nat} (h : E.w.heap[g]? = some (.map es clock)) : E'.w.heap[g]? = some (.map es clock) := by
 rw [hx.heap g (Array.getElem?_eq_some_iff.1 h).1 fun b z bx h1 h2 => ?_]
 ·exact h
 ·cases hl : bx.live with
  | false => rfl
  | true =>
    obtain ⟨cur, a1, _⟩ := hc.box b bx g z h2 h1 hl
    rw [h] at a1
    cases a1
section
variable {P : Program} {N : Nat} {B : Env} {kt : TypeId} {Q : Exit → SL → Store → MS → Prop} {s : SL} {st : Store} {y : MS}
end
end Go.Proofs.Ytadnpgkddgbhkaa
namespace Go.Proofs.Ytadnpgkddgbhkaa
open Go.RowKit Go.Maps
set_option linter.all false
def scL : List DV → Option (List Value)
 | [] => some []
 | .d (.sc v) :: l => (match scL l with
   | some vs => some (v :: vs)
   | none => none)
 | _ => none
theorem scL_rep {E : Env} : ∀ (ds : List DV) (vs us : List Value), scL ds = some vs → Reps E ds us → us = vs
 | [], vs, [], h, _ => by cases h; rfl
 | [], _, _ :: _, _, h => h.elim
 | d :: ds, vs, [], _, h => by cases d <;> exact h.elim
 | d :: ds, vs, u :: us, h, ⟨h1, h2⟩ => by
     unfold scL at h
     split at h
     ·cases ‹_ :: _ = [] ›
     ·rename_i v l heq
      cases heq
      split at h
      ·rename_i ws hw
       cases h
       rw [scL_rep _ _ us hw h2]
       simp only [Rep, RepP] at h1
       rw [h1]
      ·cases h
     ·cases h
def valueOf : DV → Option Value
 | .d (.sc v) => some v
 | .agg cs => (match scL cs with
   | some vs => some (.agg vs.toArray)
   | none => none)
 | _ => none
theorem valueOf_rep {E : Env} {d : DV} {v u : Value} (h : valueOf d = some v) (hr : Rep E d u) : u = v := by
 unfold valueOf at h
 split at h
 ·cases h; exact hr
 ·rename_i cs
  split at h
  ·rename_i vs hv
   cases h
   obtain ⟨us, rfl, _, h2⟩ := hr
   rw [scL_rep _ _ _ hv h2]
  ·cases h
 ·cases h
structure Gr where
 isT : Nat → Prop
 isM : DV → Prop
 isKey : Value → Prop
 isX : Value → Prop
 isB : DV → Prop
 bD : DV
 x0 : Value
 look : (Value → Int) → Value → Int
 put : (Value → Int) → Value → Int → Value → Int
def allN : List Nat → (Nat → Prop) → Prop
 | [], _ => True
 | i :: l, f => f i ∧ allN l f
theorem allN_mem {f : Nat → Prop} : ∀ {l : List Nat}, allN l f → ∀ i ∈ l, f i
 | i :: l, h, j, hj => by
     rcases List.mem_cons.1 hj with rfl | hj
     ·exact h.1
     ·exact allN_mem h.2 j hj
section
variable {P : Program} {T : Unit → Tab} (hT : TabOk P (T ())) {N : Nat} {B : Env} (hB : B.σ.length = B.st.length) {mt kt et : TypeId} (hK : Keyed P kt) (hmt : P.underlying mt = some (.map kt et)) (hz : ∃ i, P.info? et = some i ∧ i.zero = some (.int .i64 0)) {g : Nat} (hg : B.w.heap.size ≤ g) {x0 : Value} {b0 : Nat}
include hT hB hK hmt hz hg
end
section
variable {P : Program} {T : Unit → Tab} (hT : TabOk P (T ())) {N : Nat} {B : Env} (hB : B.σ.length = B.st.length) {mt kt et : TypeId} (hK : Keyed P kt) (hmt : P.underlying mt = some (.map kt et)) (hz : ∃ i, P.info? et = some i ∧ i.zero = some (.int .i64 0)) {g : Nat} (x0 : Value)
include hT hB hK hmt hz
end
section
variable {P : Program} {T : Unit → Tab} (hT : TabOk P (T ())) {H : Unit → Kn} (hH : SoundK P (H ())) (hm : P.follows .mixedOrders = true) {N : Nat} {B : Env} (hB : B.σ.length = B.st.length) {kt : TypeId}
include hT hH hm hB
end
end Go.Proofs.Ytadnpgkddgbhkaa
