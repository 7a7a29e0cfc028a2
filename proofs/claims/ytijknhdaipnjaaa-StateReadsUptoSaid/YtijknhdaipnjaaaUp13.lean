/- Settled slices whose cells may hold nothing. No condition: lemmas of any program. -/
import Derived.Test.YtijknhdaipnjaaaAm40
namespace Go.Proofs.Ytijknhdaipnjaaa
open Go.RowKit
set_option linter.all false
def upP : PD → PD
  | .sc (.slice none 0 0) => .slc 3 []
  | p => p
theorem upP_cases (p : PD) : upP p = p ∨ (p = .sc (.slice none 0 0) ∧ upP p = .slc 3 []) := by
  unfold upP
  split
  · exact .inr ⟨rfl, rfl⟩
  · exact .inl rfl
def upR (xs : List (List PD)) : List (List PD) := xs.map fun x => x.map upP
theorem RepP.upP {w : World} {S : Nat → Prop} {p : PD} {u : Value} (h : RepP w S p u) : RepP w S (upP p) u := by
  rcases upP_cases p with e | ⟨e, e2⟩
  · rw [e]; exact h
  · rw [e2]
    rw [e] at h
    exact .inl ⟨rfl, h⟩
theorem CellsP.upP {w : World} {S : Nat → Prop} : ∀ (ps : List PD) (a : Addr), CellsP w S ps a → CellsP w S (ps.map Proofs.Ytijknhdaipnjaaa.upP) a
  | [], _, _ => trivial
  | p :: ps, a, ⟨⟨u, h1, h2, h3⟩, h4⟩ => ⟨⟨u, h1, h2, RepP.upP h3⟩, CellsP.upP ps _ h4⟩
theorem RowsP.upR {w : World} {S : Nat → Prop} {sz : Nat} : ∀ (xs : List (List PD)) (a : Addr), RowsP w S sz xs a → RowsP w S sz (upR xs) a
  | [], _, _ => trivial
  | x :: xs, a, ⟨h1, h2, h3⟩ => ⟨by rw [List.length_map]; exact h1, CellsP.upP x a h2, RowsP.upR xs _ h3⟩
theorem Rep.upR {E : Env} {sz : Nat} {xs : List (List PD)} {u : Value} (h : Rep E (.d (.slc sz xs)) u) : Rep E (.d (.slc sz (upR xs))) u := by
  rcases h with ⟨rfl, h⟩ | ⟨a, c, h1, h2, h3, h4, h5⟩
  · exact .inl ⟨rfl, h⟩
  · refine .inr ⟨a, c, ?_, ?_, h3, ?_, RowsP.upR xs a h5⟩
    · simpa [Proofs.Ytijknhdaipnjaaa.upR] using h1
    · simpa [Proofs.Ytijknhdaipnjaaa.upR] using h2
    · intro hn
      refine h4 fun e => hn ?_
      rw [e]; rfl
def toldR (s : SL) : SL → Prop
  | [] => True
  | (i, d) :: l => (getS s i = d ∨ ∃ sz xs, getS s i = .d (.slc sz xs) ∧ d = .d (.slc sz (upR xs))) ∧ toldR s l
theorem toldR_get {s : SL} : ∀ {l : SL}, toldR s l → ∀ i, (getS l i = getS s i ∨ ∃ sz xs, getS s i = .d (.slc sz xs) ∧ getS l i = .d (.slc sz (upR xs))) ∨ getS l i = .any
  | [], _, i => .inr rfl
  | (j, d) :: l, h, i => by
      by_cases hi : i = j
      · subst hi
        left
        have e : getS ((i, d) :: l) i = d := by simp [getS]
        rw [e]
        rcases h.1 with h1 | h1
        · exact .inl h1.symm
        · exact .inr h1
      · have := toldR_get h.2 i
        have e : getS ((j, d) :: l) i = getS l i := by
          have e0 : (i == j) = false := by simp [hi]
          simp only [getS, e0]
        rw [e]
        exact this
/-- Settled slices are told with settled empty ones where their cells hold nothing. -/
theorem told_rows {k : Nat} {s s' : SL} {st : Store} (h : toldR s s') : Told k s st s' st := by
  intro E N a hc hst hs
  refine ⟨E, rfl, hst, hc, ⟨hs.size, fun i => ?_, hs.defers⟩, fun _ _ _ h => h⟩
  rcases toldR_get h i with (h | ⟨sz, xs, h1, h2⟩) | h
  · rw [h]; exact hs.rep i
  · rw [h2]
    have := hs.rep i
    rw [h1] at this
    exact Rep.upR this
  · rw [h]; trivial
end Go.Proofs.Ytijknhdaipnjaaa
