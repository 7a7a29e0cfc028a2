/- The program logic, twenty-seventh part: a program's own table of types. No condition: lemmas of any program. -/
import Derived.Test.YtmjmbfcfnhnpmaaAm26
namespace Go.Proofs.Ytmjmbfcfnhnpmaa
open Go.RowKit
set_option linter.all false
def tabOf (P : Program) : Tab where
  kds _ := none
  sym _ := false
  pause _ := false
  ty := tyD P
  zero := zeroD P
  fld := fieldD P
  fldV t f := match P.underlying t with
    | some (.struct fs) => (match fs[f]? with
      | some fl => some (fl.type, fl.offset)
      | none => none)
    | _ => none
  arr := arrD P
  sl := slD P
  by8 t := match P.info? t with
    | some i => some i.bytes
    | none => none
  str := isStrD P
  kinds t := match P.eqGuardType P.depth t, isAggD P t with
    | false, true => kindsT P 20 t
    | _, _ => none
  place := placeD P
  bok := buildOk P
  bool t := match P.underlying t with
    | some .bool => true
    | _ => false
  ik t := match P.underlying t with
    | some (.int k) => some k
    | _ => none
  ptr t := match P.underlying t with
    | some (.pointer _) => true
    | _ => false
  body := hasBody P
theorem tabOf_ok (P : Program) : TabOk P (tabOf P) where
  ty _ _ h := h
  zero _ _ h := h
  fld _ _ _ h := h
  fldV t f x h := by
    simp only [tabOf] at h
    split at h
    · rename_i fs hu
      split at h
      · rename_i fl hf
        cases h
        exact ⟨fs, fl, hu, hf, rfl, rfl⟩
      · cases h
    · cases h
  arr _ _ h := h
  sl _ _ h := h
  by8 t x h := by
    simp only [tabOf] at h
    split at h
    · rename_i i hi
      cases h
      exact ⟨i, hi, rfl⟩
    · cases h
  str t h := isStrD_spec h
  kinds t x h := by
    simp only [tabOf] at h
    split at h
    · rename_i h1 h2
      exact ⟨h1, h2, h⟩
    · cases h
  place _ _ _ h := h
  bok _ h := h
  bool t h := by
    simp only [tabOf] at h
    split at h
    · rename_i hu; exact hu
    · cases h
  ik t k h := by
    simp only [tabOf] at h
    split at h
    · rename_i k' hu; cases h; exact hu
    · cases h
  ptr t h := by
    simp only [tabOf] at h
    split at h
    · rename_i e hu; exact ⟨e, hu⟩
    · cases h
  body _ h := h
def memN : List Nat → Nat → Bool
  | [], _ => false
  | k :: l, i => match (k == i) with
    | true => true
    | false => memN l i
/-- Tables as trees. -/
inductive Tr (α : Type) where
  | leaf
  | node (l : Tr α) (k : Nat) (v : α) (r : Tr α)
def atRow {α : Type} : Tr α → Nat → Option α
  | .leaf, _ => none
  | .node l k v r, i => match (i == k) with
    | true => some v
    | false => (match decide (i < k) with
      | true => atRow l i
      | false => atRow r i)
def Tr.rows {α : Type} : Tr α → List (Nat × α)
  | .leaf => []
  | .node l k v r => l.rows ++ (k, v) :: r.rows
theorem atRow_mem {α : Type} : ∀ (l : Tr α) (i : Nat) (v : α), atRow l i = some v → (i, v) ∈ l.rows
  | .leaf, _, _, h => by cases h
  | .node l k w r, i, v, h => by
      unfold atRow at h
      simp only [Tr.rows, List.mem_append, List.mem_cons]
      split at h
      · rename_i hh
        cases h
        exact .inr (.inl (by rw [eqb hh]))
      · split at h
        · exact .inl (atRow_mem l i v h)
        · exact .inr (.inr (atRow_mem r i v h))
theorem atRow_of {α : Type} {l : Tr α} {f : Nat → Option α} (h : l.rows.map (fun p => f p.1) = l.rows.map fun p => some p.2) (i : Nat) (v : α) (hv : atRow l i = some v) : f i = some v := by
  have hm := atRow_mem l i v hv
  obtain ⟨j, hj⟩ := List.getElem?_of_mem hm
  have := congrArg (·[j]?) h
  simp only [List.getElem?_map, hj, Option.map_some, Option.some.injEq] at this
  exact this
def atRow2 {α : Type} (l : Tr α) (t f : Nat) : Option α := match decide (f < 1000) with
  | true => atRow l (t * 1000 + f)
  | false => none
theorem atRow2_of {α : Type} {l : Tr α} {g : Nat → Nat → Option α} (h : l.rows.map (fun p => g (p.1 / 1000) (p.1 % 1000)) = l.rows.map fun p => some p.2) (t f : Nat) (v : α) (hv : atRow2 l t f = some v) : g t f = some v := by
  unfold atRow2 at hv
  split at hv
  · rename_i hf
    have := atRow_of (f := fun i => g (i / 1000) (i % 1000)) h _ v hv
    have hf' : f < 1000 := by simpa using hf
    rwa [show (t * 1000 + f) / 1000 = t by omega, show (t * 1000 + f) % 1000 = f by omega] at this
  · cases hv
def atRowB (l : Tr Bool) (t : Nat) : Bool := match atRow l t with
  | some b => b
  | none => false
theorem atRowB_of {l : Tr Bool} {g : Nat → Bool} (h : l.rows.map (fun p => some (g p.1)) = l.rows.map fun p => some p.2) (t : Nat) (hv : atRowB l t = true) : g t = true := by
  unfold atRowB at hv
  split at hv
  · rename_i b hb
    subst hv
    have := atRow_of (f := fun i => some (g i)) h _ _ hb
    simpa using this
  · cases hv
end Go.Proofs.Ytmjmbfcfnhnpmaa
