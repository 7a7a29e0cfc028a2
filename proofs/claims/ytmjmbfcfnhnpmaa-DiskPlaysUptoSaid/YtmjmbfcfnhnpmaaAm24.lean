/- The program logic, twenty-fourth part: guarded operations for 'cbv'. No condition: lemmas of any program. -/
import Derived.Test.YtmjmbfcfnhnpmaaAm23
namespace Go.Proofs.Ytmjmbfcfnhnpmaa
open Go.RowKit
set_option linter.all false
/-- Slots that may hold nothing, and when they hold something. -/
abbrev WL := List (Nat × Option Bool)
def getW : WL → Nat → Option Bool
  | [], _ => none
  | (k, v) :: l, i => match i == k with
    | true => v
    | false => getW l i
def dropL (l : WL) (k : Nat) : WL := (k, none) :: l
def dropW (dst : Option Nat) (l : WL) : WL := match dst with
  | none => l
  | some k => dropL l k
def setW (dst : Option Nat) (W : Bool) (l : WL) : WL := match dst with
  | none => l
  | some k => (k, some W) :: l
theorem getW_dropL (l : WL) (k i : Nat) : getW (dropL l k) i = if i = k then none else getW l i := by
  by_cases h : i = k
  · subst h; simp [dropL, getW]
  · simp [dropL, getW, h, nbeq h]
def wOf (l : WL) (k : Nat) : Bool := (getW l k).getD true
/-- What is to be shown of an operand. -/
def opndC (A : Ar) (W : Option Bool) (wl : WL) : Operand → List Prop
  | .tmp t => match getW wl t with
    | none => []
    | some V => match W with
      | none => [A.imp true V]
      | some W => [A.imp W V]
  | _ => []
def wtC (A : Ar) (W : Option Bool) (wl : WL) : List Operand → List Prop
  | [] => []
  | x :: l => opndC A W wl x ++ wtC A W wl l
def andW (A : Ar) (W : Option Bool) (t : Bool) : Bool := match W with
  | none => t
  | some W => A.and W t
def readsC (A : Ar) (W : Option Bool) (wl : WL) (sp : SL) (o : Op) : Option (List Prop) :=
  match o with
  | .pick c a b => match evL sp c with
    | .d (.sc (.bool t)) => some (opndC A W wl c ++ (opndC A (some (andW A W t)) wl a ++ opndC A (some (andW A W (A.not t))) wl b))
    | _ => none
  | o => some (wtC A W wl o.operands.toList)
theorem allP_append : ∀ (cs ds : List Prop), allP (cs ++ ds) True ↔ allP cs True ∧ allP ds True
  | [], ds => by simp [allP]
  | c :: cs, ds => by simp only [List.cons_append, allP, allP_append cs ds, and_assoc]
theorem opndC_ok {W : Option Bool} {wl : WL} {x : Operand} (h : allP (opndC A0 W wl x) True) : opnd (W.getD true) (wOf wl) x := by
  cases x with
  | tmp t =>
    intro hW
    simp only [opndC] at h
    unfold wOf
    split at h
    · rename_i hg
      rw [hg]; rfl
    · rename_i V hg
      rw [hg]
      split at h
      · exact h.1 rfl
      · exact h.1 hW
  | const v => trivial
  | global g => trivial
  | func f => trivial
theorem wtC_ok {W : Option Bool} {wl : WL} : ∀ {l : List Operand}, allP (wtC A0 W wl l) True → wtOk (W.getD true) (wOf wl) l
  | [], _ => trivial
  | x :: l, h => by
      unfold wtC at h
      rw [allP_append] at h
      exact ⟨opndC_ok h.1, wtC_ok h.2⟩
theorem andW_ok (W : Option Bool) (t : Bool) : andW A0 W t = (W.getD true && t) := by
  cases W <;> simp [andW, A0]
theorem readsC_ok {W : Option Bool} {wl : WL} {sp : SL} {o : Op} {cs : List Prop} (h : readsC A0 W wl sp o = some cs) (hc : allP cs True) : readsOk (W.getD true) (wOf wl) (getS sp) o := by
  unfold readsC at h
  split at h
  · split at h
    · rename_i c a b x t ht
      cases h
      rw [allP_append, allP_append] at hc
      have ht' : ev (getS sp) c = .d (.sc (.bool t)) := ht
      unfold readsOk
      refine ⟨opndC_ok hc.1, ?_⟩
      rw [ht']
      have h1 := opndC_ok hc.2.1
      have h2 := opndC_ok hc.2.2
      simp only [Option.getD_some, andW_ok] at h1 h2
      exact ⟨h1, h2⟩
    · cases h
  · rename_i hne
    cases h
    unfold readsOk
    split
    · rename_i c a b
      exact absurd rfl (hne c a b)
    · exact wtC_ok hc
/-- Operations that are reckoned though they may not be wanted. -/
def spOk (H : Unit → Kn) : Op → Bool
  | .move _ => true
  | .assign _ => true
  | .pick .. => true
  | .load .. => true
  | .unOp .. => true
  | .binOp .. => true
  | .nilCheck _ => true
  | .convert .. => true
  | .field .. => true
  | .fieldAddr .. => true
  | .indexAddr .. => true
  | .index .. => true
  | .slice _ _ _ _ none => true
  | .extract .. => true
  | .build .. => true
  | .call c => match c.callee with
    | .builtin .len => true
    | .builtin .max => true
    | .builtin .min => true
    | .value (.func f) => knowsK (H ()) f
    | _ => false
  | _ => false
/-- An operation that turns nothing. -/
def spV (T : Unit → Tab) (A : Ar) (H : Unit → Kn) (o : Op) (s : SL) (st : Store) : RV :=
  match spOk H o with
  | true => (match o with
    | .call c => (match c.callee with
      | .value (.func f) => (match (T ()).body f, findK (H ()) f (c.args.toList.map (evL s)) with
        | true, some r => some r
        | _, _ => none)
      | _ => (match opV T A o s st with
        | some (cs, d, _) => some (cs, d)
        | none => none))
    | o => (match opV T A o s st with
      | some (cs, d, _) => some (cs, d)
      | none => none))
  | false => none
theorem spOk_keep {T : Unit → Tab} {A : Ar} {H : Unit → Kn} {o : Op} {s : SL} {st st' : Store} {cs : List Prop} {d : DV} (ho : spOk H o = true) (h : opV T A o s st = some (cs, d, st')) : st' = st := by
  unfold opV at h
  split at h <;> first
    | (cases h; rfl)
    | exact (pureV_some h).1
    | (simp [spOk] at ho; done)
    | skip
  · split at h <;> first | exact (pureV_some h).1 | (split at h <;> exact (pureV_some h).1)
  · split at h <;> first | exact (pureV_some h).1 | (split at h <;> exact (pureV_some h).1)
  · split at h <;> first | exact (pureV_some h).1 | (split at h <;> exact (pureV_some h).1)
  · split at h <;> first | exact (pureV_some h).1 | (split at h <;> exact (pureV_some h).1)
  · split at h <;> first | exact (pureV_some h).1 | (split at h <;> exact (pureV_some h).1)
  · split at h
    · exact (pureV_some h).1
    · rename_i h1 h2 h3
      simp [spOk, h1] at ho
    · rename_i h1 h2 h3
      simp [spOk, h1] at ho
    · exact (pureV_some h).1
    · exact (pureV_some h).1
    · exact (pureV_some h).1
    · rename_i h1 h2 h3
      simp [spOk, h1] at ho
    · cases h
theorem spV_D {P : Program} {T : Unit → Tab} (hT : TabOk P (T ())) {H : Unit → Kn} (hH : SoundK P (H ())) {o : Op} {s : SL} {st : Store} {cs : List Prop} {d : DV} (h : spV T A0 H o s st = some (cs, d)) (hc : allP cs True) {K : DV → Store → Prop} (hk : K d st) : opD P o (getS s) st K := by
  have e : evL s = ev (getS s) := rfl
  unfold spV at h
  split at h
  · rename_i ho
    have gen : ∀ {o : Op}, spOk H o = true → (match opV T A0 o s st with
        | some (cs, d, _) => some (cs, d)
        | none => none) = some (cs, d) → opD P o (getS s) st K := fun {o} ho h => by
      split at h
      · rename_i cs' d' st' hv
        cases h
        have := spOk_keep ho hv
        subst this
        exact opV_D hT hv hc hk
      · cases h
    split at h
    · rename_i c
      split at h
      · rename_i f h1
        simp only [opD, callD, h1]
        rw [e] at h
        split at h
        · rename_i r hb hr
          cases h
          obtain ⟨h1, h2⟩ := hH f _ _ _ hr hc
          exact .inl ⟨hT.body _ hb, FnV.use h1 h2 hk⟩
        · cases h
      · exact gen ho h
    · exact gen ho h
  · cases h
/-- What is to be shown, if it is wanted. -/
def whenL (A : Ar) (W : Bool) : List Prop → List Prop
  | [] => []
  | c :: cs => A.imq W c :: whenL A W cs
theorem whenL_ok {W : Bool} (hW : W = true) : ∀ {cs : List Prop}, allP (whenL A0 W cs) True → allP cs True
  | [], _ => trivial
  | _ :: _, h => ⟨h.1 hW, whenL_ok hW h.2⟩
/-- At the end: what may hold nothing holds anything. -/
def killW : WL → SL → SL
  | [], sp => sp
  | (k, some _) :: wl, sp => (k, .any) :: killW wl sp
  | (_, none) :: wl, sp => killW wl sp
theorem getS_killW : ∀ (wl : WL) (sp : SL) (i : Nat), (getS (killW wl sp) i = getS sp i ∧ getW wl i = none) ∨ getS (killW wl sp) i = .any
  | [], sp, i => .inl ⟨rfl, rfl⟩
  | (k, some v) :: wl, sp, i => by
      by_cases h : i = k
      · subst h; exact .inr (by simp [killW, getS])
      · have ih := getS_killW wl sp i
        simpa only [killW, getS, getW, nbeq h] using ih
  | (k, none) :: wl, sp, i => by
      have ih := getS_killW wl sp i
      by_cases h : i = k
      · subst h
        simp only [killW, getW, BEq.rfl, and_true]
        rcases ih with ⟨h1, _⟩ | h1
        · exact .inl h1
        · exact .inr h1
      · simpa only [killW, getW, nbeq h] using ih
theorem killW_ok {wl : WL} {sp : SL} {s : Slots} (hI : Spec s (getS sp) (wOf wl)) (i : Nat) : getS (killW wl sp) i = s i ∨ getS (killW wl sp) i = .any := by
  have hi := hI i
  rcases getS_killW wl sp i with ⟨h1, h2⟩ | h
  · left
    rw [h1, hi]
    simp [wOf, h2]
  · exact .inr h
theorem wOf_drop (dst : Option Nat) (wl : WL) : (wOf (dropW dst wl)) = putW dst true (wOf wl) := by
  cases dst with
  | none => rfl
  | some k =>
    funext i
    simp only [wOf, dropW, putW, updW_eq, getW_dropL]
    by_cases h : i = k <;> simp [h]
theorem wOf_set (dst : Option Nat) (W : Bool) (wl : WL) : (wOf (setW dst W wl)) = putW dst W (wOf wl) := by
  cases dst with
  | none => rfl
  | some k =>
    funext i
    simp only [wOf, setW, putW, updW_eq, getW]
    by_cases h : i = k
    · simp [h]
    · simp [h, nbeq h]
end Go.Proofs.Ytmjmbfcfnhnpmaa
