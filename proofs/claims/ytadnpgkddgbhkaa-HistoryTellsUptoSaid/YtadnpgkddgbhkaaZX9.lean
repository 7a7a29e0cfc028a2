/- The program logic, twenty-second part: the evaluation for 'cbv'. No condition: lemmas of any program. -/
import Derived.Test.YtadnpgkddgbhkaaZX8
namespace Go.Proofs.Ytadnpgkddgbhkaa
open Go.RowKit
set_option linter.all false
abbrev SL := List (Nat × DV)
def getS : SL → Nat → DV
 | [], _ => .any
 | (k, v) :: l, i => match (i == k) with
   | true => v
   | false => getS l i
def setS (l : SL) (k : Nat) (d : DV) : SL := (k, d) :: l
theorem nbeq {i k : Nat} (h : i ≠ k) : (i == k) = false := by simpa using h
theorem getS_setS (l : SL) (k : Nat) (d : DV) (i : Nat) : getS (setS l k d) i = if i = k then d else getS l i := by
 by_cases h : i = k
 ·subst h; simp [setS, getS]
 ·simp [setS, getS, h, nbeq h]
def putL (dst : Option Nat) (d : DV) (l : SL) : SL := match dst with
 | none => l
 | some k => setS l k d
theorem getS_putL (dst : Option Nat) (d : DV) (l : SL) : getS (putL dst d l) = putS dst d (getS l) := by
 cases dst with
 | none => rfl
 | some k => funext i; simp only [putL, putS, getS_setS, upd_eq]
def evL (l : SL) (x : Operand) : DV := ev (getS l) x
def isConst : Operand → Bool
 | .const _ => true
 | _ => false
def symO (T : Unit → Tab) : Operand → Bool
 | .tmp t => (T ()).sym t
 | _ => false
def litO (T : Unit → Tab) (x : Operand) : Bool := match isConst x with
 | true => true
 | false => (T ()).sym 5003
def wholeO (T : Unit → Tab) : Operand → Bool
 | .tmp t => (T ()).sym (t + 1000)
 | _ => false
def isArr (T : Unit → Tab) (t : Nat) : Bool := match (T ()).arr t with
 | some _ => true
 | none => false
def opV (T : Unit → Tab) (A : Ar) (o : Op) (s : SL) (st : Store) : SV :=
 match o with
 | .move x => some ([], evL s x, st)
 | .assign x => some ([], evL s x, st)
 | .pick c a b => pureV st (match (T ()).sym 5005 with
   | true => pickK A (evL s c) (evL s a) (evL s b)
   | false => pickV A (evL s c) (evL s a) (evL s b))
 | .alloc t => allocV T st t
 | .box t x => (match symO T x with
   | true => boxS A st t (evL s x)
   | false => boxV st t (evL s x))
 | .build t parts => (match parts.toList.any fun p => wholeO T p.2 with
   | true => pureV st (buildX T A t (parts.toList.map fun p => (p.1, evL s p.2)))
   | false => pureV st (buildV T t (parts.toList.map fun p => (p.1, evL s p.2))))
 | .buildSlice t len parts => buildSliceV T st t len (parts.toList.map fun p => (p.1, evL s p.2))
 | .load t a => (match symO T a, wholeO T a with
   | true, _ => pureV st (loadS T A st t (evL s a))
   | false, true => pureV st (loadW T A st t (evL s a))
   | false, false => pureV st (loadV T st t (evL s a)))
 | .store t a x => (match symO T a, wholeO T x with
   | _, true => storeX T A st t (evL s a) (evL s x)
   | true, false => storeS T A st t (evL s a) (evL s x)
   | false, false => storeV T st t (evL s a) (evL s x))
 | .makeSlice t l c => makeV T A st t (evL s l) (evL s c)
 | .index t x i => pureV st (indexS T A t (evL s x) (evL s i))
 | .nilCheck x => pureV st (isRefV st (evL s x))
 | .binOp op t x y _ => pureV st (binV T A st op t (evL s x) (evL s y))
 | .unOp op _ x => pureV st (unV A op (evL s x))
 | .convert src dst x => pureV st (convV T A src dst (evL s x))
 | .slice t x lo hi none => (match (T ()).sym 5000 with
   | true => (match (T ()).sym 5002, lo, hi with
     | true, some lo, none => pureV st (slice0V T A st t (evL s x) (evL s lo))
     | _, lo, hi => pureV st (slice2V T A st t (evL s x) (lo.map (evL s)) (hi.map (evL s))))
   | false => pureV st (sliceV T A st t (evL s x) (lo.map (evL s)) (hi.map (evL s))))
 | .slice t x lo (some hi) (some mx) => pureV st (slice3V T A st t (evL s x) (lo.map (evL s)) (evL s hi) (evL s mx))
 | .fieldAddr t x f => (match symO T x with
   | true => pureV st (fieldAddrS T A st t (evL s x) f)
   | false => pureV st (fieldAddrV T st t (evL s x) f))
 | .field t x f => pureV st (fieldVV T t (evL s x) f)
 | .indexAddr t x i => (match symO T x, litO T i, isArr T t with
   | false, true, true => pureV st (indexAddrV T st t (evL s x) (evL s i))
   | _, _, _ => pureV st (indexAddrS T A st t (evL s x) (evL s i)))
 | .extract x i => pureV st (extractV (evL s x) i)
 | .makeFunc (.func f) first captured => match first.toList with
   | [] => some ([], .fn f (captured.toList.map (evL s)), st)
   | _ => none
 | .call c => match c.callee, c.args.toList, c.argTypes.toList with
   | .builtin .len, [x], [t] => pureV st (lenV T A st t (evL s x))
   | .builtin .append, [x, y], [t, u] => (match (T ()).ik u, (T ()).sym 5001 with
     | some _, _ => zerosV T A st t u (evL s x) (evL s y)
     | none, true => append2V T A st t u (evL s x) (evL s y)
     | none, false => appendV T A st t u (evL s x) (evL s y))
   | .builtin .copy, [x, y], [t, u] => (match (T ()).sym 5000 with
     | true => copy2V T A st t u (evL s x) (evL s y)
     | false => copyV T A st t u (evL s x) (evL s y))
   | .builtin .max, [x, y], _ => pureV st (mmV A true (evL s x) (evL s y))
   | .builtin .min, [x, y], _ => pureV st (mmV A false (evL s x) (evL s y))
   | .builtin .cap, [x], [t] => pureV st (capV T A st t (evL s x))
   | .builtin .clear, [x], [t] => clearV T A st t (evL s x)
   | _, _, _ => none
 | _ => none
theorem opV_D {P : Program} {T : Unit → Tab} (hT : TabOk P (T ())) {o : Op} {s : SL} {st st' : Store} {cs : List Prop} {d : DV} (h : opV T A0 o s st = some (cs, d, st')) (hc : allP cs True) {K : DV → Store → Prop} (hk : K d st') : opD P o (getS s) st K := by
 have e : evL s = ev (getS s) := rfl
 unfold opV at h
 rw [e] at h
 unfold opD
 split at h
 ·cases h; exact hk
 ·cases h; exact hk
 ·obtain ⟨rfl, h'⟩ := pureV_some h
  split at h'
  ·exact pickK_D h' hk
  ·exact pickV_D h' hk
 ·exact allocV_D hT h hk
 ·split at h
  ·exact boxS_D h hc hk
  ·exact boxV_D h hk
 ·split at h
  ·obtain ⟨rfl, h'⟩ := pureV_some h; exact buildX_D hT h' hc hk
  ·obtain ⟨rfl, h'⟩ := pureV_some h; exact buildV_D hT h' hk
 ·exact .inl (buildSliceV_D hT h hk)
 ·split at h
  ·obtain ⟨rfl, h'⟩ := pureV_some h; exact loadS_D hT h' hc hk
  ·obtain ⟨rfl, h'⟩ := pureV_some h; exact loadW_D hT h' hc hk
  ·obtain ⟨rfl, h'⟩ := pureV_some h; exact loadV_D hT h' hc hk
 ·split at h
  ·exact storeX_D hT h hc hk
  ·exact storeS_D hT h hc hk
  ·exact storeV_D hT h hk
 ·exact makeV_D hT h hc hk
 ·obtain ⟨rfl, h'⟩ := pureV_some h; exact indexS_D hT h' hc hk
 ·obtain ⟨rfl, h'⟩ := pureV_some h
  obtain ⟨h1, rfl⟩ := isRefV_D h'
  exact ⟨h1, hk⟩
 ·obtain ⟨rfl, h'⟩ := pureV_some h; exact binV_D hT h' hc hk
 ·obtain ⟨rfl, h'⟩ := pureV_some h; exact unV_D h' hk
 ·obtain ⟨rfl, h'⟩ := pureV_some h; exact convV_D hT h' hc hk
 ·split at h
  ·split at h
   ·obtain ⟨rfl, h'⟩ := pureV_some h; exact slice0V_D hT h' hc hk
   ·obtain ⟨rfl, h'⟩ := pureV_some h; exact slice2V_D hT h' hc hk
  ·obtain ⟨rfl, h'⟩ := pureV_some h; exact sliceV_D hT h' hc hk
 ·obtain ⟨rfl, h'⟩ := pureV_some h; exact slice3V_D hT h' hc hk
 ·split at h
  ·obtain ⟨rfl, h'⟩ := pureV_some h; exact fieldAddrS_D hT h' hc hk
  ·obtain ⟨rfl, h'⟩ := pureV_some h; exact fieldAddrV_D hT h' hc hk
 ·obtain ⟨rfl, h'⟩ := pureV_some h; exact fieldVV_D hT h' hk
 ·split at h
  ·obtain ⟨rfl, h'⟩ := pureV_some h; exact indexAddrV_D hT h' hc hk
  ·obtain ⟨rfl, h'⟩ := pureV_some h; exact indexAddrS_D hT h' hc hk
 ·obtain ⟨rfl, h'⟩ := pureV_some h; exact extractV_D h' hk
 ·split at h
  ·rename_i hf
   cases h
   exact ⟨hf, hk⟩
  ·cases h
 ·rename_i c
  unfold callD
  split at h
  ·rename_i x t h1 h2 h3
   simp only [h1, h2, h3]
   obtain ⟨rfl, h'⟩ := pureV_some h; exact lenV_D hT h' hc hk
  ·rename_i x y t u h1 h2 h3
   simp only [h1, h2, h3]
   split at h
   ·exact .inr (.inr (zerosV_D hT h hc hk))
   ·exact .inr (.inl (append2V_D hT h hc hk))
   ·exact .inl (appendV_D hT h hc hk)
  ·rename_i x y t u h1 h2 h3
   simp only [h1, h2, h3]
   split at h
   ·exact copy2V_D hT h hc hk
   ·exact copyV_D hT h hc hk
  ·rename_i x y h1 h2
   simp only [h1, h2]
   obtain ⟨rfl, h'⟩ := pureV_some h; exact mmV_D h' hc hk
  ·rename_i x y h1 h2
   simp only [h1, h2]
   obtain ⟨rfl, h'⟩ := pureV_some h; exact mmV_D h' hc hk
  ·rename_i x t h1 h2 h3
   simp only [h1, h2, h3]
   obtain ⟨rfl, h'⟩ := pureV_some h; exact capV_D hT h' hc hk
  ·rename_i x t h1 h2 h3
   simp only [h1, h2, h3]
   exact clearV_D hT h hc hk
  ·cases h
 ·cases h
end Go.Proofs.Ytadnpgkddgbhkaa
