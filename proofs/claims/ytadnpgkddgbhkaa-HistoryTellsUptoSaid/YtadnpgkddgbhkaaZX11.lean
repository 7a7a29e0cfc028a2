/- The program logic, twenty-fourth part: guarded operations for 'cbv'. No condition: lemmas of any program. -/
import Derived.Test.YtadnpgkddgbhkaaZX10
namespace Go.Proofs.Ytadnpgkddgbhkaa
open Go.RowKit
set_option linter.all false
abbrev WL := List (Nat × Option Bool)
def getW : WL → Nat → Option Bool
 | [], _ => none
 | (k, v) :: l, i => match i == k with
   | true => v
   | false => getW l i
def dropL (l : WL) (k : Nat) : WL := (k, none) :: l
def dropW (dst : Option Nat) (l : WL) : WL := match dst with
 | none => l
 | some k => dropL l k
def setW (dst : Option Nat) (W : Bool) (l : WL) : WL := match dst with
 | none => l
 | some k => (k, some W) :: l
theorem getW_dropL (l : WL) (k i : Nat) : getW (dropL l k) i = if i = k then none else getW l i := by
 by_cases h : i = k
 ·subst h; simp [dropL, getW]
 ·simp [dropL, getW, h, nbeq h]
def wOf (l : WL) (k : Nat) : Bool := (getW l k).getD true
def opndC (A : Ar) (W : Option Bool) (wl : WL) : Operand → List Prop
 | .tmp t => match getW wl t with
   | none => []
   | some V => match W with
     | none => [A.imp true V]
     | some W => [A.imp W V]
 | _ => []
def wtC (A : Ar) (W : Option Bool) (wl : WL) : List Operand → List Prop
 | [] => []
 | x :: l => opndC A W wl x ++ wtC A W wl l
def andW (A : Ar) (W : Option Bool) (t : Bool) : Bool := match W with
 | none => t
 | some W => A.and W t
def readsC (A : Ar) (W : Option Bool) (wl : WL) (sp : SL) (o : Op) : Option (List Prop) :=
 match o with
 | .pick c a b => match evL sp c with
   | .d (.sc (.bool t)) => some (opndC A W wl c ++ (opndC A (some (andW A W t)) wl a ++ opndC A (some (andW A W (A.not t))) wl b))
   | _ => none
 | o => some (wtC A W wl o.operands.toList)
theorem allP_append : ∀ (cs ds : List Prop), allP (cs ++ ds) True ↔ allP cs True ∧ allP ds True
 | [], ds => by simp [allP]
 | c :: cs, ds => by simp only [List.cons_append, allP, allP_append cs ds, and_assoc]
theorem opndC_ok {W : Option Bool} {wl : WL} {x : Operand} (h : allP (opndC A0 W wl x) True) : opnd (W.getD true) (wOf wl) x := by
 cases x with
 | tmp t =>
   intro hW
   simp only [opndC] at h
   unfold wOf
   split at h
   ·rename_i hg
    rw [hg]; rfl
   ·rename_i V hg
    rw [hg]
    split at h
    ·exact h.1 rfl
    ·exact h.1 hW
 | const v => trivial
 | global g => trivial
 | func f => trivial
theorem wtC_ok {W : Option Bool} {wl : WL} : ∀ {l : List Operand}, allP (wtC A0 W wl l) True → wtOk (W.getD true) (wOf wl) l
 | [], _ => trivial
 | x :: l, h => by
     unfold wtC at h
     rw [allP_append] at h
     exact ⟨opndC_ok h.1, wtC_ok h.2⟩
theorem andW_ok (W : Option Bool) (t : Bool) : andW A0 W t = (W.getD true && t) := by
 cases W <;> simp [andW, A0]
theorem readsC_ok {W : Option Bool} {wl : WL} {sp : SL} {o : Op} {cs : List Prop} (h : readsC A0 W wl sp o = some cs) (hc : allP cs True) : readsOk (W.getD true) (wOf wl) (getS sp) o := by
 unfold readsC at h
 split at h
 ·split at h
  ·rename_i c a b x t ht
   cases h
   rw [allP_append, allP_append] at hc
   have ht' : ev (getS sp) c = .d (.sc (.bool t)) := ht
   unfold readsOk
   refine ⟨opndC_ok hc.1, ?_⟩
   rw [ht']
   have h1 := opndC_ok hc.2.1
   have h2 := opndC_ok hc.2.2
   simp only [Option.getD_some, andW_ok] at h1 h2
   exact ⟨h1, h2⟩
  ·cases h
 ·rename_i hne
  cases h
  unfold readsOk
  split
  ·rename_i c a b
   exact absurd rfl (hne c a b)
  ·exact wtC_ok hc
def spOk (H : Unit → Kn) : Op → Bool
 | .move _ => true
 | .assign _ => true
 | .pick .. => true
 | .load .. => true
 | .unOp .. => true
 | .binOp .. => true
 | .nilCheck _ => true
 | .convert .. => true
 | .field .. => true
 | .fieldAddr .. => true
 | .indexAddr .. => true
 | .index .. => true
 | .slice _ _ _ _ none => true
 | .extract .. => true
 | .build .. => true
 | .call c => match c.callee with
   | .builtin .len => true
   | .builtin .max => true
   | .builtin .min => true
   | .value (.func f) => knowsK (H ()) f
   | _ => false
 | _ => false
def spV (T : Unit → Tab) (A : Ar) (H : Unit → Kn) (o : Op) (s : SL) (st : Store) : RV :=
 match spOk H o with
 | true => (match o with
   | .call c => (match c.callee with
     | .value (.func f) => (match (T ()).body f, findK (H ()) f (c.args.toList.map (evL s)) with
       | true, some r => some r
       | _, _ => none)
     | _ => (match opV T A o s st with
       | some (cs, d, _) => some (cs, d)
       | none => none))
   | o => (match opV T A o s st with
     | some (cs, d, _) => some (cs, d)
     | none => none))
 | false => none
theorem spOk_keep {T : Unit → Tab} {A : Ar} {H : Unit → Kn} {o : Op} {s : SL} {st st' : Store} {cs : List Prop} {d : DV} (ho : spOk H o = true) (h : opV T A o s st = some (cs, d, st')) : st' = st := by
 unfold opV at h
 split at h <;> first
  | (cases h; rfl)
  | exact (pureV_some h).1
  | (simp [spOk] at ho; done)
  | skip
 ·split at h <;> first | exact (pureV_some h).1 | (split at h <;> exact (pureV_some h).1)
 ·split at h <;> first | exact (pureV_some h).1 | (split at h <;> exact (pureV_some h).1)
 ·split at h <;> first | exact (pureV_some h).1 | (split at h <;> exact (pureV_some h).1)
 ·split at h <;> first | exact (pureV_some h).1 | (split at h <;> exact (pureV_some h).1)
 ·split at h <;> first | exact (pureV_some h).1 | (split at h <;> exact (pureV_some h).1)
 ·split at h
  ·exact (pureV_some h).1
  ·rename_i h1 h2 h3
   simp [spOk, h1] at ho
  ·rename_i h1 h2 h3
   simp [spOk, h1] at ho
  ·exact (pureV_some h).1
  ·exact (pureV_some h).1
  ·exact (pureV_some h).1
  ·rename_i h1 h2 h3
   simp [spOk, h1] at ho
  ·cases h
theorem spV_D {P : Program} {T : Unit → Tab} (hT : TabOk P (T ())) {H : Unit → Kn} (hH : SoundK P (H ())) {o : Op} {s : SL} {st : Store} {cs : List Prop} {d : DV} (h : spV T A0 H o s st = some (cs, d)) (hc : allP cs True) {K : DV → Store → Prop} (hk : K d st) : opD P o (getS s) st K := by
 have e : evL s = ev (getS s) := rfl
 unfold spV at h
 split at h
 ·rename_i ho
  have gen : ∀ {o : Op}, spOk H o = true → (match opV T A0 o s st with
    | some (cs, d, _) => some (cs, d)
    | none => none) = some (cs, d) → opD P o (getS s) st K := fun {o} ho h => by
   split at h
   ·rename_i cs' d' st' hv
    cases h
    have := spOk_keep ho hv
    subst this
    exact opV_D hT hv hc hk
   ·cases h
  split at h
  ·rename_i c
   split at h
   ·rename_i f h1
    simp only [opD, callD, h1]
    rw [e] at h
    split at h
    ·rename_i r hb hr
     cases h
     obtain ⟨h1, h2⟩ := hH f _ _ _ hr hc
     exact .inl ⟨hT.body _ hb, FnV.use h1 h2 hk⟩
    ·cases h
   ·exact gen ho h
  ·exact gen ho h
 ·cases h
def whenL (A : Ar) (W : Bool) : List Prop → List Prop
 | [] => []
 | c :: cs => A.imq W c :: whenL A W cs
theorem whenL_ok {W : Bool} (hW : W = true) : ∀ {cs : List Prop}, allP (whenL A0 W cs) True → allP cs True
 | [], _ => trivial
 | _ :: _, h => ⟨h.1 hW, whenL_ok hW h.2⟩
def killW : WL → SL → SL
 | [], sp => sp
 | (k, some _) :: wl, sp => (k, .any) :: killW wl sp
 | (_, none) :: wl, sp => killW wl sp
theorem getS_killW : ∀ (wl : WL) (sp : SL) (i : Nat), (getS (killW wl sp) i = getS sp i ∧ getW wl i = none) ∨ getS (killW wl sp) i = .any
 | [], sp, i => .inl ⟨rfl, rfl⟩
 | (k, some v) :: wl, sp, i => by
     by_cases h : i = k
     ·subst h; exact .inr (by simp [killW, getS])
     ·have ih := getS_killW wl sp i
      simpa only [killW, getS, getW, nbeq h] using ih
 | (k, none) :: wl, sp, i => by
     have ih := getS_killW wl sp i
     by_cases h : i = k
     ·subst h
      simp only [killW, getW, BEq.rfl, and_true]
      rcases ih with ⟨h1, _⟩ | h1
      ·exact .inl h1
      ·exact .inr h1
     ·simpa only [killW, getW, nbeq h] using ih
theorem killW_ok {wl : WL} {sp : SL} {s : Slots} (hI : Spec s (getS sp) (wOf wl)) (i : Nat) : getS (killW wl sp) i = s i ∨ getS (killW wl sp) i = .any := by
 have hi := hI i
 rcases getS_killW wl sp i with ⟨h1, h2⟩ | h
 ·left
  rw [h1, hi]
  simp [wOf, h2]
 ·exact .inr h
theorem wOf_drop (dst : Option Nat) (wl : WL) : (wOf (dropW dst wl)) = putW dst true (wOf wl) := by
 cases dst with
 | none => rfl
 | some k =>
   funext i
   simp only [wOf, dropW, putW, updW_eq, getW_dropL]
   by_cases h : i = k <;> simp [h]
theorem wOf_set (dst : Option Nat) (W : Bool) (wl : WL) : (wOf (setW dst W wl)) = putW dst W (wOf wl) := by
 cases dst with
 | none => rfl
 | some k =>
   funext i
   simp only [wOf, setW, putW, updW_eq, getW]
   by_cases h : i = k
   ·simp [h]
   ·simp [h, nbeq h]
end Go.Proofs.Ytadnpgkddgbhkaa
namespace Go.Proofs.Ytadnpgkddgbhkaa
open Go.RowKit
set_option linter.all false
theorem SlotsOk.less {E : Env} {N : Nat} {s s' : Slots} {a : Act} (h : SlotsOk E N s a) (hs : ∀ i, s' i = s i ∨ s' i = .any) : SlotsOk E N s' a :=
 ⟨h.size, fun i => by
   rcases hs i with e | e
   ·rw [e]; exact h.rep i
   ·rw [e]; trivial, h.defers⟩
def spG (T : Unit → Tab) (A : Ar) (X : Cps) (H : Unit → Kn) (N : Nat) (ops : Array Oper) : List Oper → SL → WL → Store → (SL → Store → Prop) → Prop
 | [], sp, wl, st, Q => Q (killW wl sp) st
 | o :: rest, sp, wl, st, Q => match dstB N o.dst, o.guard with
   | true, none => (match readsC A none wl sp o.op with
     | some cs => allP cs (opC T A X H o.op sp st fun d st' => spG T A X H N ops rest (putL o.dst d sp) (dropW o.dst wl) st' Q)
     | none => False)
   | true, some (j, w) => (match slotOf ops j with
     | some k => (match getS sp k with
       | .d (.sc (.bool t)) => (match readsC A (some (andW A (getW wl k) (A.is t w))) wl sp o.op, spV T A H o.op sp st with
         | some cs, some (ds, d) => allP cs (allP (whenL A (andW A (getW wl k) (A.is t w)) ds) (spG T A X H N ops rest (putL o.dst d sp) (setW o.dst (andW A (getW wl k) (A.is t w)) wl) st Q))
         | _, _ => False)
       | _ => False)
     | none => False)
   | false, _ => False
theorem spG_ok {P : Program} {T : Unit → Tab} (hT : TabOk P (T ())) {H : Unit → Kn} (hH : SoundK P (H ())) {N : Nat} {ops : Array Oper} {Q : Exit → Act → World → Prop} : ∀ (l : List Oper) (s : Slots) (sp : SL) (wl : WL) (E : Env) (a : Act) (K : SL → Store → Prop), Spec s (getS sp) (wOf wl) → Conc E → SlotsOk E N s a → spG T A0 (X0 P N) H N ops l sp wl E.st K →
  (∀ (s' : SL) (a' : Act) (E' : Env), K s' E'.st → Conc E' → Ext E E' → SlotsOk E' N (getS s') a' → Q .normal a' E'.w) → wpList P ops Q l a E.w
 | [], s, sp, wl, E, a, K, hI, hc, hs, h, hn => hn (killW wl sp) a E h hc (Ext.refl E) (hs.less (killW_ok hI))
 | o :: rest, s, sp, wl, E, a, K, hI, hc, hs, h, hn => by
     have go : ∀ KK : Slots → Store → Prop, stepD P N ops o s E.st KK → (∀ s' st', KK s' st' → ∃ sp' wl', Spec s' (getS sp') (wOf wl') ∧ spG T A0 (X0 P N) H N ops rest sp' wl' st' K) → wpList P ops Q (o :: rest) a E.w := fun KK h1 h2 => by
      have := step_ok (P := P) (Q := Q) (ops := ops) (next := wpList P ops Q rest) hc hs o h1 fun s' a' E' hk h1 hx h3 => by
       obtain ⟨sp', wl', q1, q2⟩ := h2 s' E'.st hk
       exact spG_ok hT hH rest s' sp' wl' E' a' K q1 h1 h3 q2 fun s2 a2 E2 k1 k2 k3 k4 => hn s2 a2 E2 k1 k2 (Ext.trans hc.len h1.len hx k3) k4
      unfold wpList
      exact this
     unfold spG at h
     split at h
     ·rename_i hd hg
      split at h
      ·rename_i cs hr
       rw [allP_iff] at h
       have hro := readsC_ok hr h.1
       refine go (fun s' st' => spG T A0 (X0 P N) H N ops rest (againL o.dst s' sp) (dropW o.dst wl) st' K ∧ Spec s' (getS (againL o.dst s' sp)) (wOf (dropW o.dst wl))) ?_ fun s' st' hq => ⟨_, _, hq.2, hq.1⟩
       unfold stepD
       have : wantedD ops o.guard s = some true := by rw [hg]; rfl
       simp only [this]
       refine ⟨dstB_ok hd, ?_⟩
       have e : (fun d st' => spG T A0 (X0 P N) H N ops rest (putL o.dst d sp) (dropW o.dst wl) st' K) = fun d st' => spG T A0 (X0 P N) H N ops rest (againL o.dst (putS o.dst d s) sp) (dropW o.dst wl) st' K ∧ Spec (putS o.dst d s) (getS (againL o.dst (putS o.dst d s) sp)) (wOf (dropW o.dst wl)) := by
        funext d st'
        have q := hI.put o.dst d true
        rw [if_pos rfl] at q
        rw [againL_put, getS_putL, wOf_drop]
        simp only [q, and_true]
       have h2 := h.2
       rw [e] at h2
       exact readsOk_D hI rfl hro (opC_D hT hH h2)
      ·exact h.elim
     ·rename_i j w hd hg
      split at h
      ·rename_i k hk
       split at h
       ·rename_i t ht
        split at h
        ·rename_i cs ds d hr hv
         rw [allP_iff] at h
         obtain ⟨hc1, h⟩ := h
         rw [allP_iff] at h
         obtain ⟨hc2, h⟩ := h
         have hro := readsC_ok hr hc1
         simp only [Option.getD_some] at hro
         have hWe : andW A0 (getW wl k) (A0.is t w) = (wOf wl k && (t == w)) := by rw [andW_ok]; rfl
         rw [hWe] at hro h hc2
         refine go (fun s' st' => s' = putS o.dst (if (wOf wl k && (t == w)) = true then d else .d (.sc undef)) s ∧ st' = E.st) ?_ ?_
         ·unfold stepD
          have hIk := hI k
          by_cases hW : (wOf wl k && (t == w)) = true
          ·have hw : wantedD ops o.guard s = some true := by
            simp only [Bool.and_eq_true] at hW
            rw [if_pos hW.1, ht] at hIk
            rw [hg]
            simp only [wantedD, hk, hIk, hW.2]
           simp only [hw]
           refine ⟨dstB_ok hd, readsOk_D hI hW hro (spV_D hT hH hv (whenL_ok hW hc2) ?_)⟩
           rw [if_pos hW]
           exact ⟨rfl, rfl⟩
          ·have hw : wantedD ops o.guard s = some false := by
            rw [hg]
            by_cases hwk : wOf wl k = true
            ·rw [if_pos hwk, ht] at hIk
             simp only [wantedD, hk, hIk]
             simp only [hwk, Bool.true_and] at hW
             simpa using hW
            ·rw [if_neg hwk] at hIk
             simp only [wantedD, hk, hIk]
             rfl
           simp only [hw]
           refine ⟨dstB_ok hd, ?_⟩
           rw [if_neg hW]
           exact ⟨rfl, trivial⟩
         ·rintro s' st' ⟨rfl, rfl⟩
          refine ⟨_, _, ?_, h⟩
          have q := hI.put o.dst d (wOf wl k && (t == w))
          rw [getS_putL, wOf_set]
          exact q
        ·exact h.elim
       ·exact h.elim
      ·exact h.elim
     ·exact h.elim
@[reducible] def brC (t : Bool) (x y : Unit → Prop) : Prop := match t with
  | true => x ()
  | false => y ()
theorem part {t : Bool} {x y : Prop} (hx : t = true → x) (hy : t = false → y) : brC t (fun _ => x) (fun _ => y) := by
 cases t
 ·exact hy rfl
 ·exact hx rfl
def genG (T : Unit → Tab) (A : Ar) (X : Cps) (H : Unit → Kn) (N : Nat) (ops : Array Oper) : List Oper → SL → Store → (SL → Store → Prop) → Prop
 | [], s, st, Q => Q s st
 | o :: rest, s, st, Q => match dstB N o.dst, o.guard with
   | true, none => opC T A X H o.op s st fun d st' => genG T A X H N ops rest (putL o.dst d s) st' Q
   | true, some (j, w) => (match slotOf ops j with
     | some k => (match getS s k with
       | .d (.sc (.bool t)) => brC t
         (fun _ => match w with
           | true => opC T A X H o.op (setS s k (.d (.sc (.bool true)))) st fun d st' => genG T A X H N ops rest (putL o.dst d (setS s k (.d (.sc (.bool true))))) st' Q
           | false => genG T A X H N ops rest (putL o.dst (.d (.sc (.tuple #[]))) (setS s k (.d (.sc (.bool true))))) st Q)
         (fun _ => match w with
           | false => opC T A X H o.op (setS s k (.d (.sc (.bool false)))) st fun d st' => genG T A X H N ops rest (putL o.dst d (setS s k (.d (.sc (.bool false))))) st' Q
           | true => genG T A X H N ops rest (putL o.dst (.d (.sc (.tuple #[]))) (setS s k (.d (.sc (.bool false))))) st Q)
       | .d (.sc (.tuple _)) => genG T A X H N ops rest (putL o.dst (.d (.sc (.tuple #[]))) s) st Q
       | _ => False)
     | none => False)
   | false, _ => False
theorem getS_same {s : SL} {k : Nat} {d : DV} (h : getS s k = d) : getS (setS s k d) = getS s := by
 funext i
 rw [getS_setS]
 split
 ·rename_i e; rw [e, h]
 ·rfl
theorem genG_ok {P : Program} {T : Unit → Tab} (hT : TabOk P (T ())) {H : Unit → Kn} (hH : SoundK P (H ())) {N : Nat} {ops : Array Oper} {Q : Exit → Act → World → Prop} : ∀ (l : List Oper) (s : SL) (E : Env) (a : Act) (K : SL → Store → Prop), Conc E → SlotsOk E N (getS s) a → genG T A0 (X0 P N) H N ops l s E.st K →
  (∀ (s' : SL) (a' : Act) (E' : Env), K s' E'.st → Conc E' → Ext E E' → SlotsOk E' N (getS s') a' → Q .normal a' E'.w) → wpList P ops Q l a E.w
 | [], s, E, a, K, hc, hs, h, hn => hn s a E h hc (Ext.refl E) hs
 | o :: rest, s, E, a, K, hc, hs, h, hn => by
     have run : ∀ s2 : SL, getS s2 = getS s → dstB N o.dst = true → wantedD ops o.guard (getS s) = some true → (opC T A0 (X0 P N) H o.op s2 E.st fun d st' => genG T A0 (X0 P N) H N ops rest (putL o.dst d s2) st' K) → wpList P ops Q (o :: rest) a E.w := fun s2 h2 hd hw h => by
      have h1 := opC_D hT hH h
      have e : (fun d st' => genG T A0 (X0 P N) H N ops rest (putL o.dst d s2) st' K) = fun d st' => genG T A0 (X0 P N) H N ops rest (againL o.dst (putS o.dst d (getS s)) s2) st' K ∧ getS (againL o.dst (putS o.dst d (getS s)) s2) = putS o.dst d (getS s) := by
       funext d st'
       rw [againL_put, getS_putL, h2]
       simp
      rw [e, h2] at h1
      have hst : stepD P N ops o (getS s) E.st fun s' st' => genG T A0 (X0 P N) H N ops rest (againL o.dst s' s2) st' K ∧ getS (againL o.dst s' s2) = s' := by
       unfold stepD
       simp only [hw]
       exact ⟨dstB_ok hd, h1⟩
      have := step_ok (P := P) (Q := Q) (ops := ops) (next := wpList P ops Q rest) hc hs o hst fun s' a' E' hk h1 hx h3 => by
       rw [← hk.2] at h3
       exact genG_ok hT hH rest _ E' a' K h1 h3 hk.1 fun s2 a2 E2 k1 k2 k3 k4 => hn s2 a2 E2 k1 k2 (Ext.trans hc.len h1.len hx k3) k4
      unfold wpList
      exact this
     have skip : ∀ s2 : SL, getS s2 = getS s → dstB N o.dst = true → wantedD ops o.guard (getS s) = some false → genG T A0 (X0 P N) H N ops rest (putL o.dst (.d (.sc (.tuple #[]))) s2) E.st K → wpList P ops Q (o :: rest) a E.w := fun s2 h2 hd hw h => by
      have hst : stepD P N ops o (getS s) E.st fun s' st' => st' = E.st ∧ s' = putS o.dst (.d (.sc undef)) (getS s) := by
       unfold stepD
       simp only [hw]
       exact ⟨dstB_ok hd, trivial, trivial⟩
      have := step_ok (P := P) (Q := Q) (ops := ops) (next := wpList P ops Q rest) hc hs o hst fun s' a' E' hk h1 hx h3 => by
       obtain ⟨k1, rfl⟩ := hk
       have h4 : genG T A0 (X0 P N) H N ops rest (putL o.dst (.d (.sc (.tuple #[]))) s2) E'.st K := by rw [k1]; exact h
       refine genG_ok hT hH rest _ E' a' K h1 ?_ h4 fun s2 a2 E2 k1 k2 k3 k4 => hn s2 a2 E2 k1 k2 (Ext.trans hc.len h1.len hx k3) k4
       rw [getS_putL, h2]
       exact h3
      unfold wpList
      exact this
     unfold genG at h
     split at h
     ·rename_i hd hg
      exact run s rfl hd (by rw [hg]; rfl) h
     ·rename_i j w hd hg
      split at h
      ·rename_i k hk
       split at h
       ·rename_i t ht
        have hwant : wantedD ops o.guard (getS s) = some (t == w) := by
         rw [hg]
         simp only [wantedD, hk, ht]
        cases t <;> cases w <;> simp only [brC] at h
        ·exact run _ (getS_same ht) hd hwant h
        ·exact skip _ (getS_same ht) hd hwant h
        ·exact skip _ (getS_same ht) hd hwant h
        ·exact run _ (getS_same ht) hd hwant h
       ·rename_i vs ht
        exact skip s rfl hd (by rw [hg]; simp only [wantedD, hk, ht]) h
       ·exact h.elim
      ·exact h.elim
     ·exact h.elim
end Go.Proofs.Ytadnpgkddgbhkaa
