/- The program logic, twenty-sixth part: statements and functions for 'cbv'. No condition: lemmas of any program. -/
import Derived.Test.YtadnpgkddgbhkaaZX11
namespace Go.Proofs.Ytadnpgkddgbhkaa
open Go.RowKit
set_option linter.all false
theorem opE_none {P : Program} {o : Op} {s : Slots} {st : Store} {K : DV → Store → Prop} (h : opD P o s st K) : opE P [] o s st K := by
 unfold opE
 split
 ·rename_i c
  unfold callE
  simp only [opD, callD] at h
  split
  ·rename_i f hf
   simp only [hf] at h
   exact h
  ·exact h
 ·exact h
theorem opV_keep {T : Unit → Tab} {A : Ar} {o : Op} {s : SL} {st st' : Store} {cs : List Prop} {d : DV} (ht : turns o = false) (h : opV T A o s st = some (cs, d, st')) : st' = st := by
 unfold opV at h
 split at h <;> first
  | (cases h; rfl)
  | exact (pureV_some h).1
  | (simp [turns] at ht; done)
  | skip
 ·split at h <;> first | exact (pureV_some h).1 | (split at h <;> exact (pureV_some h).1)
 ·split at h <;> first | exact (pureV_some h).1 | (split at h <;> exact (pureV_some h).1)
 ·split at h <;> first | exact (pureV_some h).1 | (split at h <;> exact (pureV_some h).1)
 ·split at h <;> first | exact (pureV_some h).1 | (split at h <;> exact (pureV_some h).1)
 ·split at h <;> first | exact (pureV_some h).1 | (split at h <;> exact (pureV_some h).1)
 ·split at h
  ·cases h; rfl
  ·cases h
 ·split at h
  ·exact (pureV_some h).1
  ·rename_i h1 h2 h3
   simp [turns, h1] at ht
  ·rename_i h1 h2 h3
   simp [turns, h1] at ht
  ·exact (pureV_some h).1
  ·exact (pureV_some h).1
  ·exact (pureV_some h).1
  ·rename_i h1 h2 h3
   simp [turns, h1] at ht
  ·cases h
 ·cases h
def pvV (T : Unit → Tab) (A : Ar) (H : Unit → Kn) (o : Op) (s : SL) (st : Store) : RV :=
 match spV T A H o s st with
 | some r => some r
 | none => (match turns o, opV T A o s st with
   | false, some (cs, d, _) => some (cs, d)
   | _, _ => none)
theorem pvV_D {P : Program} {T : Unit → Tab} (hT : TabOk P (T ())) {H : Unit → Kn} (hH : SoundK P (H ())) {o : Op} {s : SL} {st : Store} {cs : List Prop} {d : DV} (h : pvV T A0 H o s st = some (cs, d)) (hc : allP cs True) {K : DV → Store → Prop} (hk : K d st) : opD P o (getS s) st K := by
 unfold pvV at h
 split at h
 ·rename_i r hr
  cases h
  exact spV_D hT hH hr hc hk
 ·split at h
  ·rename_i cs' d' st' ht hv
   cases h
   have := opV_keep ht hv
   subst this
   exact opV_D hT hv hc hk
  ·cases h
abbrev DL := List (Op × SL × DV)
def staysC (T : Unit → Tab) (A : Ar) (H : Unit → Kn) (st : Store) : DL → Prop → Prop
 | [], X => X
 | (o, s, d) :: l, X => match pvV T A H o s st with
   | some (cs, d') => allP cs (d' = d ∧ staysC T A H st l X)
   | none => False
def stoodC (T : Unit → Tab) (A : Ar) (H : Unit → Kn) (o : Op) (s : SL) (d : DV) : List Store → Prop → Prop
 | [], X => X
 | st :: l, X => match pvV T A H o s st with
   | some (cs, d') => allP cs (d' = d ∧ stoodC T A H o s d l X)
   | none => False
theorem staysC_E {P : Program} {T : Unit → Tab} (hT : TabOk P (T ())) {H : Unit → Kn} (hH : SoundK P (H ())) {st : Store} {X : Prop} : ∀ (l : DL), staysC T A0 H st l X → staysE P [] st (l.map fun p => (p.1, getS p.2.1, p.2.2)) ∧ X
 | [], h => ⟨trivial, h⟩
 | (o, s, d) :: l, h => by
     unfold staysC at h
     split at h
     ·rename_i cs d' hv
      rw [allP_iff] at h
      obtain ⟨hc, rfl, h⟩ := h
      obtain ⟨h1, h2⟩ := staysC_E hT hH l h
      exact ⟨⟨fun K hK => opE_none (pvV_D hT hH hv hc hK), h1⟩, h2⟩
     ·exact h.elim
theorem stoodC_E {P : Program} {T : Unit → Tab} (hT : TabOk P (T ())) {H : Unit → Kn} (hH : SoundK P (H ())) {o : Op} {s : SL} {d : DV} {X : Prop} : ∀ (l : List Store), stoodC T A0 H o s d l X → stoodE P [] o (getS s) d l ∧ X
 | [], h => ⟨trivial, h⟩
 | st :: l, h => by
    unfold stoodC at h
    split at h
    ·rename_i cs d' hv
     rw [allP_iff] at h
     obtain ⟨hc, rfl, h⟩ := h
     obtain ⟨h1, h2⟩ := stoodC_E hT hH l h
     exact ⟨⟨fun K hK => opE_none (pvV_D hT hH hv hc hK), h1⟩, h2⟩
    ·exact h.elim
def mixOne (T : Unit → Tab) (A : Ar) (H : Unit → Kn) (o : Op) (s : SL) (st : Store) (olds : List Store) (done : DL) (X : DV → Store → List Store → DL → Prop) : Prop :=
 match turns o with
 | true => (match opV T A o s st with
   | some (cs, d, st1) => allP cs (staysC T A H st1 done (X d st1 (st :: olds) done))
   | none => False)
 | false => (match pvV T A H o s st with
   | some (cs, d) => allP cs (stoodC T A H o s d olds (X d st olds ((o, s, d) :: done)))
   | none => False)
def mixNo (T : Unit → Tab) (A : Ar) (H : Unit → Kn) (o : Op) (st : Store) (olds : List Store) (done : DL) (X : DV → Store → List Store → DL → Prop) : Prop :=
 match turns o with
 | true => staysC T A H st done (X (.d (.sc (.tuple #[]))) st (st :: olds) done)
 | false => X (.d (.sc (.tuple #[]))) st olds done
def mixC (T : Unit → Tab) (A : Ar) (H : Unit → Kn) (N : Nat) (ops : Array Oper) (Q : SL → Store → Prop) : List Oper → SL → Store → List Store → DL → Prop
 | [], s, st, _, _ => Q s st
 | o :: rest, s, st, olds, done => match dstB N o.dst, o.guard with
   | true, none => mixOne T A H o.op s st olds done fun d st1 olds1 done1 => mixC T A H N ops Q rest (putL o.dst d s) st1 olds1 done1
   | true, some (j, w) => (match slotOf ops j with
     | some k => (match getS s k with
       | .d (.sc (.bool t)) => brC t
         (fun _ => match w with
           | true => mixOne T A H o.op (setS s k (.d (.sc (.bool true)))) st olds done fun d st1 olds1 done1 => mixC T A H N ops Q rest (putL o.dst d (setS s k (.d (.sc (.bool true))))) st1 olds1 done1
           | false => mixNo T A H o.op st olds done fun d st1 olds1 done1 => mixC T A H N ops Q rest (putL o.dst d (setS s k (.d (.sc (.bool true))))) st1 olds1 done1)
         (fun _ => match w with
           | false => mixOne T A H o.op (setS s k (.d (.sc (.bool false)))) st olds done fun d st1 olds1 done1 => mixC T A H N ops Q rest (putL o.dst d (setS s k (.d (.sc (.bool false))))) st1 olds1 done1
           | true => mixNo T A H o.op st olds done fun d st1 olds1 done1 => mixC T A H N ops Q rest (putL o.dst d (setS s k (.d (.sc (.bool false))))) st1 olds1 done1)
       | .d (.sc (.tuple _)) => mixNo T A H o.op st olds done fun d st1 olds1 done1 => mixC T A H N ops Q rest (putL o.dst d s) st1 olds1 done1
       | _ => False)
     | none => False)
   | false, _ => False
abbrev dlD (done : DL) : List (Op × Slots × DV) := done.map fun p => (p.1, getS p.2.1, p.2.2)
theorem mixOne_G {P : Program} {T : Unit → Tab} (hT : TabOk P (T ())) {H : Unit → Kn} (hH : SoundK P (H ())) {o : Op} {s s2 : SL} (hs : getS s = getS s2) {st : Store} {olds : List Store} {done : DL} {X : DV → Store → List Store → DL → Prop} {Y : After} (h : mixOne T A0 H o s st olds done X)
  (hx : ∀ d st1 olds1 done1, X d st1 olds1 done1 → Y d st1 olds1 (dlD done1)) : mixRun P [] o (getS s2) st olds (dlD done) Y := by
 rw [← hs]
 unfold mixOne at h
 split at h
 ·rename_i ht
  split at h
  ·rename_i cs d st1 hv
   rw [allP_iff] at h
   obtain ⟨hc, h⟩ := h
   obtain ⟨h1, h2⟩ := staysC_E hT hH _ h
   simp only [mixRun, ht, ↓reduceIte]
   exact ⟨d, st1, fun K hK => opE_none (opV_D hT hv hc hK), h1, hx _ _ _ _ h2⟩
  ·exact h.elim
 ·rename_i ht
  split at h
  ·rename_i cs d hv
   rw [allP_iff] at h
   obtain ⟨hc, h⟩ := h
   obtain ⟨h1, h2⟩ := stoodC_E hT hH _ h
   simp only [mixRun, ht, Bool.false_eq_true, ↓reduceIte]
   exact ⟨d, fun K hK => opE_none (pvV_D hT hH hv hc hK), h1, hx _ _ _ _ h2⟩
  ·exact h.elim
theorem mixNo_G {P : Program} {T : Unit → Tab} (hT : TabOk P (T ())) {H : Unit → Kn} (hH : SoundK P (H ())) {o : Op} {st : Store} {olds : List Store} {done : DL} {X : DV → Store → List Store → DL → Prop} {Y : After} (h : mixNo T A0 H o st olds done X)
  (hx : ∀ d st1 olds1 done1, X d st1 olds1 done1 → Y d st1 olds1 (dlD done1)) : mixSkip P [] o st olds (dlD done) Y := by
 unfold mixNo at h
 split at h
 ·rename_i ht
  obtain ⟨h1, h2⟩ := staysC_E hT hH _ h
  simp only [mixSkip, ht, ↓reduceIte]
  exact ⟨h1, hx _ _ _ _ h2⟩
 ·rename_i ht
  simp only [mixSkip, ht, Bool.false_eq_true, ↓reduceIte]
  exact hx _ _ _ _ h
theorem mixC_G {P : Program} {T : Unit → Tab} (hT : TabOk P (T ())) {H : Unit → Kn} (hH : SoundK P (H ())) {N : Nat} {ops : Array Oper} {Q : SL → Store → Prop} : ∀ (l : List Oper) (s : SL) (st : Store) (olds : List Store) (done : DL), mixC T A0 H N ops Q l s st olds done →
  mixG P [] N ops (fun s' st' => ∃ l, getS l = s' ∧ Q l st') l (getS s) st olds (dlD done)
 | [], s, st, olds, done, h => ⟨s, rfl, h⟩
 | o :: rest, s, st, olds, done, h => by
     have next : ∀ s2 : SL, getS s2 = getS s → ∀ (d : DV) (st1 : Store) (olds1 : List Store) (done1 : DL), mixC T A0 H N ops Q rest (putL o.dst d s2) st1 olds1 done1 → mixG P [] N ops (fun s' st' => ∃ l, getS l = s' ∧ Q l st') rest (putS o.dst d (getS s)) st1 olds1 (dlD done1) := fun s2 h2 d st1 olds1 done1 hq => by
      have := mixC_G hT hH rest _ _ _ _ hq
      rw [getS_putL, h2] at this
      exact this
     unfold mixC at h
     split at h
     ·rename_i hd hg
      refine ⟨dstB_ok hd, ?_⟩
      rw [hg]
      exact mixOne_G hT hH rfl h (next s rfl)
     ·rename_i j w hd hg
      refine ⟨dstB_ok hd, ?_⟩
      rw [hg]
      split at h
      ·rename_i k hk
       simp only [hk]
       split at h
       ·rename_i t ht
        have hs : ∀ b, b = t → getS (setS s k (.d (.sc (.bool b)))) = getS s := fun b e => getS_same (by rw [e]; exact ht)
        simp only [ht]
        have hu : upd (getS s) k (.d (.sc (.bool t))) = getS s := upd_self ht
        cases t <;> cases w <;> simp only [brC] at h
        ·rw [if_pos rfl, hu]
         exact mixOne_G hT hH (hs _ rfl) h (next _ (hs _ rfl))
        ·rw [if_neg (by decide), show (!true) = false from rfl, hu]
         exact mixNo_G hT hH h (next _ (hs _ rfl))
        ·rw [if_neg (by decide), show (!false) = true from rfl, hu]
         exact mixNo_G hT hH h (next _ (hs _ rfl))
        ·rw [if_pos rfl, hu]
         exact mixOne_G hT hH (hs _ rfl) h (next _ (hs _ rfl))
       ·rename_i vs ht
        simp only [ht]
        exact mixNo_G hT hH h (next s rfl)
       ·exact h.elim
      ·exact h.elim
     ·exact h.elim
def spM (T : Unit → Tab) (A : Ar) (H : Unit → Kn) (N : Nat) (ops : Array Oper) : List Oper → SL → WL → Store → (SL → Prop) → Prop
 | [], sp, wl, _, Q => Q (killW wl sp)
 | o :: rest, sp, wl, st, Q => match dstB N o.dst, o.guard with
   | true, none => (match readsC A none wl sp o.op, pvV T A H o.op sp st with
     | some cs, some (ds, d) => allP cs (allP ds (spM T A H N ops rest (putL o.dst d sp) (dropW o.dst wl) st Q))
     | _, _ => False)
   | true, some (j, w) => (match slotOf ops j with
     | some k => (match getS sp k with
       | .d (.sc (.bool t)) => (match readsC A (some (andW A (getW wl k) (A.is t w))) wl sp o.op, spV T A H o.op sp st with
         | some cs, some (ds, d) => allP cs (allP (whenL A (andW A (getW wl k) (A.is t w)) ds) (spM T A H N ops rest (putL o.dst d sp) (setW o.dst (andW A (getW wl k) (A.is t w)) wl) st Q))
         | _, _ => False)
       | _ => False)
     | none => False)
   | false, _ => False
theorem spM_pure {P : Program} {T : Unit → Tab} (hT : TabOk P (T ())) {H : Unit → Kn} (hH : SoundK P (H ())) {N : Nat} {ops : Array Oper} {st : Store} {Q : SL → Prop} : ∀ (l : List Oper) (s : Slots) (sp : SL) (wl : WL), Spec s (getS sp) (wOf wl) → spM T A0 H N ops l sp wl st Q →
  pureL P N ops st (fun s' => ∃ l, (∀ k, getS l k = s' k ∨ getS l k = .any) ∧ Q l) l s
 | [], s, sp, wl, hI, h => ⟨_, killW_ok hI, h⟩
 | o :: rest, s, sp, wl, hI, h => by
     unfold spM at h
     split at h
     ·rename_i hd hg
      split at h
      ·rename_i cs ds d hr hv
       rw [allP_iff] at h
       obtain ⟨hc1, h⟩ := h
       rw [allP_iff] at h
       obtain ⟨hc2, h⟩ := h
       have hro := readsC_ok hr hc1
       have q := hI.put o.dst d true
       rw [if_pos rfl] at q
       refine ⟨d, .inl ⟨by rw [hg]; rfl, fun K hK => readsOk_D hI rfl hro (pvV_D hT hH hv hc2 hK)⟩, dstB_ok hd, spM_pure hT hH rest _ _ _ ?_ h⟩
       rw [getS_putL, wOf_drop]
       exact q
      ·exact h.elim
     ·rename_i j w hd hg
      split at h
      ·rename_i k hk
       split at h
       ·rename_i t ht
        split at h
        ·rename_i cs ds d hr hv
         rw [allP_iff] at h
         obtain ⟨hc1, h⟩ := h
         rw [allP_iff] at h
         obtain ⟨hc2, h⟩ := h
         have hro := readsC_ok hr hc1
         simp only [Option.getD_some] at hro
         have hWe : andW A0 (getW wl k) (A0.is t w) = (wOf wl k && (t == w)) := by rw [andW_ok]; rfl
         rw [hWe] at hro h hc2
         have q := hI.put o.dst d (wOf wl k && (t == w))
         have hIk := hI k
         refine ⟨if (wOf wl k && (t == w)) = true then d else .d (.sc undef), ?_, dstB_ok hd, spM_pure hT hH rest _ _ _ (by rw [getS_putL, wOf_set]; exact q) h⟩
         by_cases hW : (wOf wl k && (t == w)) = true
         ·rw [if_pos hW]
          refine .inl ⟨?_, fun K hK => readsOk_D hI hW hro (spV_D hT hH hv (whenL_ok hW hc2) hK)⟩
          simp only [Bool.and_eq_true] at hW
          rw [if_pos hW.1, ht] at hIk
          rw [hg]
          simp only [wantedD, hk, hIk, hW.2]
         ·rw [if_neg hW]
          refine .inr ⟨?_, rfl⟩
          rw [hg]
          by_cases hwk : wOf wl k = true
          ·rw [if_pos hwk, ht] at hIk
           simp only [wantedD, hk, hIk]
           simp only [hwk, Bool.true_and] at hW
           simpa using hW
          ·rw [if_neg hwk] at hIk
           simp only [wantedD, hk, hIk]
           rfl
        ·exact h.elim
       ·exact h.elim
      ·exact h.elim
     ·exact h.elim
def thenC (next : SL → Store → Prop) (Q : Exit → SL → Store → Prop) : Exit → SL → Store → Prop
 | .normal, s, st => next s st
 | e, s, st => Q e s st
def blockC (id : Nat) (Q : Exit → SL → Store → Prop) : Exit → SL → Store → Prop
 | .exit id', s, st => (match (id' == id) with
   | true => Q .normal s st
   | false => Q (.exit id') s st)
 | e, s, st => Q e s st
def anyGuard : List Oper → Bool
 | [] => false
 | o :: l => match o.guard with
   | some _ => true
   | none => anyGuard l
def specAll (H : Unit → Kn) : List Oper → Bool
 | [] => true
 | o :: l => match o.guard with
   | some _ => (match spOk H o.op with
     | true => specAll H l
     | false => false)
   | none => specAll H l
def specM (H : Unit → Kn) : List Oper → Bool
 | [] => true
 | o :: l => match turns o.op, o.guard with
   | true, _ => false
   | false, some _ => (match spOk H o.op with
     | true => specM H l
     | false => false)
   | false, none => specM H l
def wpC (T : Unit → Tab) (A : Ar) (X : Cps) (H : Unit → Kn) (N : Nat) : Code → (Exit → SL → Store → Prop) → SL → Store → Prop
 | .skip, Q, s, st => Q .normal s st
 | .exit id, Q, s, st => Q (.exit id) s st
 | .ret, Q, s, st => Q .ret s st
 | .seq x y, Q, s, st => wpC T A X H N x (thenC (wpC T A X H N y Q) Q) s st
 | .block id c, Q, s, st => wpC T A X H N c (blockC id Q) s st
 | .cond c x y, Q, s, st => match evL s c with
   | .d (.sc (.bool t)) => brC t (fun _ => wpC T A X H N x Q s st) fun _ => wpC T A X H N y Q s st
   | _ => False
 | .region id ops false, Q, s, st => (match (T ()).pause id, anyGuard ops.toList, specAll H ops.toList with
   | true, _, _ => X.st (.region id ops false) Q s st
   | false, false, _ => rowC T A X H N ops.toList s st (Q .normal)
   | false, true, true => spG T A X H N ops ops.toList s [] st (Q .normal)
   | false, true, false => genG T A X H N ops ops.toList s st (Q .normal))
 | .region id ops true, Q, s, st => (match (T ()).pause id, specM H ops.toList with
   | true, _ => X.st (.region id ops true) Q s st
   | false, true => A.lex ops ∧ spM T A H N ops ops.toList s [] st fun l => Q .normal l st
   | false, false => A.lex ops ∧ A.trn ops ∧ mixC T A H N ops (Q .normal) ops.toList s st [] [])
 | c, Q, s, st => X.st c Q s st
def lessQ (Q : Exit → SL → Store → Prop) (e : Exit) (s : Slots) (st : Store) : Prop := ∃ l, (∀ k, getS l k = s k ∨ getS l k = .any) ∧ Q e l st
theorem lessQ_wpD {P : Program} {N : Nat} {c : Code} {Q : Exit → Slots → Store → Prop} {s : Slots} {st : Store} {l : SL} (hl : ∀ k, getS l k = s k ∨ getS l k = .any) (h : wpD P N c Q (getS l) st) : wpD P N c Q s st :=
 wpD_tells (Tells.any st.length s (getS l) st hl) h
theorem region_less {P : Program} {N : Nat} {Q : Exit → SL → Store → Prop} {s : SL} {st : Store} {id : Nat} {l : List Oper}
  (h : ∀ (E : Env) (a : Act) (Q' : Exit → Act → World → Prop), E.st = st → Conc E → SlotsOk E N (getS s) a → (∀ (s' : SL) (a' : Act) (E' : Env), Q .normal s' E'.st → Conc E' → Ext E E' → SlotsOk E' N (getS s') a' → Q' .normal a' E'.w) → wpList P l.toArray Q' l a E.w) : wpD P N (.region id l.toArray false) (lessQ Q) (getS s) st := by
 intro E a hc hst hs
 exact wp_region_lit (h E a _ hst hc hs fun s' a' E' hk h1 h2 h3 => ⟨getS s', E', rfl, ⟨s', fun _ => .inl rfl, hk⟩, h1, h2, h3⟩)
theorem wpC_ok {P : Program} {T : Unit → Tab} (hT : TabOk P (T ())) {H : Unit → Kn} (hH : SoundK P (H ())) (hm : P.follows .mixedOrders = true) {N : Nat} : ∀ (c : Code) (Q : Exit → SL → Store → Prop) (s : SL) (st : Store), wpC T A0 (X0 P N) H N c Q s st → wpD P N c (lessQ Q) (getS s) st := by
 have self : ∀ {Q : Exit → SL → Store → Prop} {e : Exit} {s : SL} {st : Store}, Q e s st → lessQ Q e (getS s) st := fun h => ⟨_, fun _ => .inl rfl, h⟩
 intro c
 induction c with
 | skip => exact fun _ _ _ h => wpD_skip (self h)
 | exit id => exact fun _ _ _ h => wpD_exit (self h)
 | ret => exact fun _ _ _ h => wpD_ret (self h)
 | seq x y ihx ihy =>
   intro Q s st h
   refine wpD_seq (wpD_mono (ihx _ _ _ h) ?_)
   rintro e s' st' ⟨l, hl, hq⟩
   cases e <;> first
    | exact lessQ_wpD hl (ihy _ _ _ hq)
    | exact ⟨l, hl, hq⟩
 | block id c ih =>
   intro Q s st h
   refine wpD_block (wpD_mono (ih _ _ _ h) ?_)
   rintro e s' st' ⟨l, hl, hq⟩
   cases e <;> try exact ⟨l, hl, hq⟩
   rename_i id'
   simp only [blockC] at hq
   simp only [blockD]
   split at hq
   ·rename_i hb
    rw [if_pos (eqb hb)]
    exact ⟨l, hl, hq⟩
   ·rename_i hb
    rw [if_neg (fun e => by subst e; simp at hb)]
    exact ⟨l, hl, hq⟩
 | cond c x y ihx ihy =>
   intro Q s st h
   unfold wpC at h
   split at h
   ·rename_i t ht
    refine wpD_cond t ht (fun e => ?_) fun e => ?_
    ·subst e; exact ihx _ _ _ h
    ·subst e; exact ihy _ _ _ h
   ·exact h.elim
 | region id ops m =>
   intro Q s st h
   obtain ⟨l⟩ := ops
   cases m
   ·unfold wpC at h
    split at h
    ·exact h
    ·refine region_less fun E a Q' hst hc hs hn => ?_
     subst hst
     exact rowC_ok hT hH l s E a _ hc hs h hn
    ·refine region_less fun E a Q' hst hc hs hn => ?_
     subst hst
     exact spG_ok hT hH l (getS s) s [] E a _ (fun k => by simp [wOf, getW]) hc hs h hn
    ·refine region_less fun E a Q' hst hc hs hn => ?_
     subst hst
     exact genG_ok hT hH l s E a _ hc hs h hn
   ·unfold wpC at h
    split at h
    ·exact h
    ·obtain ⟨h1, h⟩ := h
     exact wpD_pure hm h1 (spM_pure hT hH l (getS s) s [] (fun k => by simp [wOf, getW]) h)
    ·obtain ⟨h1, h2, h⟩ := h
     refine wpD_mono (wpD_mix noH_ok hm h1 h2 (Q := fun e s' st' => e = .normal ∧ ∃ l, getS l = s' ∧ Q .normal l st') ?_) ?_
     ·have := mixC_G (ops := l.toArray) hT hH l s st [] [] h
      simpa using this
     ·rintro e s' st' ⟨rfl, l, rfl, hq⟩
      exact self hq
 | _ => exact fun _ _ _ h => h
def resC (T : Unit → Tab) (A : Ar) (s : SL) (st : Store) : List ResultVar → (List DV → Prop) → Prop
 | [], K => K []
 | .tmp t :: rs, K => resC T A s st rs fun ds => K (getS s t :: ds)
 | .cell p ty :: rs, K => (match (T ()).sym (p + 1000) with
   | true => (match loadW T A st ty (getS s p) with
     | some (cs, d) => allP cs (resC T A s st rs fun ds => K (d :: ds))
     | none => False)
   | false => (match loadV T st ty (getS s p) with
     | some (cs, d) => allP cs (resC T A s st rs fun ds => K (d :: ds))
     | none => False))
def runW (W : DV → Store → Prop) (d : DV) (st : Store) : Prop := W d st
def retC (T : Unit → Tab) (A : Ar) (rs : List ResultVar) (W : DV → Store → Prop) : Exit → SL → Store → Prop
 | .ret, s, st => resC T A s st rs fun ds => runW W (oneD ds) st
 | .normal, s, st => resC T A s st rs fun ds => runW W (oneD ds) st
 | _, _, _ => False
def initL : Nat → List DV → SL
 | _, [] => []
 | k, d :: ds => (k, d) :: initL (k + 1) ds
theorem getS_initL : ∀ (ds : List DV) (k i : Nat), getS (initL k ds) (k + i) = match ds[i]? with
  | some d => d
  | none => .any
 | [], _, _ => rfl
 | d :: ds, k, 0 => by simp [initL, getS]
 | d :: ds, k, i + 1 => by
     have := getS_initL ds (k + 1) i
     simp only [initL, getS]
     rw [nbeq (by omega : k + (i + 1) ≠ k)]
     simp only
     rw [show k + (i + 1) = k + 1 + i by omega, this]
     simp
theorem initL_initS (ds : List DV) (i : Nat) : getS (initL 0 ds) i = initS ds i ∨ getS (initL 0 ds) i = .any := by
 have := getS_initL ds 0 i
 rw [Nat.zero_add] at this
 rw [this]
 unfold initS
 cases ds[i]? with
 | none => exact .inr rfl
 | some d => exact .inl rfl
theorem resC_D {P : Program} {T : Unit → Tab} (hT : TabOk P (T ())) {s : SL} {st : Store} : ∀ (rs : List ResultVar) (K : List DV → Prop), resC T A0 s st rs K → resD P (getS s) st rs K
 | [], _, h => h
 | .tmp t :: rs, K, h => resC_D hT rs _ h
 | .cell p ty :: rs, K, h => by
    unfold resC at h
    split at h
    ·split at h
     ·rename_i cs d hv
      rw [allP_iff] at h
      exact loadW_D hT hv h.1 (resC_D hT rs _ h.2)
     ·exact h.elim
    ·split at h
     ·rename_i cs d hv
      rw [allP_iff] at h
      exact loadV_D hT hv h.1 (resC_D hT rs _ h.2)
     ·exact h.elim
theorem FnD_cbv {P : Program} {T : Unit → Tab} (hT : TabOk P (T ())) {H : Unit → Kn} (hH : SoundK P (H ())) (hm : P.follows .mixedOrders = true) {f : FuncId} {fn : Func} {c : Code} {N : Nat} {args : List DV} {st : Store} {R : DV → Store → Prop}
  (hf : P.funcs[f]? = some fn) (hb : fn.body = some c) (hN : fn.ntmps = N) (ha : args.length ≤ N)
  (h : ∀ (A : Ar) (X : Cps) (W : DV → Store → Prop), A = A0 → X = X0 P N → W = RetW st.length R → wpC T A X H N c (retC T A fn.results.toList W) (initL 0 args) st) : FnD P f args st R := by
 refine FnD_intro hf hb hN ha ?_
 have h1 := wpC_ok hT hH hm c _ _ _ (h A0 (X0 P N) _ rfl rfl rfl)
 have h1 := lessQ_wpD (initL_initS args) h1
 intro E a hc hst hs
 refine wp_mono (h1 E a hc hst hs) ?_
 rintro e a' w' ⟨s', E', rfl, ⟨l, hl, hq⟩, k1, k2, k3⟩
 refine ⟨getS l, E', rfl, ?_, k1, k2, k3.less hl⟩
 cases e <;> first
  | exact resC_D hT _ _ hq
  | exact hq.elim
end Go.Proofs.Ytadnpgkddgbhkaa
namespace Go.Proofs.Ytadnpgkddgbhkaa
open Go.RowKit
set_option linter.all false
def tabOf (P : Program) : Tab where
 kds _ := none
 sym _ := false
 pause _ := false
 ty := tyD P
 zero := zeroD P
 fld := fieldD P
 fldV t f := match P.underlying t with
  | some (.struct fs) => (match fs[f]? with
    | some fl => some (fl.type, fl.offset)
    | none => none)
  | _ => none
 arr := arrD P
 sl := slD P
 by8 t := match P.info? t with
  | some i => some i.bytes
  | none => none
 str := isStrD P
 kinds t := match P.eqGuardType P.depth t, isAggD P t with
  | false, true => kindsT P 20 t
  | _, _ => none
 place := placeD P
 bok := buildOk P
 bool t := match P.underlying t with
  | some .bool => true
  | _ => false
 ik t := match P.underlying t with
  | some (.int k) => some k
  | _ => none
 ptr t := match P.underlying t with
  | some (.pointer _) => true
  | _ => false
 body := hasBody P
theorem tabOf_ok (P : Program) : TabOk P (tabOf P) where
 ty _ _ h := h
 zero _ _ h := h
 fld _ _ _ h := h
 fldV t f x h := by
  simp only [tabOf] at h
  split at h
  ·rename_i fs hu
   split at h
   ·rename_i fl hf
    cases h
    exact ⟨fs, fl, hu, hf, rfl, rfl⟩
   ·cases h
  ·cases h
 arr _ _ h := h
 sl _ _ h := h
 by8 t x h := by
  simp only [tabOf] at h
  split at h
  ·rename_i i hi
   cases h
   exact ⟨i, hi, rfl⟩
  ·cases h
 str t h := isStrD_spec h
 kinds t x h := by
  simp only [tabOf] at h
  split at h
  ·rename_i h1 h2
   exact ⟨h1, h2, h⟩
  ·cases h
 place _ _ _ h := h
 bok _ h := h
 bool t h := by
  simp only [tabOf] at h
  split at h
  ·rename_i hu; exact hu
  ·cases h
 ik t k h := by
  simp only [tabOf] at h
  split at h
  ·rename_i k' hu; cases h; exact hu
  ·cases h
 ptr t h := by
  simp only [tabOf] at h
  split at h
  ·rename_i e hu; exact ⟨e, hu⟩
  ·cases h
 body _ h := h
def memN : List Nat → Nat → Bool
 | [], _ => false
 | k :: l, i => match (k == i) with
   | true => true
   | false => memN l i
inductive Tr (α : Type) where
 | leaf
 | node (l : Tr α) (k : Nat) (v : α) (r : Tr α)
def atRow {α : Type} : Tr α → Nat → Option α
 | .leaf, _ => none
 | .node l k v r, i => match (i == k) with
   | true => some v
   | false => (match decide (i < k) with
     | true => atRow l i
     | false => atRow r i)
def Tr.rows {α : Type} : Tr α → List (Nat × α)
 | .leaf => []
 | .node l k v r => l.rows ++ (k, v) :: r.rows
theorem atRow_mem {α : Type} : ∀ (l : Tr α) (i : Nat) (v : α), atRow l i = some v → (i, v) ∈ l.rows
 | .leaf, _, _, h => by cases h
 | .node l k w r, i, v, h => by
    unfold atRow at h
    simp only [Tr.rows, List.mem_append, List.mem_cons]
    split at h
    ·rename_i hh
     cases h
     exact .inr (.inl (by rw [eqb hh]))
    ·split at h
     ·exact .inl (atRow_mem l i v h)
     ·exact .inr (.inr (atRow_mem r i v h))
theorem atRow_of {α : Type} {l : Tr α} {f : Nat → Option α} (h : l.rows.map (fun p => f p.1) = l.rows.map fun p => some p.2) (i : Nat) (v : α) (hv : atRow l i = some v) : f i = some v := by
 have hm := atRow_mem l i v hv
 obtain ⟨j, hj⟩ := List.getElem?_of_mem hm
 have := congrArg (·[j]?) h
 simp only [List.getElem?_map, hj, Option.map_some, Option.some.injEq] at this
 exact this
def atRow2 {α : Type} (l : Tr α) (t f : Nat) : Option α := match decide (f < 1000) with
 | true => atRow l (t * 1000 + f)
 | false => none
theorem atRow2_of {α : Type} {l : Tr α} {g : Nat → Nat → Option α} (h : l.rows.map (fun p => g (p.1 / 1000) (p.1 % 1000)) = l.rows.map fun p => some p.2) (t f : Nat) (v : α) (hv : atRow2 l t f = some v) : g t f = some v := by
 unfold atRow2 at hv
 split at hv
 ·rename_i hf
  have := atRow_of (f := fun i => g (i / 1000) (i % 1000)) h _ v hv
  have hf' : f < 1000 := by simpa using hf
  rwa [show (t * 1000 + f) / 1000 = t by omega, show (t * 1000 + f) % 1000 = f by omega] at this
 ·cases hv
def atRowB (l : Tr Bool) (t : Nat) : Bool := match atRow l t with
 | some b => b
 | none => false
theorem atRowB_of {l : Tr Bool} {g : Nat → Bool} (h : l.rows.map (fun p => some (g p.1)) = l.rows.map fun p => some p.2) (t : Nat) (hv : atRowB l t = true) : g t = true := by
 unfold atRowB at hv
 split at hv
 ·rename_i b hb
  subst hv
  have := atRow_of (f := fun i => some (g i)) h _ _ hb
  simpa using this
 ·cases hv
end Go.Proofs.Ytadnpgkddgbhkaa
namespace Go.Proofs.Ytadnpgkddgbhkaa
open Go.RowKit
set_option linter.all false
def Told (k : Nat) (s : SL) (st : Store) (s' : SL) (st' : Store) : Prop := Tells k (getS s) st (getS s') st'
theorem Told.trans {k : Nat} {s s' s2 : SL} {st st' st2 : Store} (h : Told k s st s' st') (g : Told k s' st' s2 st2) : Told k s st s2 st2 := Tells.trans h g
def toldP (f : DV → DV) (s : SL) : SL → Prop
 | [] => True
 | (i, d) :: l => (d = f (getS s i) ∨ d = .any) ∧ toldP f s l
theorem toldP_get {f : DV → DV} {s : SL} : ∀ {l : SL}, toldP f s l → ∀ i, getS l i = f (getS s i) ∨ getS l i = .any
 | [], _, i => .inr rfl
 | (j, d) :: l, h, i => by
     by_cases hi : i = j
     ·subst hi
      simpa [getS] using h.1
     ·have := toldP_get h.2 i
      simpa [getS, nbeq hi] using this
theorem told_less {k : Nat} {s s' : SL} {st : Store} (h : toldP id s s') : Told k s st s' st := Tells.any k _ _ st (toldP_get h)
theorem told_turn {k : Nat} {s s' : SL} {st st' : Store} {f : DV → DV} (ht : Turn k st st' fun d d' => d' = f d) (h : toldP f s s') : Told k s st s' st' := by
 refine Tells.trans (Tells.turn (s' := fun i => f (getS s i)) ht fun _ => rfl) ?_
 exact Tells.any k _ _ _ (toldP_get h)
def keepB (k : Nat) (κ : List Nat) (n : Nat) : Bool := decide κ.Nodup && κ.all (fun b => decide (b < n)) && decide (k ≤ κ.length) && (List.range k).all fun b => κ[b]? == some b
theorem turn_keep {k : Nat} {st : Store} (κ : List Nat) (h : keepB k κ st.length = true) : Turn k st (keepSt κ st) fun d d' => d' = pullD κ d := by
 simp only [keepB, Bool.and_eq_true, decide_eq_true_eq, List.all_eq_true, decide_eq_true_eq, decide_eq_true_eq, List.mem_range, beq_iff_eq] at h
 exact Turn.keep κ h.1.1.1 h.1.1.2 h.2 h.1.2
theorem told_keep {k : Nat} {s s' : SL} {st st' : Store} (κ : List Nat) (h : keepB k κ st.length = true) (hst : st' = keepSt κ st) (hs : toldP (pullD κ) s s') : Told k s st s' st' := by
 subst hst
 exact told_turn (turn_keep κ h) hs
section
variable {P : Program} {T : Unit → Tab} (hT : TabOk P (T ())) {H : Unit → Kn} (hH : SoundK P (H ())) (hm : P.follows .mixedOrders = true) {N : Nat} {c : Code} {Q : Exit → SL → Store → Prop} {s : SL} {st : Store}
theorem pauseC {s' : SL} {st' : Store} (ht : Told st.length s st s' st') (h : (X0 P N).st c Q s' st') : (X0 P N).st c Q s st := by
 have h' : wpD P N c (lessQ Q) (getS s') st' := h
 show wpD P N c (lessQ Q) (getS s) st
 exact wpD_tells ht h'
include hT hH hm in
theorem goC (h : wpC T A0 (X0 P N) H N c Q s st) : (X0 P N).st c Q s st := wpC_ok hT hH hm c Q s st h
include hT hH hm in
theorem loopC {ι : Type} (Inv : ι → Prop) (S : ι → SL) (ST : ι → Store) (μ : ι → Nat) (x0 : ι) (h0 : Inv x0) (ht : Told st.length s st (S x0) (ST x0))
  (round : ∀ (A : Ar) (X : Cps) (R : SL → Store → Prop) (x : ι), A = A0 → X = X0 P N → (R = fun s' st' => ∃ y, Inv y ∧ μ y < μ x ∧ Told (ST x0).length s' st' (S y) (ST y)) → Inv x → wpC T A X H N c (thenC R Q) (S x) (ST x)) : (X0 P N).st (.loop c) Q s st := by
 show wpD P N (.loop c) (lessQ Q) (getS s) st
 refine wpD_tells ht ?_
 refine wpD_loop (fun n s1 st1 => ∃ x, Inv x ∧ μ x = n ∧ s1 = getS (S x) ∧ st1 = ST x) (μ x0) ⟨x0, h0, rfl, rfl, rfl⟩ ?_
 rintro n s1 st1 ⟨x, hx, rfl, rfl, rfl⟩
 have h := wpC_ok hT hH hm c _ _ _ (round A0 (X0 P N) _ x rfl rfl rfl hx)
 refine wpD_mono h ?_
 rintro e s' st' ⟨l, hl, hq⟩
 cases e <;> try exact ⟨l, hl, hq⟩
 obtain ⟨y, hy, hμ, htold⟩ := hq
 exact ⟨μ y, _, _, hμ, Tells.trans (Tells.any _ _ _ _ hl) htold, y, hy, rfl, rfl, rfl⟩
section
variable {A : Ar} {X : Cps}
theorem pauseL (hX : X = X0 P N) {s' : SL} {st' : Store} (ht : Told st.length s st s' st') (h : X.st c Q s' st') : X.st c Q s st := by
 subst hX; exact pauseC ht h
include hT hH hm in
theorem goL (hA : A = A0) (hX : X = X0 P N) (h : wpC T A X H N c Q s st) : X.st c Q s st := by
 subst hA; subst hX; exact goC hT hH hm h
include hT hH hm in
theorem loopL (hA : A = A0) (hX : X = X0 P N) {ι : Type} (Inv : ι → Prop) (S : ι → SL) (ST : ι → Store) (μ : ι → Nat) (x0 : ι) (h0 : Inv x0) (ht : Told st.length s st (S x0) (ST x0))
  (round : ∀ (R : SL → Store → Prop) (x : ι), (R = fun s' st' => ∃ y, Inv y ∧ μ y < μ x ∧ Told (ST x0).length s' st' (S y) (ST y)) → Inv x → wpC T A X H N c (thenC R Q) (S x) (ST x)) : X.st (.loop c) Q s st := by
 subst hA; subst hX
 exact loopC hT hH hm Inv S ST μ x0 h0 ht fun A X R x hA hX hR hx => by
  subst hA; subst hX; exact round R x hR hx
end
end
theorem callL {P : Program} {N : Nat} {X : Cps} (hX : X = X0 P N) {f : FuncId} {args : List DV} {st : Store} {K : DV → Store → Prop} (h : FnD P f args st K) : X.fn f args st K := by subst hX; exact h
theorem opL {P : Program} {N : Nat} {X : Cps} (hX : X = X0 P N) {o : Op} {s : SL} {st : Store} {K : DV → Store → Prop} (h : opD P o (getS s) st K) : X.op o s st K := by subst hX; exact h
theorem ret_slice {r : DV} {st : Store} {sz b ver n : Nat} {xs : List (List PD)} {bx : Box} (hb : st[b]? = some bx) (hl : bx.live = true) (hv : ver = bx.ver) (hn : n = xs.length) (hcells : bx.cells = rowsD xs) (hsz : ∀ x ∈ xs, x.length = sz) (hr : r = .d (.slc sz xs)) :
  RetW 0 (fun x st => st = [] ∧ pureD x = true ∧ x = r) (.view sz b ver 0 n) st := by
 subst hv; subst hn; subst hr
 have h1 : TellsV 0 (.view sz b bx.ver 0 xs.length) st (.d (.slc sz xs)) (fzSt b sz xs st) := TellsV.turn (Turn.freeze b sz xs bx hb hl (Nat.zero_le _) hcells hsz) (by simp [fzD])
 obtain ⟨d', st', h2, h3⟩ := ret_v (r := .d (.slc sz xs)) (d := .d (.slc sz xs)) (st := fzSt b sz xs st) rfl rfl
 exact ⟨d', st', TellsV.trans h1 h2, h3⟩
theorem ret_keep {k : Nat} {R : DV → Store → Prop} {d : DV} {st : Store} (κ : List Nat) (h : keepB k κ st.length = true) (hr : R (pullD κ d) (keepSt κ st)) : RetW k R d st :=
 ⟨_, _, TellsV.turn (turn_keep κ h) rfl, hr⟩
theorem rowsB_append (a b : List UInt8) : rowsD (bytesP (a ++ b)) = rowsD (bytesP a) ++ rowsD (bytesP b) := by rw [← bytesP_append, rowsD_append]
theorem rowsB_one (b : UInt8) : rowsD (bytesP [b]) = [.d (.sc (.int .u8 b.toNat))] := rfl
theorem rowsB_length (a : List UInt8) : (rowsD (bytesP a)).length = a.length := by simp [rowsD, bytesP_flat]
theorem pull_rows (κ : List Nat) (xs : List (List PD)) : (rowsD xs).map (pullD κ) = rowsD xs := by
 simp only [rowsD, List.map_map]
 rfl
theorem ret_nil {r : DV} {st : Store} {sz : Nat} (hr : r = .d (.slc sz [])) : RetW 0 (fun x st => st = [] ∧ pureD x = true ∧ x = r) (.d (.sc (.slice none 0 0))) st := by
 subst hr
 obtain ⟨d', st', h2, h3⟩ := ret_v (r := .d (.slc sz [])) (d := .d (.slc sz [])) (st := st) rfl rfl
 exact ⟨d', st', TellsV.trans (TellsV.nil 0 st sz) h2, h3⟩
theorem FnD.at {P : Program} {f : FuncId} {args args' : List DV} {R : DV → Store → Prop} {st sts : Store} {K : DV → Store → Prop} (h : FnD P f args' sts R) (ρ : List Nat) (hρ : (decide ρ.Nodup && ρ.all (fun r => decide (r < st.length)) && (sts.length == ρ.length) && closedL ρ.length args') = true)
  (hsts : ∀ (k r : Nat) (bx : Box), ρ[k]? = some r → sts[k]? = some bx → st[r]? = some (Box.ren (place ρ st.length) bx) ∧ closedL ρ.length bx.cells = true) (ha : args = renL (place ρ st.length) args')
  (hk : ∀ r0 stc, R r0 stc → ρ.length ≤ stc.length → K (renD (place ρ st.length) r0) (mergeL st ρ (stc.map (Box.ren (place ρ st.length))))) : FnD P f args st K := by
 simp only [Bool.and_eq_true, decide_eq_true_eq, List.all_eq_true, decide_eq_true_eq] at hρ
 subst ha
 refine (FnD.frame h ρ hρ.1.1.1 hρ.1.1.2 (eqb hρ.1.2) hsts hρ.2).mono ?_
 rintro r st' ⟨r0, stc, h1, h2, rfl, rfl⟩
 exact hk r0 stc h1 h2
def NilL : List DV → List DV → Prop
 | [], [] => True
 | a :: as, b :: bs => (a = b ∨ (a = .d (.sc (.slice none 0 0)) ∧ ∃ sz, b = .d (.slc sz []))) ∧ NilL as bs
 | _, _ => False
theorem NilL.reps {E : Env} : ∀ {as bs : List DV} {vs : List Value}, NilL as bs → Reps E as vs → Reps E bs vs
 | [], [], _, _, h => h
 | a :: as, b :: bs, [], _, h => h.elim
 | a :: as, b :: bs, v :: vs, h, hr => by
     refine ⟨?_, NilL.reps h.2 hr.2⟩
     rcases h.1 with rfl | ⟨rfl, sz, rfl⟩
     ·exact hr.1
     ·exact .inl ⟨rfl, hr.1⟩
 | [], _ :: _, _, h, _ => h.elim
 | _ :: _, [], _, h, _ => h.elim
theorem FnP.nils {P : Program} {f : FuncId} {args args' : List DV} {Q : DV → Prop} (h : FnP P f args' Q) (hn : NilL args args') : FnP P f args Q := fun E vs h1 h2 h3 => h E vs h1 h2 (hn.reps h3)
end Go.Proofs.Ytadnpgkddgbhkaa
namespace Go.Proofs.Ytadnpgkddgbhkaa
open Go.RowKit
set_option linter.all false
mutual
def UpD : DV → DV → Prop
 | .agg as, b => ∃ bs, b = .agg bs ∧ UpL as bs
 | .tup as, b => ∃ bs, b = .tup bs ∧ UpL as bs
 | a, b => a = b ∨ (a = .d (.sc (.slice none 0 0)) ∧ ∃ sz, b = .d (.slc sz []))
def UpL : List DV → List DV → Prop
 | [], bs => bs = []
 | a :: as, bs => ∃ b cs, bs = b :: cs ∧ UpD a b ∧ UpL as cs
end
mutual
theorem UpD.rep {E : Env} : ∀ {a b : DV} {v : Value}, UpD a b → Rep E a v → Rep E b v
 | .agg as, b, v, h, hr => by
    obtain ⟨bs, rfl, h⟩ := h
    obtain ⟨vs, h1, h2, h3⟩ := hr
    exact ⟨vs, h1, h2, UpL.reps h h3⟩
 | .tup as, b, v, h, hr => by
    obtain ⟨bs, rfl, h⟩ := h
    obtain ⟨vs, h1, h3⟩ := hr
    exact ⟨vs, h1, UpL.reps h h3⟩
 | .any, b, v, h, hr => by rcases h with rfl | ⟨h, _⟩; exact hr; cases h
 | .d p, b, v, h, hr => by
    rcases h with rfl | ⟨h, sz, rfl⟩
    ·exact hr
    ·cases h; exact .inl ⟨rfl, hr⟩
 | .ref _ _ _, b, v, h, hr => by rcases h with rfl | ⟨h, _⟩; exact hr; cases h
 | .cref _, b, v, h, hr => by rcases h with rfl | ⟨h, _⟩; exact hr; cases h
 | .view _ _ _ _ _, b, v, h, hr => by rcases h with rfl | ⟨h, _⟩; exact hr; cases h
 | .fn _ _, b, v, h, hr => by rcases h with rfl | ⟨h, _⟩; exact hr; cases h
theorem UpL.reps {E : Env} : ∀ {as bs : List DV} {vs : List Value}, UpL as bs → Reps E as vs → Reps E bs vs
 | [], bs, vs, h, hr => by have h : bs = [] := h; subst h; exact hr
 | a :: as, bs, [], h, hr => hr.elim
 | a :: as, bs, v :: vs, h, hr => by
     obtain ⟨b, cs, rfl, h1, h2⟩ := h
     exact ⟨UpD.rep h1 hr.1, UpL.reps h2 hr.2⟩
end
mutual
theorem UpD.refl : ∀ a : DV, UpD a a
 | .agg as => ⟨as, rfl, UpL.refl' as⟩
 | .tup as => ⟨as, rfl, UpL.refl' as⟩
 | .any => .inl rfl
 | .d _ => .inl rfl
 | .ref _ _ _ => .inl rfl
 | .cref _ => .inl rfl
 | .view _ _ _ _ _ => .inl rfl
 | .fn _ _ => .inl rfl
theorem UpL.refl' : ∀ as : List DV, UpL as as
 | [] => rfl
 | a :: as => ⟨a, as, rfl, UpD.refl a, UpL.refl' as⟩
end
theorem UpL.done : UpL [] [] := rfl
theorem UpL.keep {a : DV} {as bs : List DV} (h : UpL as bs) : UpL (a :: as) (a :: bs) := ⟨_, _, rfl, UpD.refl a, h⟩
theorem UpL.nil {sz : Nat} {as bs : List DV} (h : UpL as bs) : UpL (.d (.sc (.slice none 0 0)) :: as) (.d (.slc sz []) :: bs) := ⟨_, _, rfl, .inr ⟨rfl, _, rfl⟩, h⟩
theorem UpL.agg {cs ds as bs : List DV} (h1 : UpL cs ds) (h : UpL as bs) : UpL (.agg cs :: as) (.agg ds :: bs) := ⟨_, _, rfl, ⟨_, rfl, h1⟩, h⟩
theorem FnP.ups {P : Program} {f : FuncId} {args args' : List DV} {Q : DV → Prop} (h : FnP P f args' Q) (hn : UpL args args') : FnP P f args Q := fun E vs h1 h2 h3 => h E vs h1 h2 (hn.reps h3)
theorem TellsV.up (k : Nat) (st : Store) {d d' : DV} (h : UpD d d') : TellsV k d st d' st := fun E v h1 h2 h3 => ⟨E, rfl, h2, h1, h.rep h3, fun _ _ _ h => h⟩
mutual
theorem UpD.pure : ∀ {a b : DV}, UpD a b → closedD 0 a = true → closedD 0 b = true
 | .agg as, b, h, hr => by
    obtain ⟨bs, rfl, h⟩ := h
    exact UpL.pure h hr
 | .tup as, b, h, hr => by
    obtain ⟨bs, rfl, h⟩ := h
    exact UpL.pure h hr
 | .any, b, h, hr => by rcases h with rfl | ⟨h, _⟩; exact hr; cases h
 | .d p, b, h, hr => by
    rcases h with rfl | ⟨h, sz, rfl⟩
    ·exact hr
    ·rfl
 | .ref _ _ _, b, h, hr => by rcases h with rfl | ⟨h, _⟩; exact hr; cases h
 | .cref _, b, h, hr => by rcases h with rfl | ⟨h, _⟩; exact hr; cases h
 | .view _ _ _ _ _, b, h, hr => by rcases h with rfl | ⟨h, _⟩; exact hr; cases h
 | .fn _ _, b, h, hr => by rcases h with rfl | ⟨h, _⟩; exact hr; cases h
theorem UpL.pure : ∀ {as bs : List DV}, UpL as bs → closedL 0 as = true → closedL 0 bs = true
 | [], bs, h, hr => by have h : bs = [] := h; subst h; exact hr
 | a :: as, bs, h, hr => by
     obtain ⟨b, cs, rfl, h1, h2⟩ := h
     simp only [closedL, Bool.and_eq_true] at hr ⊢
     exact ⟨UpD.pure h1 hr.1, UpL.pure h2 hr.2⟩
end
theorem ret_up {r d : DV} {st : Store} (h : UpD d r) (hp : pureD d = true) : RetW 0 (fun x st => st = [] ∧ pureD x = true ∧ x = r) d st := by
 obtain ⟨d', st', h1, h2, h3, rfl⟩ := ret_v (r := d) (d := d) (st := st) rfl hp
 exact ⟨r, st', TellsV.trans h1 (TellsV.up 0 st' h), h2, h.pure hp, rfl⟩
theorem nilTestL {P : Program} {N : Nat} {X : Cps} (hX : X = X0 P N) {T : Tab} (hT : TabOk P T) {t g sz sz' e : Nat} {x : Operand} {s : SL} {st : Store} {K : DV → Store → Prop}
  (h1 : T.sl t = some (e, sz)) (hx : ev (getS s) x = .d (.slc sz' [])) (k1 : K (.d (.sc (.bool true))) st) (k0 : K (.d (.sc (.bool false))) st) :
  X.op (.binOp .eql t x (.const (.slice none 0 0)) g) s st K := by
 refine opL hX ?_
 have hy : ev (getS s) (.const (.slice none 0 0)) = .d (.sc (.slice none 0 0)) := rfl
 have h2 : (slD P t).isSome = true := by rw [hT.sl _ _ h1]; rfl
 simp only [opD, hx, hy, binD]
 exact ⟨h2, k1, k0⟩
end Go.Proofs.Ytadnpgkddgbhkaa
namespace Go.Proofs.Ytadnpgkddgbhkaa
open Go.RowKit
set_option linter.all false
section
variable {P : Program} {T : Unit → Tab} (hT : TabOk P (T ())) {H : Unit → Kn} (hH : SoundK P (H ())) (hm : P.follows .mixedOrders = true) {N : Nat} {c : Code} {Q : Exit → SL → Store → Prop} {s : SL} {st : Store} {A : Ar} {X : Cps}
end
end Go.Proofs.Ytadnpgkddgbhkaa
namespace Go.Proofs.Ytadnpgkddgbhkaa
open Go.RowKit
set_option linter.all false
abbrev KnB := List (FuncId × (List DV → Store → SV))
def findB : KnB → FuncId → List DV → Store → SV
 | [], _, _, _ => none
 | (g, h) :: B, f, args, st => if f = g then h args st else findB B f args st
def SoundB (P : Program) (B : KnB) : Prop := ∀ f args st cs r st', findB B f args st = some (cs, r, st') → allP cs True → ∀ K : DV → Store → Prop, K r st' → FnD P f args st K
theorem noB_ok {P : Program} : SoundB P [] := fun _ _ _ _ _ _ h => by cases h
theorem orB_ok {P : Program} {f0 : FuncId} {h : List DV → Store → SV} {B : KnB} (hh : ∀ args st cs r st', h args st = some (cs, r, st') → allP cs True → ∀ K : DV → Store → Prop, K r st' → FnD P f0 args st K) (hB : SoundB P B) : SoundB P ((f0, h) :: B) := fun f args st cs r st' e hc => by
 unfold findB at e
 split at e
 ·rename_i hf
  subst hf
  exact hh args st cs r st' e hc
 ·exact hB f args st cs r st' e hc
def bothB (K : DV → Store → Prop) : SV → Prop
 | some (cs, r, st') => allP cs (K r st')
 | none => False
theorem callB {P : Program} {N : Nat} {X : Cps} (hX : X = X0 P N) {B : KnB} (hB : SoundB P B) {f : FuncId} {args : List DV} {st : Store} {K : DV → Store → Prop} (h : bothB K (findB B f args st)) : X.fn f args st K := by
 subst hX
 show FnD P f args st K
 unfold bothB at h
 split at h
 ·rename_i cs r st' hv
  rw [allP_iff] at h
  exact hB f args st cs r st' hv h.1 K h.2
 ·exact h.elim
def setI (ids : List FuncId) : Op → Bool
 | .buildSlice _ len _ => ids.elem (1000000 + len)
 | _ => false
def tnI (ids : List FuncId) (o : Op) : Bool := (turns o && !setI ids o) || (match o with
 | .call c => (match c.callee with
   | .value (.func f) => ids.elem f
   | _ => false)
 | _ => false)
def tvV (T : Unit → Tab) (A : Ar) (B : Unit → KnB) (o : Op) (s : SL) (st : Store) : SV :=
 match o with
 | .call c => (match c.callee with
   | .value (.func f) => (match (T ()).body f with
     | true => findB (B ()) f (c.args.toList.map (evL s)) st
     | false => none)
   | _ => opV T A o s st)
 | o => opV T A o s st
theorem tvV_D {P : Program} {T : Unit → Tab} (hT : TabOk P (T ())) {B : Unit → KnB} (hB : SoundB P (B ())) {o : Op} {s : SL} {st st' : Store} {cs : List Prop} {d : DV} (h : tvV T A0 B o s st = some (cs, d, st')) (hc : allP cs True) {K : DV → Store → Prop} (hk : K d st') : opD P o (getS s) st K := by
 unfold tvV at h
 split at h
 ·rename_i c
  split at h
  ·rename_i f hf
   split at h
   ·rename_i hb
    simp only [opD, callD, hf]
    exact .inl ⟨hT.body _ hb, hB f _ st cs d st' h hc K hk⟩
   ·cases h
  ·exact opV_D hT h hc hk
 ·exact opV_D hT h hc hk
section mix
variable {P : Program} {ids : List FuncId} {T : Unit → Tab} (hT : TabOk P (T ())) {H : Unit → Kn} (hH : SoundK P (H ())) {B : Unit → KnB} (hB : SoundB P (B ())) {N : Nat} {ops : Array Oper} {Q : Slots → Store → Prop}
include hT hH hB
end mix
theorem FnD.one {P : Program} {f : FuncId} {args : List DV} {bx bx' : Box} {res : DV} {st : Store} {K : DV → Store → Prop} (b : Nat) (h : FnD P f (.ref 0 0 0 :: args) [bx] fun r st' => r = res ∧ st' = [bx']) (hb : st[b]? = some bx)
  (ha : closedL 0 args = true) (hr : closedD 0 res = true) (h1 : closedL 0 bx.cells = true) (h2 : closedL 0 bx'.cells = true) (hk : K res (st.set b bx')) : FnD P f (.ref b 0 0 :: args) st K := by
 have hlt : b < st.length := (List.getElem?_eq_some_iff.1 hb).1
 have e : ∀ bx : Box, closedL 0 bx.cells = true → Box.ren (place [b] st.length) bx = bx := fun bx hb => by
  unfold Box.ren
  have := renL_pure (place [b] st.length) bx.cells hb
  rw [renL_eq] at this
  rw [this]
 refine FnD.at (args' := .ref 0 0 0 :: args) h [b] (by simp [hlt, closedL, closedD, closedL_mono (Nat.zero_le 1) _ ha]) ?_ (by simp [renL, renD, place, renL_pure _ _ ha]) ?_
 ·intro k r bx0 hk hs
  cases k with
  | zero =>
    simp at hk hs
    subst hk; subst hs
    exact ⟨by rw [e _ h1]; exact hb, closedL_mono (Nat.zero_le _) _ h1⟩
  | succ k => simp at hk
 ·rintro r0 stc ⟨rfl, rfl⟩ _
  rw [renD_pure _ _ hr]
  have e2 : mergeL st [b] ([bx'].map (Box.ren (place [b] st.length))) = st.set b bx' := by
   apply List.ext_getElem?
   intro i
   simp only [mergeL, List.map_cons, List.map_nil, e _ h2, List.length_singleton, List.drop_one, List.tail_cons, List.append_nil, List.getElem?_mapIdx, List.getElem?_set]
   by_cases hi : b = i
   ·subst hi
    simp [hlt, List.idxOf?, List.findIdx?_cons]
   ·have : ([b] : List Nat).idxOf? i = none := by rw [List.idxOf?_eq_none_iff]; simpa using fun h => hi h.symm
    simp [this, hi]
  rw [e2]
  exact hk
theorem FnD.ret {P : Program} {f : FuncId} {args : List DV} {st : Store} {R : DV → Store → Prop} (h : FnD P f args st fun r st' => RetW st.length R r st') : FnD P f args st R := by
 intro E vs hc hst hr
 refine (h E vs hc hst hr).mono ?_
 rintro e w' ⟨v, E2, r, k1, k2, ⟨d', st', k3, k4⟩, k5, k6, k7⟩
 obtain ⟨E3, m1, m2, m3, m4, m5⟩ := k3 E2 v k5 rfl k7
 exact ⟨v, E3, d', k1, m1.trans k2, by rw [m2]; exact k4, m3, m5 E hc.len (by rw [hst]; exact Nat.le_refl _) k6, m4⟩
end Go.Proofs.Ytadnpgkddgbhkaa
