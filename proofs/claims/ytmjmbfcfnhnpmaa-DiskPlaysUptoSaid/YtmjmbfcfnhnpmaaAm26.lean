/- The program logic, twenty-sixth part: statements and functions for 'cbv'. No condition: lemmas of any program. -/
import Derived.Test.YtmjmbfcfnhnpmaaAm25
namespace Go.Proofs.Ytmjmbfcfnhnpmaa
open Go.RowKit
set_option linter.all false
theorem opE_none {P : Program} {o : Op} {s : Slots} {st : Store} {K : DV → Store → Prop} (h : opD P o s st K) : opE P [] o s st K := by
  unfold opE
  split
  · rename_i c
    unfold callE
    simp only [opD, callD] at h
    split
    · rename_i f hf
      simp only [hf] at h
      exact h
    · exact h
  · exact h
theorem opV_keep {T : Unit → Tab} {A : Ar} {o : Op} {s : SL} {st st' : Store} {cs : List Prop} {d : DV} (ht : turns o = false) (h : opV T A o s st = some (cs, d, st')) : st' = st := by
  unfold opV at h
  split at h <;> first
    | (cases h; rfl)
    | exact (pureV_some h).1
    | (simp [turns] at ht; done)
    | skip
  · split at h <;> first | exact (pureV_some h).1 | (split at h <;> exact (pureV_some h).1)
  · split at h <;> first | exact (pureV_some h).1 | (split at h <;> exact (pureV_some h).1)
  · split at h <;> first | exact (pureV_some h).1 | (split at h <;> exact (pureV_some h).1)
  · split at h <;> first | exact (pureV_some h).1 | (split at h <;> exact (pureV_some h).1)
  · split at h <;> first | exact (pureV_some h).1 | (split at h <;> exact (pureV_some h).1)
  · split at h
    · cases h; rfl
    · cases h
  · split at h
    · exact (pureV_some h).1
    · rename_i h1 h2 h3
      simp [turns, h1] at ht
    · rename_i h1 h2 h3
      simp [turns, h1] at ht
    · exact (pureV_some h).1
    · exact (pureV_some h).1
    · exact (pureV_some h).1
    · rename_i h1 h2 h3
      simp [turns, h1] at ht
    · cases h
  · cases h
/-- An operation that turns nothing. -/
def pvV (T : Unit → Tab) (A : Ar) (H : Unit → Kn) (o : Op) (s : SL) (st : Store) : RV :=
  match spV T A H o s st with
  | some r => some r
  | none => (match turns o, opV T A o s st with
    | false, some (cs, d, _) => some (cs, d)
    | _, _ => none)
theorem pvV_D {P : Program} {T : Unit → Tab} (hT : TabOk P (T ())) {H : Unit → Kn} (hH : SoundK P (H ())) {o : Op} {s : SL} {st : Store} {cs : List Prop} {d : DV} (h : pvV T A0 H o s st = some (cs, d)) (hc : allP cs True) {K : DV → Store → Prop} (hk : K d st) : opD P o (getS s) st K := by
  unfold pvV at h
  split at h
  · rename_i r hr
    cases h
    exact spV_D hT hH hr hc hk
  · split at h
    · rename_i cs' d' st' ht hv
      cases h
      have := opV_keep ht hv
      subst this
      exact opV_D hT hv hc hk
    · cases h
abbrev DL := List (Op × SL × DV)
def staysC (T : Unit → Tab) (A : Ar) (H : Unit → Kn) (st : Store) : DL → Prop → Prop
  | [], X => X
  | (o, s, d) :: l, X => match pvV T A H o s st with
    | some (cs, d') => allP cs (d' = d ∧ staysC T A H st l X)
    | none => False
def stoodC (T : Unit → Tab) (A : Ar) (H : Unit → Kn) (o : Op) (s : SL) (d : DV) : List Store → Prop → Prop
  | [], X => X
  | st :: l, X => match pvV T A H o s st with
    | some (cs, d') => allP cs (d' = d ∧ stoodC T A H o s d l X)
    | none => False
theorem staysC_E {P : Program} {T : Unit → Tab} (hT : TabOk P (T ())) {H : Unit → Kn} (hH : SoundK P (H ())) {st : Store} {X : Prop} : ∀ (l : DL), staysC T A0 H st l X → staysE P [] st (l.map fun p => (p.1, getS p.2.1, p.2.2)) ∧ X
  | [], h => ⟨trivial, h⟩
  | (o, s, d) :: l, h => by
      unfold staysC at h
      split at h
      · rename_i cs d' hv
        rw [allP_iff] at h
        obtain ⟨hc, rfl, h⟩ := h
        obtain ⟨h1, h2⟩ := staysC_E hT hH l h
        exact ⟨⟨fun K hK => opE_none (pvV_D hT hH hv hc hK), h1⟩, h2⟩
      · exact h.elim
theorem stoodC_E {P : Program} {T : Unit → Tab} (hT : TabOk P (T ())) {H : Unit → Kn} (hH : SoundK P (H ())) {o : Op} {s : SL} {d : DV} {X : Prop} : ∀ (l : List Store), stoodC T A0 H o s d l X → stoodE P [] o (getS s) d l ∧ X
  | [], h => ⟨trivial, h⟩
  | st :: l, h => by
      unfold stoodC at h
      split at h
      · rename_i cs d' hv
        rw [allP_iff] at h
        obtain ⟨hc, rfl, h⟩ := h
        obtain ⟨h1, h2⟩ := stoodC_E hT hH l h
        exact ⟨⟨fun K hK => opE_none (pvV_D hT hH hv hc hK), h1⟩, h2⟩
      · exact h.elim
def mixOne (T : Unit → Tab) (A : Ar) (H : Unit → Kn) (o : Op) (s : SL) (st : Store) (olds : List Store) (done : DL) (X : DV → Store → List Store → DL → Prop) : Prop :=
  match turns o with
  | true => (match opV T A o s st with
    | some (cs, d, st1) => allP cs (staysC T A H st1 done (X d st1 (st :: olds) done))
    | none => False)
  | false => (match pvV T A H o s st with
    | some (cs, d) => allP cs (stoodC T A H o s d olds (X d st olds ((o, s, d) :: done)))
    | none => False)
def mixNo (T : Unit → Tab) (A : Ar) (H : Unit → Kn) (o : Op) (st : Store) (olds : List Store) (done : DL) (X : DV → Store → List Store → DL → Prop) : Prop :=
  match turns o with
  | true => staysC T A H st done (X (.d (.sc (.tuple #[]))) st (st :: olds) done)
  | false => X (.d (.sc (.tuple #[]))) st olds done
def mixC (T : Unit → Tab) (A : Ar) (H : Unit → Kn) (N : Nat) (ops : Array Oper) (Q : SL → Store → Prop) : List Oper → SL → Store → List Store → DL → Prop
  | [], s, st, _, _ => Q s st
  | o :: rest, s, st, olds, done => match dstB N o.dst, o.guard with
    | true, none => mixOne T A H o.op s st olds done fun d st1 olds1 done1 => mixC T A H N ops Q rest (putL o.dst d s) st1 olds1 done1
    | true, some (j, w) => (match slotOf ops j with
      | some k => (match getS s k with
        | .d (.sc (.bool t)) => brC t
          (fun _ => match w with
            | true => mixOne T A H o.op (setS s k (.d (.sc (.bool true)))) st olds done fun d st1 olds1 done1 => mixC T A H N ops Q rest (putL o.dst d (setS s k (.d (.sc (.bool true))))) st1 olds1 done1
            | false => mixNo T A H o.op st olds done fun d st1 olds1 done1 => mixC T A H N ops Q rest (putL o.dst d (setS s k (.d (.sc (.bool true))))) st1 olds1 done1)
          (fun _ => match w with
            | false => mixOne T A H o.op (setS s k (.d (.sc (.bool false)))) st olds done fun d st1 olds1 done1 => mixC T A H N ops Q rest (putL o.dst d (setS s k (.d (.sc (.bool false))))) st1 olds1 done1
            | true => mixNo T A H o.op st olds done fun d st1 olds1 done1 => mixC T A H N ops Q rest (putL o.dst d (setS s k (.d (.sc (.bool false))))) st1 olds1 done1)
        | .d (.sc (.tuple _)) => mixNo T A H o.op st olds done fun d st1 olds1 done1 => mixC T A H N ops Q rest (putL o.dst d s) st1 olds1 done1
        | _ => False)
      | none => False)
    | false, _ => False
abbrev dlD (done : DL) : List (Op × Slots × DV) := done.map fun p => (p.1, getS p.2.1, p.2.2)
theorem mixOne_G {P : Program} {T : Unit → Tab} (hT : TabOk P (T ())) {H : Unit → Kn} (hH : SoundK P (H ())) {o : Op} {s s2 : SL} (hs : getS s = getS s2) {st : Store} {olds : List Store} {done : DL} {X : DV → Store → List Store → DL → Prop} {Y : After} (h : mixOne T A0 H o s st olds done X)
    (hx : ∀ d st1 olds1 done1, X d st1 olds1 done1 → Y d st1 olds1 (dlD done1)) : mixRun P [] o (getS s2) st olds (dlD done) Y := by
  rw [← hs]
  unfold mixOne at h
  split at h
  · rename_i ht
    split at h
    · rename_i cs d st1 hv
      rw [allP_iff] at h
      obtain ⟨hc, h⟩ := h
      obtain ⟨h1, h2⟩ := staysC_E hT hH _ h
      simp only [mixRun, ht, ↓reduceIte]
      exact ⟨d, st1, fun K hK => opE_none (opV_D hT hv hc hK), h1, hx _ _ _ _ h2⟩
    · exact h.elim
  · rename_i ht
    split at h
    · rename_i cs d hv
      rw [allP_iff] at h
      obtain ⟨hc, h⟩ := h
      obtain ⟨h1, h2⟩ := stoodC_E hT hH _ h
      simp only [mixRun, ht, Bool.false_eq_true, ↓reduceIte]
      exact ⟨d, fun K hK => opE_none (pvV_D hT hH hv hc hK), h1, hx _ _ _ _ h2⟩
    · exact h.elim
theorem mixNo_G {P : Program} {T : Unit → Tab} (hT : TabOk P (T ())) {H : Unit → Kn} (hH : SoundK P (H ())) {o : Op} {st : Store} {olds : List Store} {done : DL} {X : DV → Store → List Store → DL → Prop} {Y : After} (h : mixNo T A0 H o st olds done X)
    (hx : ∀ d st1 olds1 done1, X d st1 olds1 done1 → Y d st1 olds1 (dlD done1)) : mixSkip P [] o st olds (dlD done) Y := by
  unfold mixNo at h
  split at h
  · rename_i ht
    obtain ⟨h1, h2⟩ := staysC_E hT hH _ h
    simp only [mixSkip, ht, ↓reduceIte]
    exact ⟨h1, hx _ _ _ _ h2⟩
  · rename_i ht
    simp only [mixSkip, ht, Bool.false_eq_true, ↓reduceIte]
    exact hx _ _ _ _ h
theorem mixC_G {P : Program} {T : Unit → Tab} (hT : TabOk P (T ())) {H : Unit → Kn} (hH : SoundK P (H ())) {N : Nat} {ops : Array Oper} {Q : SL → Store → Prop} : ∀ (l : List Oper) (s : SL) (st : Store) (olds : List Store) (done : DL), mixC T A0 H N ops Q l s st olds done →
    mixG P [] N ops (fun s' st' => ∃ l, getS l = s' ∧ Q l st') l (getS s) st olds (dlD done)
  | [], s, st, olds, done, h => ⟨s, rfl, h⟩
  | o :: rest, s, st, olds, done, h => by
      have next : ∀ s2 : SL, getS s2 = getS s → ∀ (d : DV) (st1 : Store) (olds1 : List Store) (done1 : DL), mixC T A0 H N ops Q rest (putL o.dst d s2) st1 olds1 done1 → mixG P [] N ops (fun s' st' => ∃ l, getS l = s' ∧ Q l st') rest (putS o.dst d (getS s)) st1 olds1 (dlD done1) := fun s2 h2 d st1 olds1 done1 hq => by
        have := mixC_G hT hH rest _ _ _ _ hq
        rw [getS_putL, h2] at this
        exact this
      unfold mixC at h
      split at h
      · rename_i hd hg
        refine ⟨dstB_ok hd, ?_⟩
        rw [hg]
        exact mixOne_G hT hH rfl h (next s rfl)
      · rename_i j w hd hg
        refine ⟨dstB_ok hd, ?_⟩
        rw [hg]
        split at h
        · rename_i k hk
          simp only [hk]
          split at h
          · rename_i t ht
            have hs : ∀ b, b = t → getS (setS s k (.d (.sc (.bool b)))) = getS s := fun b e => getS_same (by rw [e]; exact ht)
            simp only [ht]
            have hu : upd (getS s) k (.d (.sc (.bool t))) = getS s := upd_self ht
            cases t <;> cases w <;> simp only [brC] at h
            · rw [if_pos rfl, hu]
              exact mixOne_G hT hH (hs _ rfl) h (next _ (hs _ rfl))
            · rw [if_neg (by decide), show (!true) = false from rfl, hu]
              exact mixNo_G hT hH h (next _ (hs _ rfl))
            · rw [if_neg (by decide), show (!false) = true from rfl, hu]
              exact mixNo_G hT hH h (next _ (hs _ rfl))
            · rw [if_pos rfl, hu]
              exact mixOne_G hT hH (hs _ rfl) h (next _ (hs _ rfl))
          · rename_i vs ht
            simp only [ht]
            exact mixNo_G hT hH h (next s rfl)
          · exact h.elim
        · exact h.elim
      · exact h.elim
/-- A region in any order that turns nothing, each operation reckoned in any case. -/
def spM (T : Unit → Tab) (A : Ar) (H : Unit → Kn) (N : Nat) (ops : Array Oper) : List Oper → SL → WL → Store → (SL → Prop) → Prop
  | [], sp, wl, _, Q => Q (killW wl sp)
  | o :: rest, sp, wl, st, Q => match dstB N o.dst, o.guard with
    | true, none => (match readsC A none wl sp o.op, pvV T A H o.op sp st with
      | some cs, some (ds, d) => allP cs (allP ds (spM T A H N ops rest (putL o.dst d sp) (dropW o.dst wl) st Q))
      | _, _ => False)
    | true, some (j, w) => (match slotOf ops j with
      | some k => (match getS sp k with
        | .d (.sc (.bool t)) => (match readsC A (some (andW A (getW wl k) (A.is t w))) wl sp o.op, spV T A H o.op sp st with
          | some cs, some (ds, d) => allP cs (allP (whenL A (andW A (getW wl k) (A.is t w)) ds) (spM T A H N ops rest (putL o.dst d sp) (setW o.dst (andW A (getW wl k) (A.is t w)) wl) st Q))
          | _, _ => False)
        | _ => False)
      | none => False)
    | false, _ => False
theorem spM_pure {P : Program} {T : Unit → Tab} (hT : TabOk P (T ())) {H : Unit → Kn} (hH : SoundK P (H ())) {N : Nat} {ops : Array Oper} {st : Store} {Q : SL → Prop} : ∀ (l : List Oper) (s : Slots) (sp : SL) (wl : WL), Spec s (getS sp) (wOf wl) → spM T A0 H N ops l sp wl st Q →
    pureL P N ops st (fun s' => ∃ l, (∀ k, getS l k = s' k ∨ getS l k = .any) ∧ Q l) l s
  | [], s, sp, wl, hI, h => ⟨_, killW_ok hI, h⟩
  | o :: rest, s, sp, wl, hI, h => by
      unfold spM at h
      split at h
      · rename_i hd hg
        split at h
        · rename_i cs ds d hr hv
          rw [allP_iff] at h
          obtain ⟨hc1, h⟩ := h
          rw [allP_iff] at h
          obtain ⟨hc2, h⟩ := h
          have hro := readsC_ok hr hc1
          have q := hI.put o.dst d true
          rw [if_pos rfl] at q
          refine ⟨d, .inl ⟨by rw [hg]; rfl, fun K hK => readsOk_D hI rfl hro (pvV_D hT hH hv hc2 hK)⟩, dstB_ok hd, spM_pure hT hH rest _ _ _ ?_ h⟩
          rw [getS_putL, wOf_drop]
          exact q
        · exact h.elim
      · rename_i j w hd hg
        split at h
        · rename_i k hk
          split at h
          · rename_i t ht
            split at h
            · rename_i cs ds d hr hv
              rw [allP_iff] at h
              obtain ⟨hc1, h⟩ := h
              rw [allP_iff] at h
              obtain ⟨hc2, h⟩ := h
              have hro := readsC_ok hr hc1
              simp only [Option.getD_some] at hro
              have hWe : andW A0 (getW wl k) (A0.is t w) = (wOf wl k && (t == w)) := by rw [andW_ok]; rfl
              rw [hWe] at hro h hc2
              have q := hI.put o.dst d (wOf wl k && (t == w))
              have hIk := hI k
              refine ⟨if (wOf wl k && (t == w)) = true then d else .d (.sc undef), ?_, dstB_ok hd, spM_pure hT hH rest _ _ _ (by rw [getS_putL, wOf_set]; exact q) h⟩
              by_cases hW : (wOf wl k && (t == w)) = true
              · rw [if_pos hW]
                refine .inl ⟨?_, fun K hK => readsOk_D hI hW hro (spV_D hT hH hv (whenL_ok hW hc2) hK)⟩
                simp only [Bool.and_eq_true] at hW
                rw [if_pos hW.1, ht] at hIk
                rw [hg]
                simp only [wantedD, hk, hIk, hW.2]
              · rw [if_neg hW]
                refine .inr ⟨?_, rfl⟩
                rw [hg]
                by_cases hwk : wOf wl k = true
                · rw [if_pos hwk, ht] at hIk
                  simp only [wantedD, hk, hIk]
                  simp only [hwk, Bool.true_and] at hW
                  simpa using hW
                · rw [if_neg hwk] at hIk
                  simp only [wantedD, hk, hIk]
                  rfl
            · exact h.elim
          · exact h.elim
        · exact h.elim
      · exact h.elim
def thenC (next : SL → Store → Prop) (Q : Exit → SL → Store → Prop) : Exit → SL → Store → Prop
  | .normal, s, st => next s st
  | e, s, st => Q e s st
def blockC (id : Nat) (Q : Exit → SL → Store → Prop) : Exit → SL → Store → Prop
  | .exit id', s, st => (match (id' == id) with
    | true => Q .normal s st
    | false => Q (.exit id') s st)
  | e, s, st => Q e s st
def anyGuard : List Oper → Bool
  | [] => false
  | o :: l => match o.guard with
    | some _ => true
    | none => anyGuard l
def specAll (H : Unit → Kn) : List Oper → Bool
  | [] => true
  | o :: l => match o.guard with
    | some _ => (match spOk H o.op with
      | true => specAll H l
      | false => false)
    | none => specAll H l
/-- Turns nothing; each operation may be reckoned in any case. -/
def specM (H : Unit → Kn) : List Oper → Bool
  | [] => true
  | o :: l => match turns o.op, o.guard with
    | true, _ => false
    | false, some _ => (match spOk H o.op with
      | true => specM H l
      | false => false)
    | false, none => specM H l
def wpC (T : Unit → Tab) (A : Ar) (X : Cps) (H : Unit → Kn) (N : Nat) : Code → (Exit → SL → Store → Prop) → SL → Store → Prop
  | .skip, Q, s, st => Q .normal s st
  | .exit id, Q, s, st => Q (.exit id) s st
  | .ret, Q, s, st => Q .ret s st
  | .seq x y, Q, s, st => wpC T A X H N x (thenC (wpC T A X H N y Q) Q) s st
  | .block id c, Q, s, st => wpC T A X H N c (blockC id Q) s st
  | .cond c x y, Q, s, st => match evL s c with
    | .d (.sc (.bool t)) => brC t (fun _ => wpC T A X H N x Q s st) fun _ => wpC T A X H N y Q s st
    | _ => False
  | .region id ops false, Q, s, st => (match (T ()).pause id, anyGuard ops.toList, specAll H ops.toList with
    | true, _, _ => X.st (.region id ops false) Q s st
    | false, false, _ => rowC T A X H N ops.toList s st (Q .normal)
    | false, true, true => spG T A X H N ops ops.toList s [] st (Q .normal)
    | false, true, false => genG T A X H N ops ops.toList s st (Q .normal))
  | .region id ops true, Q, s, st => (match (T ()).pause id, specM H ops.toList with
    | true, _ => X.st (.region id ops true) Q s st
    | false, true => A.lex ops ∧ spM T A H N ops ops.toList s [] st fun l => Q .normal l st
    | false, false => A.lex ops ∧ A.trn ops ∧ mixC T A H N ops (Q .normal) ops.toList s st [] [])
  | c, Q, s, st => X.st c Q s st
/-- Less may be known of the slots. -/
def lessQ (Q : Exit → SL → Store → Prop) (e : Exit) (s : Slots) (st : Store) : Prop := ∃ l, (∀ k, getS l k = s k ∨ getS l k = .any) ∧ Q e l st
theorem lessQ_wpD {P : Program} {N : Nat} {c : Code} {Q : Exit → Slots → Store → Prop} {s : Slots} {st : Store} {l : SL} (hl : ∀ k, getS l k = s k ∨ getS l k = .any) (h : wpD P N c Q (getS l) st) : wpD P N c Q s st :=
  wpD_tells (Tells.any st.length s (getS l) st hl) h
theorem region_less {P : Program} {N : Nat} {Q : Exit → SL → Store → Prop} {s : SL} {st : Store} {id : Nat} {l : List Oper}
    (h : ∀ (E : Env) (a : Act) (Q' : Exit → Act → World → Prop), E.st = st → Conc E → SlotsOk E N (getS s) a → (∀ (s' : SL) (a' : Act) (E' : Env), Q .normal s' E'.st → Conc E' → Ext E E' → SlotsOk E' N (getS s') a' → Q' .normal a' E'.w) → wpList P l.toArray Q' l a E.w) : wpD P N (.region id l.toArray false) (lessQ Q) (getS s) st := by
  intro E a hc hst hs
  exact wp_region_lit (h E a _ hst hc hs fun s' a' E' hk h1 h2 h3 => ⟨getS s', E', rfl, ⟨s', fun _ => .inl rfl, hk⟩, h1, h2, h3⟩)
theorem wpC_ok {P : Program} {T : Unit → Tab} (hT : TabOk P (T ())) {H : Unit → Kn} (hH : SoundK P (H ())) (hm : P.follows .mixedOrders = true) {N : Nat} : ∀ (c : Code) (Q : Exit → SL → Store → Prop) (s : SL) (st : Store), wpC T A0 (X0 P N) H N c Q s st → wpD P N c (lessQ Q) (getS s) st := by
  have self : ∀ {Q : Exit → SL → Store → Prop} {e : Exit} {s : SL} {st : Store}, Q e s st → lessQ Q e (getS s) st := fun h => ⟨_, fun _ => .inl rfl, h⟩
  intro c
  induction c with
  | skip => exact fun _ _ _ h => wpD_skip (self h)
  | exit id => exact fun _ _ _ h => wpD_exit (self h)
  | ret => exact fun _ _ _ h => wpD_ret (self h)
  | seq x y ihx ihy =>
    intro Q s st h
    refine wpD_seq (wpD_mono (ihx _ _ _ h) ?_)
    rintro e s' st' ⟨l, hl, hq⟩
    cases e <;> first
      | exact lessQ_wpD hl (ihy _ _ _ hq)
      | exact ⟨l, hl, hq⟩
  | block id c ih =>
    intro Q s st h
    refine wpD_block (wpD_mono (ih _ _ _ h) ?_)
    rintro e s' st' ⟨l, hl, hq⟩
    cases e <;> try exact ⟨l, hl, hq⟩
    rename_i id'
    simp only [blockC] at hq
    simp only [blockD]
    split at hq
    · rename_i hb
      rw [if_pos (eqb hb)]
      exact ⟨l, hl, hq⟩
    · rename_i hb
      rw [if_neg (fun e => by subst e; simp at hb)]
      exact ⟨l, hl, hq⟩
  | cond c x y ihx ihy =>
    intro Q s st h
    unfold wpC at h
    split at h
    · rename_i t ht
      refine wpD_cond t ht (fun e => ?_) fun e => ?_
      · subst e; exact ihx _ _ _ h
      · subst e; exact ihy _ _ _ h
    · exact h.elim
  | region id ops m =>
    intro Q s st h
    obtain ⟨l⟩ := ops
    cases m
    · unfold wpC at h
      split at h
      · exact h
      · refine region_less fun E a Q' hst hc hs hn => ?_
        subst hst
        exact rowC_ok hT hH l s E a _ hc hs h hn
      · refine region_less fun E a Q' hst hc hs hn => ?_
        subst hst
        exact spG_ok hT hH l (getS s) s [] E a _ (fun k => by simp [wOf, getW]) hc hs h hn
      · refine region_less fun E a Q' hst hc hs hn => ?_
        subst hst
        exact genG_ok hT hH l s E a _ hc hs h hn
    · unfold wpC at h
      split at h
      · exact h
      · obtain ⟨h1, h⟩ := h
        exact wpD_pure hm h1 (spM_pure hT hH l (getS s) s [] (fun k => by simp [wOf, getW]) h)
      · obtain ⟨h1, h2, h⟩ := h
        refine wpD_mono (wpD_mix noH_ok hm h1 h2 (Q := fun e s' st' => e = .normal ∧ ∃ l, getS l = s' ∧ Q .normal l st') ?_) ?_
        · have := mixC_G (ops := l.toArray) hT hH l s st [] [] h
          simpa using this
        · rintro e s' st' ⟨rfl, l, rfl, hq⟩
          exact self hq
  | _ => exact fun _ _ _ h => h
def resC (T : Unit → Tab) (A : Ar) (s : SL) (st : Store) : List ResultVar → (List DV → Prop) → Prop
  | [], K => K []
  | .tmp t :: rs, K => resC T A s st rs fun ds => K (getS s t :: ds)
  | .cell p ty :: rs, K => (match (T ()).sym (p + 1000) with
    | true => (match loadW T A st ty (getS s p) with
      | some (cs, d) => allP cs (resC T A s st rs fun ds => K (d :: ds))
      | none => False)
    | false => (match loadV T st ty (getS s p) with
      | some (cs, d) => allP cs (resC T A s st rs fun ds => K (d :: ds))
      | none => False))
def runW (W : DV → Store → Prop) (d : DV) (st : Store) : Prop := W d st
def retC (T : Unit → Tab) (A : Ar) (rs : List ResultVar) (W : DV → Store → Prop) : Exit → SL → Store → Prop
  | .ret, s, st => resC T A s st rs fun ds => runW W (oneD ds) st
  | .normal, s, st => resC T A s st rs fun ds => runW W (oneD ds) st
  | _, _, _ => False
def initL : Nat → List DV → SL
  | _, [] => []
  | k, d :: ds => (k, d) :: initL (k + 1) ds
theorem getS_initL : ∀ (ds : List DV) (k i : Nat), getS (initL k ds) (k + i) = match ds[i]? with
    | some d => d
    | none => .any
  | [], _, _ => rfl
  | d :: ds, k, 0 => by simp [initL, getS]
  | d :: ds, k, i + 1 => by
      have := getS_initL ds (k + 1) i
      simp only [initL, getS]
      rw [nbeq (by omega : k + (i + 1) ≠ k)]
      simp only
      rw [show k + (i + 1) = k + 1 + i by omega, this]
      simp
theorem initL_initS (ds : List DV) (i : Nat) : getS (initL 0 ds) i = initS ds i ∨ getS (initL 0 ds) i = .any := by
  have := getS_initL ds 0 i
  rw [Nat.zero_add] at this
  rw [this]
  unfold initS
  cases ds[i]? with
  | none => exact .inr rfl
  | some d => exact .inl rfl
theorem resC_D {P : Program} {T : Unit → Tab} (hT : TabOk P (T ())) {s : SL} {st : Store} : ∀ (rs : List ResultVar) (K : List DV → Prop), resC T A0 s st rs K → resD P (getS s) st rs K
  | [], _, h => h
  | .tmp t :: rs, K, h => resC_D hT rs _ h
  | .cell p ty :: rs, K, h => by
      unfold resC at h
      split at h
      · split at h
        · rename_i cs d hv
          rw [allP_iff] at h
          exact loadW_D hT hv h.1 (resC_D hT rs _ h.2)
        · exact h.elim
      · split at h
        · rename_i cs d hv
          rw [allP_iff] at h
          exact loadV_D hT hv h.1 (resC_D hT rs _ h.2)
        · exact h.elim
/-- A function, by the evaluation. -/
theorem FnD_cbv {P : Program} {T : Unit → Tab} (hT : TabOk P (T ())) {H : Unit → Kn} (hH : SoundK P (H ())) (hm : P.follows .mixedOrders = true) {f : FuncId} {fn : Func} {c : Code} {N : Nat} {args : List DV} {st : Store} {R : DV → Store → Prop}
    (hf : P.funcs[f]? = some fn) (hb : fn.body = some c) (hN : fn.ntmps = N) (ha : args.length ≤ N)
    (h : ∀ (A : Ar) (X : Cps) (W : DV → Store → Prop), A = A0 → X = X0 P N → W = RetW st.length R → wpC T A X H N c (retC T A fn.results.toList W) (initL 0 args) st) : FnD P f args st R := by
  refine FnD_intro hf hb hN ha ?_
  have h1 := wpC_ok hT hH hm c _ _ _ (h A0 (X0 P N) _ rfl rfl rfl)
  have h1 := lessQ_wpD (initL_initS args) h1
  intro E a hc hst hs
  refine wp_mono (h1 E a hc hst hs) ?_
  rintro e a' w' ⟨s', E', rfl, ⟨l, hl, hq⟩, k1, k2, k3⟩
  refine ⟨getS l, E', rfl, ?_, k1, k2, k3.less hl⟩
  cases e <;> first
    | exact resC_D hT _ _ hq
    | exact hq.elim
end Go.Proofs.Ytmjmbfcfnhnpmaa
