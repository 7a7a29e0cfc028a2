/- The program logic, fourteenth part: a function's body and its contract; calls with plain data, calls with one box or two. No condition: lemmas of any program. -/
import Derived.Test.YtmjmbfcfnhnpmaaAm13
namespace Go.Proofs.Ytmjmbfcfnhnpmaa
open Go.RowKit
set_option linter.all false
def initS (args : List DV) : Slots := fun i => match args[i]? with
  | some d => d
  | none => .d (.sc undef)
/-- The results. -/
def resD (P : Program) (s : Slots) (st : Store) : List ResultVar → (List DV → Prop) → Prop
  | [], K => K []
  | .tmp t :: rs, K => resD P s st rs fun ds => K (s t :: ds)
  | .cell p ty :: rs, K => loadD P st ty (s p) fun d => resD P s st rs fun ds => K (d :: ds)
def oneD : List DV → DV
  | [d] => d
  | ds => .tup ds
/-- The contract holds of what is left, told this way or another. -/
def RetW (k : Nat) (R : DV → Store → Prop) (d : DV) (st : Store) : Prop := ∃ d' st', TellsV k d st d' st' ∧ R d' st'
theorem RetW.refl {k : Nat} {R : DV → Store → Prop} {d : DV} {st : Store} (h : R d st) : RetW k R d st := ⟨d, st, TellsV.refl k d st, h⟩
def retQ (P : Program) (rs : List ResultVar) (k : Nat) (R : DV → Store → Prop) : Exit → Slots → Store → Prop
  | .ret, s, st => resD P s st rs fun ds => RetW k R (oneD ds) st
  | .normal, s, st => resD P s st rs fun ds => RetW k R (oneD ds) st
  | _, _, _ => False
def resF (tmps : Array Value) : ResultVar → Sem Value
  | .tmp t => pure (tmps.getD t undef)
  | .cell p t => do loadVar t (← asAddr (tmps.getD p undef))
theorem res_ok {P : Program} {E : Env} {N : Nat} {s : Slots} {a : Act} (hc : Conc E) (hs : SlotsOk E N s a) : ∀ (rs : List ResultVar) (K : List DV → Prop), resD P s E.st rs K →
    ∃ (vs : List Value) (ds : List DV), (rs.mapM (resF a.tmps)).run P E.w = Result.ok vs E.w ∧ Reps E ds vs ∧ K ds
  | [], K, h => ⟨[], [], by simp, trivial, h⟩
  | .tmp t :: rs, K, h => by
      obtain ⟨vs, ds, h1, h2, h3⟩ := res_ok hc hs rs _ h
      exact ⟨a.tmps.getD t undef :: vs, s t :: ds, by simp only [List.mapM_cons, resF, Sem.run_bind, Sem.run_pure, Result.andThen_ok, h1], ⟨hs.rep t, h2⟩, h3⟩
  | .cell p ty :: rs, K, h => by
      obtain ⟨u, d, h0, h1, h2⟩ := load_ok hc (hs.rep p) h
      obtain ⟨vs, ds, h3, h4, h5⟩ := res_ok hc hs rs _ h1
      refine ⟨u :: vs, d :: ds, ?_, ⟨h2, h4⟩, h5⟩
      generalize hp : a.tmps.getD p undef = q at h0
      have key : (do loadVar ty (← asAddr q) : Sem Value).run P E.w = .ok u E.w := by
        unfold Instr.loadAt Instr.sureAddr at h0
        cases q <;> try (simp at h0; done)
        rename_i o
        cases o
        · simp at h0
        · simpa [asAddr] using h0
      rw [← hp] at key
      simp only [List.mapM_cons, resF, Sem.run_bind] at key ⊢
      rw [key]
      simp only [Result.andThen_ok, h3, Sem.run_pure]
theorem FnD_intro {P : Program} {f : FuncId} {fn : Func} {c : Code} {N : Nat} {args : List DV} {st : Store} {R : DV → Store → Prop} (hf : P.funcs[f]? = some fn) (hb : fn.body = some c) (hN : fn.ntmps = N) (ha : args.length ≤ N)
    (h : wpD P N c (retQ P fn.results.toList st.length R) (initS args) st) : FnD P f args st R := by
  intro E vs hc hst hr
  subst hst
  have hlen := hr.length
  have hs : SlotsOk E N (initS args) { tmps := vs.toArray ++ Array.replicate (fn.ntmps - vs.toArray.size) undef, defers := [] } := by
    refine ⟨by simp; omega, fun i => ?_, rfl⟩
    simp only [initS]
    rw [Array.getD_eq_getD_getElem?]
    by_cases hi : i < vs.length
    · rw [Array.getElem?_append_left (by simpa using hi), List.getElem?_toArray]
      rw [List.getElem?_eq_getElem (show i < args.length by omega)]
      obtain ⟨v, e1, e2⟩ := hr.get _ _ i _ (List.getElem?_eq_getElem (show i < args.length by omega))
      rw [e1]
      exact e2
    · rw [List.getElem?_eq_none (show args.length ≤ i by omega)]
      rw [Array.getElem?_append_right (by simp; omega)]
      show _ = undef
      rw [Array.getElem?_replicate]
      split <;> rfl
  refine calls_of_wp hf hb (wp_mono (h E _ hc rfl hs) ?_)
  rintro e a' w' ⟨s', E', rfl, hq, h1, h2, h3⟩
  have fin : resD P s' E'.st fn.results.toList (fun ds => RetW E.st.length R (oneD ds) E'.st) → a'.defers = [] ∧ ∃ v, (results fn a'.tmps).run P E'.w = .ok v E'.w ∧ ∃ (v' : Value) (E2 : Env) (r : DV), Ending.returned v = .returned v' ∧ E2.w = E'.w ∧ R r E2.st ∧ Conc E2 ∧ Ext E E2 ∧ Rep E2 r v' := by
    intro hq
    obtain ⟨us, ds, k1, k2, d', st', k3, k4⟩ := res_ok h1 h3 _ _ hq
    have hrep : Rep E' (oneD ds) (if h : us.toArray.size = 1 then us.toArray[0] else .tuple us.toArray) := by
      match ds, us, k2 with
      | [], [], _ => exact ⟨[], rfl, trivial⟩
      | [d], [u], ⟨q1, _⟩ => exact q1
      | d :: d2 :: ds, u :: u2 :: us, q => exact ⟨u :: u2 :: us, by simp, q⟩
    obtain ⟨E2, m1, m2, m3, m4, m5⟩ := k3 E' _ h1 rfl hrep
    refine ⟨h3.defers, _, ?_, _, E2, d', rfl, m1, by rw [m2]; exact k4, m3, m5 E hc.len (Nat.le_refl _) h2, m4⟩
    have hfun : (results fn a'.tmps) = (do let vs ← fn.results.mapM (resF a'.tmps); pure (if h : vs.size = 1 then vs[0] else .tuple vs)) := by
      unfold results
      congr 2
    rw [hfun, Array.mapM_eq_mapM_toList]
    simp only [Sem.run_bind, Sem.run_map, k1, Result.andThen_ok, Sem.run_pure]
  cases e <;> first
    | exact hq.elim
    | exact fin hq
/-- Plain: no box is spoken of. -/
def pureD (d : DV) : Bool := closedD 0 d
mutual
theorem renD_pure (φ : Nat → Nat) : ∀ d : DV, closedD 0 d = true → renD φ d = d
  | .any, _ => rfl
  | .d _, _ => rfl
  | .agg cs, h => by simp only [renD, renL_pure φ cs h]
  | .tup cs, h => by simp only [renD, renL_pure φ cs h]
  | .fn _ cs, h => by simp only [renD, renL_pure φ cs h]
  | .ref _ _ _, h => by simp [closedD] at h
  | .cref _, _ => rfl
  | .view _ _ _ _ _, h => by simp [closedD] at h
theorem renL_pure (φ : Nat → Nat) : ∀ ds : List DV, closedL 0 ds = true → renL φ ds = ds
  | [], _ => rfl
  | d :: ds, h => by
      simp only [closedL, Bool.and_eq_true] at h
      simp only [renL, renD_pure φ d h.1, renL_pure φ ds h.2]
end
mutual
theorem closedD_mono {n m : Nat} (hm : n ≤ m) : ∀ d : DV, closedD n d = true → closedD m d = true
  | .any, _ => rfl
  | .d _, _ => rfl
  | .agg cs, h => closedL_mono hm cs h
  | .tup cs, h => closedL_mono hm cs h
  | .fn _ cs, h => closedL_mono hm cs h
  | .ref b _ _, h => by simp only [closedD, decide_eq_true_eq] at h ⊢; omega
  | .cref _, _ => rfl
  | .view _ b _ _ _, h => by simp only [closedD, decide_eq_true_eq] at h ⊢; omega
theorem closedL_mono {n m : Nat} (hm : n ≤ m) : ∀ ds : List DV, closedL n ds = true → closedL m ds = true
  | [], _ => rfl
  | d :: ds, h => by
      simp only [closedL, Bool.and_eq_true] at h ⊢
      exact ⟨closedD_mono hm d h.1, closedL_mono hm ds h.2⟩
end
theorem closedL_data (n : Nat) (ps : List PD) : closedL n (ps.map .d) = true := by
  induction ps with
  | nil => rfl
  | cons p ps ih => simp only [List.map_cons, closedL, closedD, ih, Bool.and_self]
/-- A contract over plain data: called with plain data it gives plain data that meet Q, whatever boxes there are. -/
def FnP (P : Program) (f : FuncId) (args : List DV) (Q : DV → Prop) : Prop := FnD P f args [] fun r st => st = [] ∧ pureD r = true ∧ Q r
theorem FnP.use {P : Program} {f : FuncId} {args : List DV} {Q : DV → Prop} (h : FnP P f args Q) {st : Store} (ha : closedL 0 args = true) {K : DV → Store → Prop} (hk : ∀ r, Q r → pureD r = true → K r st) : FnD P f args st K := by
  have := FnD.frame (st := st) h [] List.nodup_nil (by simp) rfl (by simp) ha
  rw [renL_pure _ args ha] at this
  refine this.mono ?_
  rintro r st' ⟨r0, stc, ⟨rfl, hp, hq⟩, _, rfl, rfl⟩
  rw [renD_pure _ r0 hp]
  have hm : mergeL st [] (([] : Store).map (Box.ren (place [] st.length))) = st := by
    apply List.ext_getElem?
    intro i
    simp [mergeL]
  rw [hm]
  exact hk r0 hq hp
theorem FnP.mono {P : Program} {f : FuncId} {args : List DV} {Q Q' : DV → Prop} (h : FnP P f args Q) (hq : ∀ r, Q r → Q' r) : FnP P f args Q' := FnD.mono h fun _ _ ⟨a, b, c⟩ => ⟨a, b, hq _ c⟩
/-- Its result is this. -/
abbrev FnV (P : Program) (f : FuncId) (args : List DV) (r : DV) : Prop := FnP P f args fun d => d = r
theorem FnV.use {P : Program} {f : FuncId} {args : List DV} {r : DV} (h : FnV P f args r) {st : Store} (ha : closedL 0 args = true) {K : DV → Store → Prop} (hk : K r st) : FnD P f args st K :=
  FnP.use h ha fun _ e _ => by subst e; exact hk
/-- At the end of a function over plain data: all its boxes are let go. -/
theorem RetW.drop {Q : DV → Prop} {d : DV} {st : Store} (hp : pureD d = true) (h : Q d) : RetW 0 (fun r st => st = [] ∧ pureD r = true ∧ Q r) d st := by
  refine ⟨d, [], ?_, rfl, hp, h⟩
  have := TellsV.turn (k := 0) (st := st) (d := d) (d' := pullD [] d) (Turn.keep [] List.nodup_nil (by simp) (fun b hb => by omega) (Nat.le_refl _)) rfl
  have e : pullD [] d = d := pullD_pure [] d hp
  rw [e] at this
  exact this
where
  pullD_pure (κ : List Nat) : ∀ d : DV, closedD 0 d = true → pullD κ d = d := by
    intro d
    refine DV.rec (motive_1 := fun d => closedD 0 d = true → pullD κ d = d) (motive_2 := fun ds => closedL 0 ds = true → pullL κ ds = ds) ?_ ?_ ?_ ?_ ?_ ?_ ?_ ?_ ?_ ?_ d
    · intro _; rfl
    · intro _ _; rfl
    · intro cs ih h; simp only [pullD, ih h]
    · intro cs ih h; simp only [pullD, ih h]
    · intro b v o h; simp [closedD] at h
    · intro _ _; rfl
    · intro a b c d e h; simp [closedD] at h
    · intro f cs ih h; simp only [pullD, ih h]
    · intro _; rfl
    · intro d ds h1 h2 h
      simp only [closedL, Bool.and_eq_true] at h
      simp only [pullL, h1 h.1, h2 h.2]
end Go.Proofs.Ytmjmbfcfnhnpmaa
