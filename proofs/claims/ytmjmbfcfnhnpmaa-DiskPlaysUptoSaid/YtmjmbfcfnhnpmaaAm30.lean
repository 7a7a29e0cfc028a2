/- The program logic, thirtieth part: loops, states told otherwise, results, calls with boxes, for the evaluation by 'cbv'. No condition: lemmas of any program. -/
import Derived.Test.YtmjmbfcfnhnpmaaAm27
namespace Go.Proofs.Ytmjmbfcfnhnpmaa
open Go.RowKit
set_option linter.all false
/-- The same state, told otherwise. -/
def Told (k : Nat) (s : SL) (st : Store) (s' : SL) (st' : Store) : Prop := Tells k (getS s) st (getS s') st'
theorem Told.trans {k : Nat} {s s' s2 : SL} {st st' st2 : Store} (h : Told k s st s' st') (g : Told k s' st' s2 st2) : Told k s st s2 st2 := Tells.trans h g
/-- Every slot that is listed holds what it held. -/
def toldP (f : DV → DV) (s : SL) : SL → Prop
  | [] => True
  | (i, d) :: l => (d = f (getS s i) ∨ d = .any) ∧ toldP f s l
theorem toldP_get {f : DV → DV} {s : SL} : ∀ {l : SL}, toldP f s l → ∀ i, getS l i = f (getS s i) ∨ getS l i = .any
  | [], _, i => .inr rfl
  | (j, d) :: l, h, i => by
      by_cases hi : i = j
      · subst hi
        simpa [getS] using h.1
      · have := toldP_get h.2 i
        simpa [getS, nbeq hi] using this
theorem told_less {k : Nat} {s s' : SL} {st : Store} (h : toldP id s s') : Told k s st s' st := Tells.any k _ _ st (toldP_get h)
theorem told_turn {k : Nat} {s s' : SL} {st st' : Store} {f : DV → DV} (ht : Turn k st st' fun d d' => d' = f d) (h : toldP f s s') : Told k s st s' st' := by
  refine Tells.trans (Tells.turn (s' := fun i => f (getS s i)) ht fun _ => rfl) ?_
  exact Tells.any k _ _ _ (toldP_get h)
def keepB (k : Nat) (κ : List Nat) (n : Nat) : Bool := decide κ.Nodup && κ.all (fun b => decide (b < n)) && decide (k ≤ κ.length) && (List.range k).all fun b => κ[b]? == some b
theorem turn_keep {k : Nat} {st : Store} (κ : List Nat) (h : keepB k κ st.length = true) : Turn k st (keepSt κ st) fun d d' => d' = pullD κ d := by
  simp only [keepB, Bool.and_eq_true, decide_eq_true_eq, List.all_eq_true, decide_eq_true_eq, decide_eq_true_eq, List.mem_range, beq_iff_eq] at h
  exact Turn.keep κ h.1.1.1 h.1.1.2 h.2 h.1.2
/-- Some boxes are let go. -/
theorem told_keep {k : Nat} {s s' : SL} {st st' : Store} (κ : List Nat) (h : keepB k κ st.length = true) (hst : st' = keepSt κ st) (hs : toldP (pullD κ) s s') : Told k s st s' st' := by
  subst hst
  exact told_turn (turn_keep κ h) hs
section
variable {P : Program} {T : Unit → Tab} (hT : TabOk P (T ())) {H : Unit → Kn} (hH : SoundK P (H ())) (hm : P.follows .mixedOrders = true) {N : Nat} {c : Code} {Q : Exit → SL → Store → Prop} {s : SL} {st : Store}
/-- A statement that waited. -/
theorem pauseC {s' : SL} {st' : Store} (ht : Told st.length s st s' st') (h : (X0 P N).st c Q s' st') : (X0 P N).st c Q s st := by
  have h' : wpD P N c (lessQ Q) (getS s') st' := h
  show wpD P N c (lessQ Q) (getS s) st
  exact wpD_tells ht h'
include hT hH hm in
theorem goC (h : wpC T A0 (X0 P N) H N c Q s st) : (X0 P N).st c Q s st := wpC_ok hT hH hm c Q s st h
include hT hH hm in
/-- A loop: in each round the state is of a kind; a measure falls. -/
theorem loopC {ι : Type} (Inv : ι → Prop) (S : ι → SL) (ST : ι → Store) (μ : ι → Nat) (x0 : ι) (h0 : Inv x0) (ht : Told st.length s st (S x0) (ST x0))
    (round : ∀ (A : Ar) (X : Cps) (R : SL → Store → Prop) (x : ι), A = A0 → X = X0 P N → (R = fun s' st' => ∃ y, Inv y ∧ μ y < μ x ∧ Told (ST x0).length s' st' (S y) (ST y)) → Inv x → wpC T A X H N c (thenC R Q) (S x) (ST x)) : (X0 P N).st (.loop c) Q s st := by
  show wpD P N (.loop c) (lessQ Q) (getS s) st
  refine wpD_tells ht ?_
  refine wpD_loop (fun n s1 st1 => ∃ x, Inv x ∧ μ x = n ∧ s1 = getS (S x) ∧ st1 = ST x) (μ x0) ⟨x0, h0, rfl, rfl, rfl⟩ ?_
  rintro n s1 st1 ⟨x, hx, rfl, rfl, rfl⟩
  have h := wpC_ok hT hH hm c _ _ _ (round A0 (X0 P N) _ x rfl rfl rfl hx)
  refine wpD_mono h ?_
  rintro e s' st' ⟨l, hl, hq⟩
  cases e <;> try exact ⟨l, hl, hq⟩
  obtain ⟨y, hy, hμ, htold⟩ := hq
  exact ⟨μ y, _, _, hμ, Tells.trans (Tells.any _ _ _ _ hl) htold, y, hy, rfl, rfl, rfl⟩
section
variable {A : Ar} {X : Cps}
theorem pauseL (hX : X = X0 P N) {s' : SL} {st' : Store} (ht : Told st.length s st s' st') (h : X.st c Q s' st') : X.st c Q s st := by
  subst hX; exact pauseC ht h
include hT hH hm in
theorem goL (hA : A = A0) (hX : X = X0 P N) (h : wpC T A X H N c Q s st) : X.st c Q s st := by
  subst hA; subst hX; exact goC hT hH hm h
include hT hH hm in
theorem loopL (hA : A = A0) (hX : X = X0 P N) {ι : Type} (Inv : ι → Prop) (S : ι → SL) (ST : ι → Store) (μ : ι → Nat) (x0 : ι) (h0 : Inv x0) (ht : Told st.length s st (S x0) (ST x0))
    (round : ∀ (R : SL → Store → Prop) (x : ι), (R = fun s' st' => ∃ y, Inv y ∧ μ y < μ x ∧ Told (ST x0).length s' st' (S y) (ST y)) → Inv x → wpC T A X H N c (thenC R Q) (S x) (ST x)) : X.st (.loop c) Q s st := by
  subst hA; subst hX
  exact loopC hT hH hm Inv S ST μ x0 h0 ht fun A X R x hA hX hR hx => by
    subst hA; subst hX; exact round R x hR hx
end
end
/-- A call, by the function's contract. -/
theorem callL {P : Program} {N : Nat} {X : Cps} (hX : X = X0 P N) {f : FuncId} {args : List DV} {st : Store} {K : DV → Store → Prop} (h : FnD P f args st K) : X.fn f args st K := by subst hX; exact h
theorem opL {P : Program} {N : Nat} {X : Cps} (hX : X = X0 P N) {o : Op} {s : SL} {st : Store} {K : DV → Store → Prop} (h : opD P o (getS s) st K) : X.op o s st K := by subst hX; exact h
/-- Settled elements appended to nothing. -/
theorem appendNilL {P : Program} {N : Nat} {X : Cps} (hX : X = X0 P N) {T : Tab} (hT : TabOk P T) {t sz e by8 : Nat} {x y : Operand} {s : SL} {st : Store} {K : DV → Store → Prop} {z : List DV} {xs : List (List PD)}
    (h1 : T.sl t = some (e, sz)) (h2 : T.zero e = some z) (h3 : T.by8 e = some by8) (h4 : z.length = sz) (h5 : 0 < sz) (hy : ev (getS s) y = .d (.sc (.slice none 0 0))) (hx : ev (getS s) x = .d (.slc sz xs)) (hl : xs.length ≤ 9007199254740992 ∧ xs.length * by8 ≤ 140737488355328)
    (k0 : xs = [] → K (.d (.sc (.slice none 0 0))) st) (k1 : ∀ (cs : List DV) (n : Nat), cs = rowsD xs → n = xs.length → xs ≠ [] → K (.view sz st.length 0 0 n) (st ++ [⟨e, cs, true, 0, true⟩])) :
    X.op (.call { callee := .builtin .append, args := { toList := [y, x] }, argTypes := { toList := [t, t] } }) s st K := by
  refine opL hX ?_
  obtain ⟨i, hi, rfl⟩ := hT.by8 _ _ h3
  have hs : srcD P st sz t (.d (.slc sz xs)) = some (rowsD xs, xs.length) := by simp [srcD, hT.sl _ _ h1]
  simp only [opD, callD, hy, hx, appendD, hT.sl _ _ h1, hT.zero _ _ h2, hi, hs]
  refine .inl ⟨h4, h5, .inr trivial, hl, fun h0 => k0 (List.eq_nil_of_length_eq_zero h0), fun h0 => k1 _ _ rfl rfl fun e => ?_⟩
  subst e
  simp at h0
/-- The result is settled and plain. -/
theorem ret_slice {r : DV} {st : Store} {sz b ver n : Nat} {xs : List (List PD)} {bx : Box} (hb : st[b]? = some bx) (hl : bx.live = true) (hv : ver = bx.ver) (hn : n = xs.length) (hcells : bx.cells = rowsD xs) (hsz : ∀ x ∈ xs, x.length = sz) (hr : r = .d (.slc sz xs)) :
    RetW 0 (fun x st => st = [] ∧ pureD x = true ∧ x = r) (.view sz b ver 0 n) st := by
  subst hv; subst hn; subst hr
  have h1 : TellsV 0 (.view sz b bx.ver 0 xs.length) st (.d (.slc sz xs)) (fzSt b sz xs st) := TellsV.turn (Turn.freeze b sz xs bx hb hl (Nat.zero_le _) hcells hsz) (by simp [fzD])
  obtain ⟨d', st', h2, h3⟩ := ret_v (r := .d (.slc sz xs)) (d := .d (.slc sz xs)) (st := fzSt b sz xs st) rfl rfl
  exact ⟨d', st', TellsV.trans h1 h2, h3⟩
/-- At the end some boxes are let go. -/
theorem ret_keep {k : Nat} {R : DV → Store → Prop} {d : DV} {st : Store} (κ : List Nat) (h : keepB k κ st.length = true) (hr : R (pullD κ d) (keepSt κ st)) : RetW k R d st :=
  ⟨_, _, TellsV.turn (turn_keep κ h) rfl, hr⟩
theorem pull_rows (κ : List Nat) (xs : List (List PD)) : (rowsD xs).map (pullD κ) = rowsD xs := by
  simp only [rowsD, List.map_map]
  rfl
theorem ret_nil {r : DV} {st : Store} {sz : Nat} (hr : r = .d (.slc sz [])) : RetW 0 (fun x st => st = [] ∧ pureD x = true ∧ x = r) (.d (.sc (.slice none 0 0))) st := by
  subst hr
  obtain ⟨d', st', h2, h3⟩ := ret_v (r := .d (.slc sz [])) (d := .d (.slc sz [])) (st := st) rfl rfl
  exact ⟨d', st', TellsV.trans (TellsV.nil 0 st sz) h2, h3⟩
/-- A contract used where other boxes stand, too. -/
theorem FnD.at {P : Program} {f : FuncId} {args args' : List DV} {R : DV → Store → Prop} {st sts : Store} {K : DV → Store → Prop} (h : FnD P f args' sts R) (ρ : List Nat) (hρ : (decide ρ.Nodup && ρ.all (fun r => decide (r < st.length)) && (sts.length == ρ.length) && closedL ρ.length args') = true)
    (hsts : ∀ (k r : Nat) (bx : Box), ρ[k]? = some r → sts[k]? = some bx → st[r]? = some (Box.ren (place ρ st.length) bx) ∧ closedL ρ.length bx.cells = true) (ha : args = renL (place ρ st.length) args')
    (hk : ∀ r0 stc, R r0 stc → ρ.length ≤ stc.length → K (renD (place ρ st.length) r0) (mergeL st ρ (stc.map (Box.ren (place ρ st.length))))) : FnD P f args st K := by
  simp only [Bool.and_eq_true, decide_eq_true_eq, List.all_eq_true, decide_eq_true_eq] at hρ
  subst ha
  refine (FnD.frame h ρ hρ.1.1.1 hρ.1.1.2 (eqb hρ.1.2) hsts hρ.2).mono ?_
  rintro r st' ⟨r0, stc, h1, h2, rfl, rfl⟩
  exact hk r0 stc h1 h2
/-- Nothing stands for a settled slice without elements. -/
def NilL : List DV → List DV → Prop
  | [], [] => True
  | a :: as, b :: bs => (a = b ∨ (a = .d (.sc (.slice none 0 0)) ∧ ∃ sz, b = .d (.slc sz []))) ∧ NilL as bs
  | _, _ => False
theorem NilL.reps {E : Env} : ∀ {as bs : List DV} {vs : List Value}, NilL as bs → Reps E as vs → Reps E bs vs
  | [], [], _, _, h => h
  | a :: as, b :: bs, [], _, h => h.elim
  | a :: as, b :: bs, v :: vs, h, hr => by
      refine ⟨?_, NilL.reps h.2 hr.2⟩
      rcases h.1 with rfl | ⟨rfl, sz, rfl⟩
      · exact hr.1
      · exact .inl ⟨rfl, hr.1⟩
  | [], _ :: _, _, h, _ => h.elim
  | _ :: _, [], _, h, _ => h.elim
theorem FnP.nils {P : Program} {f : FuncId} {args args' : List DV} {Q : DV → Prop} (h : FnP P f args' Q) (hn : NilL args args') : FnP P f args Q := fun E vs h1 h2 h3 => h E vs h1 h2 (hn.reps h3)
/-- A slice of one's own is settled as it is handed on. -/
theorem FnD.freeze {P : Program} {f : FuncId} {args : List DV} {st : Store} {K : DV → Store → Prop} (b sz : Nat) (xs : List (List PD)) (bx : Box) (hb : st[b]? = some bx) (hl : bx.live = true) (hcells : bx.cells = rowsD xs) (hsz : ∀ x ∈ xs, x.length = sz)
    (h : FnD P f (args.map (fzD b bx.ver sz xs)) (fzSt b sz xs st) K) : FnD P f args st K := by
  intro E vs hc hst hr
  obtain ⟨E', a1, a2, a3, a4, a5, _⟩ := freeze_env b sz xs bx hb hl hcells hsz E hc hst
  have hr' : Reps E' (args.map (fzD b bx.ver sz xs)) vs := by
    clear h
    induction args generalizing vs with
    | nil => cases vs <;> exact hr
    | cons a as ih =>
      cases vs with
      | nil => exact hr.elim
      | cons v vs => exact ⟨a4 a v hr.1, ih vs hr.2⟩
  rw [← a1]
  refine (h E' vs a3 a2 hr').mono ?_
  rintro e w' ⟨v, E2, r, k1, k2, k3, k4, k5, k6⟩
  exact ⟨v, E2, r, k1, k2, k3, k4, Ext.trans hc.len a3.len a5 k5, k6⟩
theorem bytesP_sz (bs : List UInt8) : ∀ x ∈ bytesP bs, x.length = 1 := by
  intro x hx
  simp only [bytesP, List.mem_map] at hx
  obtain ⟨_, _, rfl⟩ := hx
  rfl
end Go.Proofs.Ytmjmbfcfnhnpmaa
