/- The program logic, twenty-third part: bodies evaluated by 'cbv'. No condition: lemmas of any program. -/
import Derived.Test.YtadnpgkddgbhkaaZX9
namespace Go.Proofs.Ytadnpgkddgbhkaa
open Go.RowKit
set_option linter.all false
abbrev Kn := List (FuncId × (List DV → RV))
def findK : Kn → FuncId → List DV → RV
 | [], _, _ => none
 | (g, h) :: H, f, args => if f = g then h args else findK H f args
def knowsK : Kn → FuncId → Bool
 | [], _ => false
 | (g, _) :: H, f => if f = g then true else knowsK H f
def SoundK (P : Program) (H : Kn) : Prop := ∀ f args cs r, findK H f args = some (cs, r) → allP cs True → FnV P f args r ∧ closedL 0 args = true
theorem noK_ok {P : Program} : SoundK P [] := fun _ _ _ _ h => by cases h
theorem orK_ok {P : Program} {f0 : FuncId} {h : List DV → RV} {H : Kn} (hh : ∀ args cs r, h args = some (cs, r) → allP cs True → FnV P f0 args r ∧ closedL 0 args = true) (hH : SoundK P H) : SoundK P ((f0, h) :: H) := fun f args cs r e hc => by
 unfold findK at e
 split at e
 ·rename_i hf
  subst hf
  exact hh args cs r e hc
 ·exact hH f args cs r e hc
structure Cps where
 fn : FuncId → List DV → Store → (DV → Store → Prop) → Prop
 op : Op → SL → Store → (DV → Store → Prop) → Prop
 st : Code → (Exit → SL → Store → Prop) → SL → Store → Prop
 ex : FuncId → List DV → Store → (DV → Store → Prop) → Prop
def X0 (P : Program) (N : Nat) : Cps where
 fn := FnD P
 op o s st K := opD P o (getS s) st K
 st c Q s st := wpD P N c (fun e s' st' => ∃ l, (∀ k, getS l k = s' k ∨ getS l k = .any) ∧ Q e l st') (getS s) st
 ex f args st K := ovlD P f args st K
def viaV (T : Unit → Tab) (A : Ar) (X : Cps) (o : Op) (s : SL) (st : Store) (K : DV → Store → Prop) : Prop :=
 match opV T A o s st with
 | some (cs, d, st') => allP cs (K d st')
 | none => X.op o s st K
def callC (T : Unit → Tab) (X : Cps) (H : Unit → Kn) (f : FuncId) (args : List DV) (st : Store) (K : DV → Store → Prop) : Prop :=
 match (T ()).body f, findK (H ()) f args with
 | true, some (cs, r) => allP cs (K r st)
 | true, none => X.fn f args st K
 | false, _ => False
def callF (T : Unit → Tab) (X : Cps) (H : Unit → Kn) (f : FuncId) (args : List DV) (st : Store) (K : DV → Store → Prop) : Prop :=
 match (T ()).body f with
 | true => callC T X H f args st K
 | false => X.ex f args st K
def opC (T : Unit → Tab) (A : Ar) (X : Cps) (H : Unit → Kn) (o : Op) (s : SL) (st : Store) (K : DV → Store → Prop) : Prop :=
 match o with
 | .call c => match c.callee with
   | .value (.func f) => callF T X H f (c.args.toList.map (evL s)) st K
   | .value (.tmp t) => (match getS s t with
     | .fn f caps => callC T X H f (c.args.toList.map (evL s) ++ caps) st K
     | _ => False)
   | _ => viaV T A X o s st K
 | o => viaV T A X o s st K
theorem viaV_D {P : Program} {T : Unit → Tab} (hT : TabOk P (T ())) {N : Nat} {o : Op} {s : SL} {st : Store} {K : DV → Store → Prop} (h : viaV T A0 (X0 P N) o s st K) : opD P o (getS s) st K := by
 unfold viaV at h
 split at h
 ·rename_i cs d st' hv
  rw [allP_iff] at h
  exact opV_D hT hv h.1 h.2
 ·exact h
theorem callC_D {P : Program} {T : Unit → Tab} (hT : TabOk P (T ())) {H : Unit → Kn} (hH : SoundK P (H ())) {N : Nat} {f : FuncId} {args : List DV} {st : Store} {K : DV → Store → Prop} (h : callC T (X0 P N) H f args st K) : hasBody P f = true ∧ FnD P f args st K := by
 unfold callC at h
 split at h
 ·rename_i cs r hb hr
  refine ⟨hT.body _ hb, ?_⟩
  rw [allP_iff] at h
  obtain ⟨h1, h2⟩ := hH f _ cs r hr h.1
  exact FnV.use h1 h2 h.2
 ·rename_i hb hr
  exact ⟨hT.body _ hb, h⟩
 ·exact h.elim
theorem opC_D {P : Program} {T : Unit → Tab} (hT : TabOk P (T ())) {H : Unit → Kn} (hH : SoundK P (H ())) {N : Nat} {o : Op} {s : SL} {st : Store} {K : DV → Store → Prop} (h : opC T A0 (X0 P N) H o s st K) : opD P o (getS s) st K := by
 unfold opC at h
 split at h
 ·rename_i c
  split at h
  ·rename_i f hf
   simp only [opD, callD, hf]
   unfold callF at h
   split at h
   ·exact .inl (callC_D hT hH h)
   ·exact .inr h
  ·rename_i t hf
   simp only [opD, callD, hf]
   split at h
   ·rename_i f caps ht
    simp only [ht]
    exact callC_D hT hH h
   ·exact h.elim
  ·exact viaV_D hT h
 ·exact viaV_D hT h
def dstB (N : Nat) : Option Nat → Bool
 | none => true
 | some i => decide (i < N)
theorem dstB_ok {N : Nat} {dst : Option Nat} (h : dstB N dst = true) : dstOk N dst := by
 cases dst with
 | none => trivial
 | some i => show i < N; simpa [dstB] using h
def rowC (T : Unit → Tab) (A : Ar) (X : Cps) (H : Unit → Kn) (N : Nat) : List Oper → SL → Store → (SL → Store → Prop) → Prop
 | [], s, st, Q => Q s st
 | o :: rest, s, st, Q => match dstB N o.dst, o.guard with
   | true, none => opC T A X H o.op s st fun d st' => rowC T A X H N rest (putL o.dst d s) st' Q
   | _, _ => False
def againL (dst : Option Nat) (s' : Slots) (sp : SL) : SL := match dst with
 | none => sp
 | some i => setS sp i (s' i)
theorem againL_put (dst : Option Nat) (d : DV) (s : Slots) (sp : SL) : againL dst (putS dst d s) sp = putL dst d sp := by
 cases dst with
 | none => rfl
 | some i => simp [againL, putS, putL, upd_eq]
theorem rowC_ok {P : Program} {T : Unit → Tab} (hT : TabOk P (T ())) {H : Unit → Kn} (hH : SoundK P (H ())) {N : Nat} {ops : Array Oper} {Q : Exit → Act → World → Prop} : ∀ (l : List Oper) (s : SL) (E : Env) (a : Act) (K : SL → Store → Prop), Conc E → SlotsOk E N (getS s) a → rowC T A0 (X0 P N) H N l s E.st K →
  (∀ (s' : SL) (a' : Act) (E' : Env), K s' E'.st → Conc E' → Ext E E' → SlotsOk E' N (getS s') a' → Q .normal a' E'.w) → wpList P ops Q l a E.w
 | [], s, E, a, K, hc, hs, h, hn => hn s a E h hc (Ext.refl E) hs
 | o :: rest, s, E, a, K, hc, hs, h, hn => by
     unfold rowC at h
     split at h
     ·rename_i hd hg
      have h1 := opC_D hT hH h
      have e : (fun d st' => rowC T A0 (X0 P N) H N rest (putL o.dst d s) st' K) = fun d st' => rowC T A0 (X0 P N) H N rest (againL o.dst (putS o.dst d (getS s)) s) st' K ∧ getS (againL o.dst (putS o.dst d (getS s)) s) = putS o.dst d (getS s) := by
       funext d st'
       rw [againL_put, getS_putL]
       simp
      rw [e] at h1
      have hst : stepD P N ops o (getS s) E.st fun s' st' => rowC T A0 (X0 P N) H N rest (againL o.dst s' s) st' K ∧ getS (againL o.dst s' s) = s' := by
       unfold stepD
       have : wantedD ops o.guard (getS s) = some true := by rw [hg]; rfl
       simp only [this]
       exact ⟨dstB_ok hd, h1⟩
      have := step_ok (P := P) (Q := Q) (ops := ops) (next := wpList P ops Q rest) hc hs o hst fun s' a' E' hk h1 hx h3 => by
       rw [← hk.2] at h3
       exact rowC_ok hT hH rest _ E' a' K h1 h3 hk.1 fun s2 a2 E2 k1 k2 k3 k4 => hn s2 a2 E2 k1 k2 (Ext.trans hc.len h1.len hx k3) k4
      unfold wpList
      exact this
     ·exact h.elim
end Go.Proofs.Ytadnpgkddgbhkaa
