/- The program logic, fifteenth part: the form in which bodies are evaluated. No condition: lemmas of any program. -/
import Derived.Test.YtmjmbfcfnhnpmaaAm14
namespace Go.Proofs.Ytmjmbfcfnhnpmaa
open Go.RowKit
set_option linter.all false

/-- Functions whose results are known: what a call of them with these gives. -/
abbrev Known := List (FuncId × (List DV → Option DV))
def findH : Known → FuncId → List DV → Option DV
  | [], _, _ => none
  | (g, h) :: H, f, args => if f = g then h args else findH H f args
def knowsH : Known → FuncId → Bool
  | [], _ => false
  | (g, _) :: H, f => if f = g then true else knowsH H f
def Sound (P : Program) (H : Known) : Prop := ∀ f args r, findH H f args = some r → FnV P f args r
def knownD (P : Program) (H : Known) (f : FuncId) (args : List DV) (st : Store) (K : DV → Store → Prop) : Prop :=
  match findH H f args with
  | some r => closedL 0 args = true ∧ K r st
  | none => FnD P f args st K
def callE (P : Program) (H : Known) (c : Call) (s : Slots) (st : Store) (K : DV → Store → Prop) : Prop :=
  match c.callee with
  | .value (.func f) => (hasBody P f = true ∧ knownD P H f (c.args.toList.map (ev s)) st K) ∨ ovlD P f (c.args.toList.map (ev s)) st K
  | _ => callD P c s st K
theorem callE_ok {P : Program} {H : Known} (hH : Sound P H) {c : Call} {s : Slots} {st : Store} {K : DV → Store → Prop} (h : callE P H c s st K) : callD P c s st K := by
  unfold callE at h
  split at h
  · rename_i f hf
    unfold callD
    rw [hf]
    rcases h with ⟨hb, h⟩ | h
    rotate_left
    · exact .inr h
    refine .inl ⟨hb, ?_⟩
    unfold knownD at h
    split at h
    · rename_i r hr
      exact FnV.use (hH f _ r hr) h.1 h.2
    · exact h
  · exact h
def opE (P : Program) (H : Known) (o : Op) (s : Slots) (st : Store) (K : DV → Store → Prop) : Prop :=
  match o with
  | .call c => callE P H c s st K
  | o => opD P o s st K
theorem opE_ok {P : Program} {H : Known} (hH : Sound P H) {o : Op} {s : Slots} {st : Store} {K : DV → Store → Prop} (h : opE P H o s st K) : opD P o s st K := by
  unfold opE at h
  split at h
  · exact callE_ok hH h
  · exact h
def runG (P : Program) (H : Known) (N : Nat) (o : Oper) (s : Slots) (st : Store) (K : Slots → Store → Prop) : Prop := dstOk N o.dst ∧ opE P H o.op s st fun d st' => K (putS o.dst d s) st'
def skipG (N : Nat) (o : Oper) (s : Slots) (st : Store) (K : Slots → Store → Prop) : Prop := dstOk N o.dst ∧ K (putS o.dst (.d (.sc (.tuple #[]))) s) st
/-- A step, the guard's flag told in each case. -/
def stepG (P : Program) (H : Known) (N : Nat) (ops : Array Oper) (o : Oper) (s : Slots) (st : Store) (K : Slots → Store → Prop) : Prop :=
  match o.guard with
  | none => runG P H N o s st K
  | some (j, w) => match slotOf ops j with
    | none => skipG N o s st K
    | some k => match s k with
      | .d (.sc (.bool t)) => if t = w then runG P H N o (upd s k (.d (.sc (.bool w)))) st K else skipG N o (upd s k (.d (.sc (.bool (!w))))) st K
      | .d (.sc (.tuple _)) => skipG N o s st K
      | _ => False
theorem upd_self {s : Slots} {k : Nat} {d : DV} (h : s k = d) : upd s k d = s := by
  funext i
  simp only [upd_eq]
  split
  · rename_i e; rw [e, h]
  · rfl
theorem runG_D {P : Program} {H : Known} (hH : Sound P H) {N : Nat} {o : Oper} {s : Slots} {st : Store} {K : Slots → Store → Prop} (h : runG P H N o s st K) : dstOk N o.dst ∧ opD P o.op s st fun d st' => K (putS o.dst d s) st' := ⟨h.1, opE_ok hH h.2⟩
theorem stepG_D {P : Program} {H : Known} (hH : Sound P H) {N : Nat} {ops : Array Oper} {o : Oper} {s : Slots} {st : Store} {K : Slots → Store → Prop} (h : stepG P H N ops o s st K) : stepD P N ops o s st K := by
  unfold stepG at h
  unfold stepD wantedD
  split at h
  · rename_i hg
    simp only [hg]
    exact runG_D hH h
  · rename_i j w hg
    simp only [hg]
    split at h
    · rename_i hk
      simp only [hk]
      exact h
    · rename_i k hk
      simp only [hk]
      split at h
      · rename_i t ht
        simp only [ht]
        by_cases hw : t = w
        · subst hw
          have := h
          rw [if_pos rfl] at this
          rw [upd_self ht] at this
          simp only [BEq.rfl]
          exact runG_D hH this
        · have hw' : t = !w := by cases t <;> cases w <;> first | rfl | exact absurd rfl hw
          have h2 := h
          rw [if_neg hw] at h2
          rw [← hw', upd_self ht] at h2
          have : (t == w) = false := by simpa using hw
          rw [this]
          exact h2
      · rename_i vs ht
        simp only [ht]
        exact h
      · exact h.elim
def opsG (P : Program) (H : Known) (N : Nat) (ops : Array Oper) : List Oper → Slots → Store → (Slots → Store → Prop) → Prop
  | [], s, st, Q => Q s st
  | o :: rest, s, st, Q => stepG P H N ops o s st fun s' st' => opsG P H N ops rest s' st' Q
theorem opsG_ok {P : Program} {H : Known} (hH : Sound P H) {N : Nat} {ops : Array Oper} {Q : Exit → Act → World → Prop} : ∀ (l : List Oper) (s : Slots) (E : Env) (a : Act) (K : Slots → Store → Prop), Conc E → SlotsOk E N s a → opsG P H N ops l s E.st K →
    (∀ (s' : Slots) (a' : Act) (E' : Env), K s' E'.st → Conc E' → Ext E E' → SlotsOk E' N s' a' → Q .normal a' E'.w) → wpList P ops Q l a E.w
  | [], s, E, a, K, hc, hs, h, hn => hn s a E h hc (Ext.refl E) hs
  | o :: rest, s, E, a, K, hc, hs, h, hn => by
      have := step_ok (P := P) (Q := Q) (ops := ops) (next := wpList P ops Q rest) hc hs o (stepG_D hH h) fun s' a' E' hk h1 h2 h3 =>
        opsG_ok hH rest s' E' a' K h1 h3 hk fun s2 a2 E2 k1 k2 k3 k4 => hn s2 a2 E2 k1 k2 (Ext.trans hc.len h1.len h2 k3) k4
      unfold wpList
      exact this
theorem wpD_regionG {P : Program} {H : Known} (hH : Sound P H) {N : Nat} {Q : Exit → Slots → Store → Prop} {s : Slots} {st : Store} {id : Nat} {l : List Oper} (h : opsG P H N l.toArray l s st fun s' st' => Q .normal s' st') : wpD P N (.region id l.toArray false) Q s st := by
  intro E a hc hst hs
  subst hst
  exact wp_region_lit (opsG_ok hH l s E a _ hc hs h fun s' a' E' hk h1 h2 h3 => ⟨s', E', rfl, hk, h1, h2, h3⟩)
end Go.Proofs.Ytmjmbfcfnhnpmaa
