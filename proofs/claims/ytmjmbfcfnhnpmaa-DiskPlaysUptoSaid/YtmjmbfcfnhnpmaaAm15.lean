/- The program logic, fifteenth part: the form in which bodies are evaluated. No condition: lemmas of any program. -/
import Derived.Test.YtmjmbfcfnhnpmaaAm14
namespace Go.Proofs.Ytmjmbfcfnhnpmaa
open Go.RowKit
set_option linter.all false
/-- Functions whose results are known: what a call of them with these gives. -/
abbrev Known := List (FuncId × (List DV → Option DV))
def findH : Known → FuncId → List DV → Option DV
  | [], _, _ => none
  | (g, h) :: H, f, args => if f = g then h args else findH H f args
def knowsH : Known → FuncId → Bool
  | [], _ => false
  | (g, _) :: H, f => if f = g then true else knowsH H f
def Sound (P : Program) (H : Known) : Prop := ∀ f args r, findH H f args = some r → FnV P f args r
def knownD (P : Program) (H : Known) (f : FuncId) (args : List DV) (st : Store) (K : DV → Store → Prop) : Prop :=
  match findH H f args with
  | some r => closedL 0 args = true ∧ K r st
  | none => FnD P f args st K
def callE (P : Program) (H : Known) (c : Call) (s : Slots) (st : Store) (K : DV → Store → Prop) : Prop :=
  match c.callee with
  | .value (.func f) => (hasBody P f = true ∧ knownD P H f (c.args.toList.map (ev s)) st K) ∨ ovlD P f (c.args.toList.map (ev s)) st K
  | _ => callD P c s st K
theorem callE_ok {P : Program} {H : Known} (hH : Sound P H) {c : Call} {s : Slots} {st : Store} {K : DV → Store → Prop} (h : callE P H c s st K) : callD P c s st K := by
  unfold callE at h
  split at h
  · rename_i f hf
    unfold callD
    rw [hf]
    rcases h with ⟨hb, h⟩ | h
    rotate_left
    · exact .inr h
    refine .inl ⟨hb, ?_⟩
    unfold knownD at h
    split at h
    · rename_i r hr
      exact FnV.use (hH f _ r hr) h.1 h.2
    · exact h
  · exact h
def opE (P : Program) (H : Known) (o : Op) (s : Slots) (st : Store) (K : DV → Store → Prop) : Prop :=
  match o with
  | .call c => callE P H c s st K
  | o => opD P o s st K
theorem opE_ok {P : Program} {H : Known} (hH : Sound P H) {o : Op} {s : Slots} {st : Store} {K : DV → Store → Prop} (h : opE P H o s st K) : opD P o s st K := by
  unfold opE at h
  split at h
  · exact callE_ok hH h
  · exact h
def runG (P : Program) (H : Known) (N : Nat) (o : Oper) (s : Slots) (st : Store) (K : Slots → Store → Prop) : Prop := dstOk N o.dst ∧ opE P H o.op s st fun d st' => K (putS o.dst d s) st'
def skipG (N : Nat) (o : Oper) (s : Slots) (st : Store) (K : Slots → Store → Prop) : Prop := dstOk N o.dst ∧ K (putS o.dst (.d (.sc (.tuple #[]))) s) st
/-- A step, the guard's flag told in each case. -/
def stepG (P : Program) (H : Known) (N : Nat) (ops : Array Oper) (o : Oper) (s : Slots) (st : Store) (K : Slots → Store → Prop) : Prop :=
  match o.guard with
  | none => runG P H N o s st K
  | some (j, w) => match slotOf ops j with
    | none => skipG N o s st K
    | some k => match s k with
      | .d (.sc (.bool t)) => if t = w then runG P H N o (upd s k (.d (.sc (.bool w)))) st K else skipG N o (upd s k (.d (.sc (.bool (!w))))) st K
      | .d (.sc (.tuple _)) => skipG N o s st K
      | _ => False
theorem upd_self {s : Slots} {k : Nat} {d : DV} (h : s k = d) : upd s k d = s := by
  funext i
  simp only [upd_eq]
  split
  · rename_i e; rw [e, h]
  · rfl
def opsG (P : Program) (H : Known) (N : Nat) (ops : Array Oper) : List Oper → Slots → Store → (Slots → Store → Prop) → Prop
  | [], s, st, Q => Q s st
  | o :: rest, s, st, Q => stepG P H N ops o s st fun s' st' => opsG P H N ops rest s' st' Q
end Go.Proofs.Ytmjmbfcfnhnpmaa
