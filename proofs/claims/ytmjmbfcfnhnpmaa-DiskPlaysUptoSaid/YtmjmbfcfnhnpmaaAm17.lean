/- The program logic, seventeenth part: guarded operations that may be reckoned in any case: no parting of ways. No condition: lemmas of any program. -/
import Derived.Test.YtmjmbfcfnhnpmaaAm16
namespace Go.Proofs.Ytmjmbfcfnhnpmaa
open Go.RowKit
set_option linter.all false
def yieldE (A X : DV → Prop) : Prop := ∃ d, A d ∧ X d
theorem yieldE_eq (v : DV) (X : DV → Prop) : yieldE (fun d => d = v) X ↔ X v := ⟨fun ⟨_, e, h⟩ => e ▸ h, fun h => ⟨v, rfl, h⟩⟩
theorem yieldE_and (c : Prop) (A X : DV → Prop) : yieldE (fun d => c ∧ A d) X ↔ c ∧ yieldE A X := ⟨fun ⟨d, ⟨h1, h2⟩, h3⟩ => ⟨h1, d, h2, h3⟩, fun ⟨h1, d, h2, h3⟩ => ⟨d, ⟨h1, h2⟩, h3⟩⟩
theorem pureK (d v : DV) (st w : Store) : (∀ K : DV → Store → Prop, K d st → K v w) ↔ d = v ∧ st = w :=
  ⟨fun h => h (fun x y => d = x ∧ st = y) ⟨rfl, rfl⟩, fun ⟨e, g⟩ _ h => e ▸ g ▸ h⟩
theorem pureKc (d : DV) (st : Store) (c : Prop) (X : (DV → Store → Prop) → Prop) : (∀ K : DV → Store → Prop, K d st → c ∧ X K) ↔ c ∧ ∀ K : DV → Store → Prop, K d st → X K :=
  ⟨fun h => ⟨(h (fun _ _ => True) trivial).1, fun K hK => (h K hK).2⟩, fun h _ hK => ⟨h.1, h.2 _ hK⟩⟩
theorem updW_is : ∃ f : (Nat → Bool) → Nat → Bool → Nat → Bool, ∀ s k v i, f s k v i = if i = k then v else s i := ⟨fun s k v i => if i = k then v else s i, fun _ _ _ _ => rfl⟩
noncomputable def updW : (Nat → Bool) → Nat → Bool → Nat → Bool := Classical.choose updW_is
theorem updW_eq (s : Nat → Bool) (k : Nat) (v : Bool) (i : Nat) : updW s k v i = if i = k then v else s i := Classical.choose_spec updW_is s k v i
noncomputable def putW (dst : Option Nat) (b : Bool) (wt : Nat → Bool) : Nat → Bool := match dst with
  | none => wt
  | some i => updW wt i b
/-- Operations that may be reckoned though they are not wanted. -/
def specOk (H : Known) : Op → Bool
  | .move _ => true
  | .assign _ => true
  | .pick .. => true
  | .load .. => true
  | .unOp .. => true
  | .convert .. => true
  | .field .. => true
  | .fieldAddr .. => true
  | .extract .. => true
  | .binOp op .. => match op with
    | .quo => false
    | .rem => false
    | .shl => false
    | .shr => false
    | _ => true
  | .call c => match c.callee with
    | .builtin .len => true
    | .value (.func f) => knowsH H f
    | _ => false
  | _ => false
def opnd (W : Bool) (wt : Nat → Bool) : Operand → Prop
  | .tmp t => W = true → wt t = true
  | _ => True
def wtOk (W : Bool) (wt : Nat → Bool) : List Operand → Prop
  | [] => True
  | x :: l => opnd W wt x ∧ wtOk W wt l
/-- What it looks at was reckoned, if it is wanted. -/
def readsOk (W : Bool) (wt : Nat → Bool) (sp : Slots) (o : Op) : Prop :=
  match o with
  | .pick c a b => opnd W wt c ∧ (match ev sp c with
    | .d (.sc (.bool t)) => opnd (W && t) wt a ∧ opnd (W && !t) wt b
    | _ => False)
  | o => wtOk W wt o.operands.toList
def Spec (s sp : Slots) (wt : Nat → Bool) : Prop := ∀ k, s k = if wt k = true then sp k else .d (.sc undef)
theorem opnd_ev {s sp : Slots} {wt : Nat → Bool} (hI : Spec s sp wt) {W : Bool} {x : Operand} (h : opnd W wt x) (hW : W = true) : ev s x = ev sp x := by
  cases x with
  | tmp t =>
    have := hI t
    rw [if_pos (h hW)] at this
    exact this
  | const v => rfl
  | global g => rfl
  | func f => rfl
theorem wtOk_ev {s sp : Slots} {wt : Nat → Bool} (hI : Spec s sp wt) {W : Bool} (hW : W = true) : ∀ {l : List Operand}, wtOk W wt l → ∀ x ∈ l, ev s x = ev sp x
  | [], _, _, hx => by cases hx
  | y :: l, h, x, hx => by
      rcases List.mem_cons.1 hx with rfl | hx
      · exact opnd_ev hI h.1 hW
      · exact wtOk_ev hI hW h.2 x hx
theorem pickD_turn {t : Bool} {a b a' b' : DV} {K : DV → Prop} (ha : t = true → a' = a) (hb : t = false → b' = b) (h : pickD (.d (.sc (.bool t))) a b K) : pickD (.d (.sc (.bool t))) a' b' K := by
  have two : (t = true → K a) ∧ (t = false → K b) := by
    unfold pickD at h
    simp only at h
    split at h
    · cases t
      · exact ⟨fun e => (by cases e), fun _ => h⟩
      · exact ⟨fun _ => h, fun e => (by cases e)⟩
    · exact h
  have two' : (t = true → K a') ∧ (t = false → K b') := ⟨fun e => by rw [ha e]; exact two.1 e, fun e => by rw [hb e]; exact two.2 e⟩
  unfold pickD
  simp only
  split
  · cases t
    · exact two'.2 rfl
    · exact two'.1 rfl
  · exact two'
theorem readsOk_D {P : Program} {s sp : Slots} {wt : Nat → Bool} (hI : Spec s sp wt) {W : Bool} (hW : W = true) {o : Op} (h : readsOk W wt sp o) {st : Store} {K : DV → Store → Prop} (ho : opD P o sp st K) : opD P o s st K := by
  unfold readsOk at h
  split at h
  · rename_i c a b
    obtain ⟨h1, h2⟩ := h
    split at h2
    · rename_i t ht
      simp only [opD] at ho ⊢
      rw [opnd_ev hI h1 hW, ht]
      rw [ht] at ho
      exact pickD_turn (fun e => opnd_ev hI h2.1 (by simp [hW, e])) (fun e => opnd_ev hI h2.2 (by simp [hW, e])) ho
    · exact h2.elim
  · rw [opD_congr (s' := sp)]
    · exact ho
    · intro x hx
      exact wtOk_ev hI hW h x (by simpa using hx)
theorem Spec.put {s sp : Slots} {wt : Nat → Bool} (h : Spec s sp wt) (dst : Option Nat) (d : DV) (W : Bool) : Spec (putS dst (if W = true then d else .d (.sc undef)) s) (putS dst d sp) (putW dst W wt) := by
  cases dst with
  | none => exact h
  | some i =>
    intro k
    simp only [putS, putW, upd_eq, updW_eq]
    by_cases hk : k = i
    · simp [hk]
    · simp only [hk, ↓reduceIte]
      exact h k
/-- A row of operations; 'sp': the slots as if all had been wanted. -/
def specG (P : Program) (H : Known) (N : Nat) (ops : Array Oper) : List Oper → Slots → Slots → (Nat → Bool) → Store → (Slots → Store → Prop) → Prop
  | [], s, _, _, st, Q => Q s st
  | o :: rest, s, sp, wt, st, Q => dstOk N o.dst ∧ match o.guard with
    | none => readsOk true wt sp o.op ∧ opE P H o.op sp st fun d st' => specG P H N ops rest (putS o.dst d s) (putS o.dst d sp) (putW o.dst true wt) st' Q
    | some (j, w) => match slotOf ops j with
      | none => False
      | some k => match sp k with
        | .d (.sc (.bool t)) => readsOk (wt k && (t == w)) wt sp o.op ∧ yieldE (fun d => ∀ K : DV → Store → Prop, K d st → opE P H o.op sp st K)
            fun d => specG P H N ops rest (putS o.dst (if (wt k && (t == w)) = true then d else .d (.sc (.tuple #[]))) s) (putS o.dst d sp) (putW o.dst (wt k && (t == w)) wt) st Q
        | _ => False
/-- Is it so reckoned? -/
def useSpec (H : Known) (ops : Array Oper) : Bool := (ops.toList.any fun o => o.guard.isSome) && ops.toList.all fun o => o.guard.isNone || specOk H o.op
end Go.Proofs.Ytmjmbfcfnhnpmaa
