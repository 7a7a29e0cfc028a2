/- The program logic, sixteenth part: regions in any order in which some operations turn the store: those stand in a row; the others yield the same ahead of each and behind it. No condition: lemmas of any program. -/
import Derived.Test.YtmjmbfcfnhnpmaaAm15
namespace Go.Proofs.Ytmjmbfcfnhnpmaa
open Go.RowKit
set_option linter.all false
/-- Operations that turn the store. -/
def turns : Op → Bool
  | .store .. => true
  | .alloc _ => true
  | .box .. => true
  | .buildSlice .. => true
  | .makeSlice .. => true
  | .call c => match c.callee with
    | .builtin .append => true
    | .builtin .copy => true
    | .builtin .clear => true
    | _ => false
  | _ => false
/-- They stand in a row. -/
def turnsB (ops : Array Oper) : Bool := (List.range ops.size).all fun j => (List.range j).all fun i => match ops[i]?, ops[j]? with
  | some a, some b => !(turns a.op && turns b.op) || b.after.any fun e => Region.binds .any e && e.on == i
  | _, _ => true
theorem turnsB_spec {ops : Array Oper} (h : turnsB ops = true) {i j : Nat} {a b : Oper} (hi : ops[i]? = some a) (hj : ops[j]? = some b) (hij : i < j) (ha : turns a.op = true) (hb : turns b.op = true) : ∃ e ∈ b.after, Region.binds .any e = true ∧ e.on = i := by
  unfold turnsB at h
  rw [List.all_eq_true] at h
  have hjs : j < ops.size := by
    rcases Nat.lt_or_ge j ops.size with h' | h'
    · exact h'
    · rw [Array.getElem?_eq_none h'] at hj; cases hj
  have h1 := h j (by simpa using hjs)
  rw [List.all_eq_true] at h1
  have h2 := h1 i (by simpa using hij)
  rw [hi, hj] at h2
  simp only [ha, hb, Bool.and_self, Bool.not_true, Bool.false_or, Array.any_eq_true, Bool.and_eq_true, beq_iff_eq] at h2
  obtain ⟨q, hq, h3, h4⟩ := h2
  exact ⟨_, Array.getElem_mem hq, h3, h4⟩
/-- In these slots, with these boxes, the operation yields this and leaves these boxes. -/
def Stp (P : Program) (ops : Array Oper) (o : Oper) (s : Slots) (st : Store) (d : DV) (st' : Store) : Prop :=
  (wantedD ops o.guard s = some true ∧ ∀ K : DV → Store → Prop, K d st' → opD P o.op s st K) ∨ (wantedD ops o.guard s = some false ∧ d = .d (.sc undef) ∧ st' = st)
theorem Stp.put {P : Program} {ops : Array Oper} {o : Oper} {s : Slots} {st st' : Store} {d e : DV} {dst : Option Nat} (hap : ∀ t, dst = some t → t ∉ o.looksAt ops) : Stp P ops o (putS dst e s) st d st' ↔ Stp P ops o s st d st' := by
  unfold Stp
  rw [wantedD_put hap]
  have : ∀ K, opD P o.op (putS dst e s) st K = opD P o.op s st K := fun K => opD_congr fun x hx => ev_put fun t ht hxt => by
    subst hxt
    exact hap t ht (mem_looks hx)
  simp only [this]
/-- A step at place k of the row of stores. -/
def StepS (P : Program) (ops : Array Oper) (sts : Nat → Store) (m : Nat) (o : Oper) (s : Slots) (k : Nat) (d : DV) (k' : Nat) : Prop :=
  if turns o.op = true then Stp P ops o s (sts k) d (sts k') ∧ k' = k + 1 ∧ k < m else (∀ q, q ≤ m → Stp P ops o s (sts q) d (sts q)) ∧ k' = k
theorem StepS.put {P : Program} {ops : Array Oper} {sts : Nat → Store} {m : Nat} {o : Oper} {s : Slots} {k k' : Nat} {d e : DV} {dst : Option Nat} (hap : ∀ t, dst = some t → t ∉ o.looksAt ops) : StepS P ops sts m o (putS dst e s) k d k' ↔ StepS P ops sts m o s k d k' := by
  unfold StepS
  simp only [Stp.put hap]
def anyS (P : Program) (N : Nat) (ops : Array Oper) (sts : Nat → Store) (m : Nat) (Q : Slots → Prop) : Nat → Array Bool → Slots → Nat → Prop
  | 0, listed, s, k => Region.ready .any ops listed = [] ∧ k = m ∧ Q s
  | fuel + 1, listed, s, k => (Region.ready .any ops listed = [] → k = m ∧ Q s) ∧
      ∀ i ∈ Region.ready .any ops listed, ∀ o, ops[i]? = some o → ∃ d k', StepS P ops sts m o s k d k' ∧ dstOk N o.dst ∧ anyS P N ops sts m Q fuel (listed.setIfInBounds i true) (putS o.dst d s) k'
theorem anyD_of_S {P : Program} {N : Nat} {ops : Array Oper} {sts : Nat → Store} {m : Nat} {Q : Slots → Store → Prop} : ∀ (fuel : Nat) (listed : Array Bool) (s : Slots) (k : Nat), k ≤ m → anyS P N ops sts m (fun s => Q s (sts m)) fuel listed s k → anyD P N ops Q fuel listed s (sts k)
  | 0, _, _, k, _, ⟨h1, h2, h3⟩ => ⟨h1, by subst h2; exact h3⟩
  | fuel + 1, listed, s, k, hm, h => by
      refine ⟨fun h0 => by obtain ⟨h2, h3⟩ := h.1 h0; subst h2; exact h3, fun i hi => ?_⟩
      obtain ⟨o, ho⟩ := ready_some hi
      obtain ⟨d, k', hs, hd, hK⟩ := h.2 i hi o ho
      rw [ho]
      have key : k' ≤ m ∧ Stp P ops o s (sts k) d (sts k') := by
        unfold StepS at hs
        split at hs
        · exact ⟨by omega, hs.1⟩
        · obtain ⟨h1, rfl⟩ := hs
          exact ⟨hm, h1 _ hm⟩
      have ih := anyD_of_S fuel _ _ k' key.1 hK
      rcases key.2 with ⟨hw, hy⟩ | ⟨hw, rfl, hst⟩
      · simp only [stepD, hw]
        exact ⟨hd, hy _ ih⟩
      · simp only [stepD, hw]
        rw [hst] at ih
        exact ⟨hd, ih⟩
theorem anyS_first {P : Program} {N : Nat} {ops : Array Oper} {sts : Nat → Store} {m : Nat} {Q : Slots → Prop} (hT : turnsB ops = true) {i : Nat} {oi : Oper} {d : DV} (hi : ops[i]? = some oi) : ∀ (fuel : Nat) (listed : Array Bool) (s : Slots) (k k' : Nat),
    (∀ j oj, ops[j]? = some oj → j ≠ i → listed.getD j true = false → (∀ e ∈ oj.after, Region.binds .any e = true → e.on ≠ i) → oi.apart ops oj = true) →
    i ∈ Region.ready .any ops listed → StepS P ops sts m oi s k d k' → dstOk N oi.dst → anyS P N ops sts m Q fuel (listed.setIfInBounds i true) (putS oi.dst d s) k' → anyS P N ops sts m Q (fuel + 1) listed s k := by
  intro fuel
  induction fuel with
  | zero =>
    intro listed s k k' _ hr hy hd H
    refine ⟨fun h => (by rw [h] at hr; cases hr), fun j hj oj hoj => ?_⟩
    by_cases hji : j = i
    · subst hji
      rw [hi] at hoj; cases hoj
      exact ⟨d, k', hy, hd, H⟩
    · have := ready_mono hj hji
      rw [H.1] at this
      cases this
  | succ fuel ih =>
    intro listed s k k' hfree hr hy hd H
    refine ⟨fun h => (by rw [h] at hr; cases hr), fun j hj oj hoj => ?_⟩
    by_cases hji : j = i
    · subst hji
      rw [hi] at hoj; cases hoj
      exact ⟨d, k', hy, hd, H⟩
    · obtain ⟨dj, kj, hyj, hdj, hK⟩ := H.2 j (ready_mono hj hji) oj hoj
      obtain ⟨hjun, oj', hoj', hall⟩ := mem_ready.1 hj
      rw [hoj] at hoj'; cases hoj'
      obtain ⟨hiun, oi', hoi', halli⟩ := mem_ready.1 hr
      rw [hi] at hoi'; cases hoi'
      have unl : ∀ q, listed.getD q true = false → listed.getD q false = true → False := fun q h0 h1 => by
        rcases Nat.lt_or_ge q listed.size with h' | h'
        · simp [h'] at h0 h1; rw [h0] at h1; cases h1
        · simp [Array.getElem?_eq_none h'] at h1
      have hnot : ∀ e ∈ oj.after, Region.binds .any e = true → e.on ≠ i := fun e he hb heq => by
        have h1 := hall e he hb
        rw [heq] at h1
        exact unl i hiun h1
      have hnoti : ∀ e ∈ oi.after, Region.binds .any e = true → e.on ≠ j := fun e he hb heq => by
        have h1 := halli e he hb
        rw [heq] at h1
        exact unl j hjun h1
      have hboth : turns oi.op = true → turns oj.op = true → False := fun h1 h2 => by
        rcases Nat.lt_or_gt_of_ne hji with h | h
        · obtain ⟨e, e1, e2, e3⟩ := turnsB_spec hT hoj hi h h2 h1
          exact hnoti e e1 e2 e3
        · obtain ⟨e, e1, e2, e3⟩ := turnsB_spec hT hi hoj h h1 h2
          exact hnot e e1 e2 e3
      obtain ⟨a1, a2, a3⟩ := Oper.apart_spec (hfree j oj hoj hji hjun hnot)
      have hfree' : ∀ k ok, ops[k]? = some ok → k ≠ i → (listed.setIfInBounds j true).getD k true = false →
          (∀ e ∈ ok.after, Region.binds .any e = true → e.on ≠ i) → oi.apart ops ok = true := fun k ok hk hki hun hno => by
        refine hfree k ok hk hki ?_ hno
        by_cases hjk : j = k
        · subst hjk; exact hjun
        · rw [getD_set_ne true hjk] at hun; exact hun
      have hyj' := (StepS.put a1).1 hyj
      have swap : ∃ k1, StepS P ops sts m oj s k dj k1 ∧ StepS P ops sts m oi s k1 d kj := by
        unfold StepS at hy hyj' ⊢
        by_cases h1 : turns oi.op = true
        · by_cases h2 : turns oj.op = true
          · exact (hboth h1 h2).elim
          · rw [if_pos h1] at hy
            rw [if_neg h2] at hyj'
            obtain ⟨q1, rfl⟩ := hyj'
            refine ⟨k, ?_, ?_⟩
            · rw [if_neg h2]; exact ⟨q1, rfl⟩
            · rw [if_pos h1]; exact hy
        · rw [if_neg h1] at hy
          obtain ⟨q1, rfl⟩ := hy
          refine ⟨kj, hyj', ?_⟩
          rw [if_neg h1]
          exact ⟨q1, rfl⟩
      obtain ⟨k1, w1, w2⟩ := swap
      refine ⟨dj, k1, w1, hdj, ih (listed.setIfInBounds j true) _ k1 kj hfree' (ready_mono hr (Ne.symm hji)) ((StepS.put a3).2 w2) hd ?_⟩
      rw [Array.setIfInBounds_comm _ _ hji, ← putS_comm a2]
      exact hK
def lexS (P : Program) (N : Nat) (ops : Array Oper) (sts : Nat → Store) (m : Nat) (Q : Slots → Prop) : List Oper → Slots → Nat → Prop
  | [], s, k => k = m ∧ Q s
  | o :: rest, s, k => ∃ d k', StepS P ops sts m o s k d k' ∧ dstOk N o.dst ∧ lexS P N ops sts m Q rest (putS o.dst d s) k'
theorem anyS_lex {P : Program} {N : Nat} {ops : Array Oper} {sts : Nat → Store} {m : Nat} {Q : Slots → Prop} (hT : turnsB ops = true) : ∀ (l : List Oper) (k : Nat) (listed : Array Bool) (s : Slots) (n : Nat), (∀ j, l[j]? = ops[k + j]?) →
    Region.lexFrom .any ops l.length k listed = true → lexS P N ops sts m Q l s n → anyS P N ops sts m Q l.length listed s n
  | [], _, _, _, _, _, hB, h => ⟨by simpa [Region.lexFrom] using hB, h⟩
  | o :: l, k, listed, s, n, hl, hB, h => by
    have h0 : ops[k]? = some o := by simpa using (hl 0).symm
    simp only [List.length_cons, Region.lexFrom, Bool.and_eq_true] at hB
    obtain ⟨⟨hr, hf⟩, hB'⟩ := hB
    obtain ⟨d, k', hy, hd, hK⟩ := h
    exact anyS_first hT h0 l.length listed s n k' (Region.free_spec h0 hf) (by simpa using hr) hy hd
      (anyS_lex hT l (k + 1) _ _ k' (fun j => by have := hl (j + 1); simpa [Nat.add_assoc, Nat.add_comm 1 j] using this) hB' hK)
theorem wpD_S {P : Program} {N : Nat} {Q : Exit → Slots → Store → Prop} {s : Slots} {id : Nat} {l : List Oper} (sts : Nat → Store) (m : Nat) (hm : P.follows .mixedOrders = true) (hB : Region.lexB .any l.toArray = true) (hT : turnsB l.toArray = true)
    (h : lexS P N l.toArray sts m (fun s' => Q .normal s' (sts m)) l s 0) : wpD P N (.region id l.toArray true) Q s (sts 0) := by
  refine wpD_any hm (anyD_of_S (sts := sts) (m := m) _ _ _ 0 (Nat.zero_le m) ?_)
  simp only [Region.lexB, Bool.and_eq_true] at hB
  exact anyS_lex hT l 0 (Array.replicate l.length false) s 0 (by simp) (by simpa using hB.2) h
end Go.Proofs.Ytmjmbfcfnhnpmaa
