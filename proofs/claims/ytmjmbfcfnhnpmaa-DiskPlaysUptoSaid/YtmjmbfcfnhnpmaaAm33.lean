/- The program logic, thirty-third part: functions that turn boxes, known to the evaluation; regions in any order that call them. No condition: lemmas of any program. -/
import Derived.Test.YtmjmbfcfnhnpmaaAm32
namespace Go.Proofs.Ytmjmbfcfnhnpmaa
open Go.RowKit
set_option linter.all false
/-- Functions that turn boxes: what a call gives and leaves; what is to be shown first. -/
abbrev KnB := List (FuncId × (List DV → Store → SV))
def findB : KnB → FuncId → List DV → Store → SV
  | [], _, _, _ => none
  | (g, h) :: B, f, args, st => if f = g then h args st else findB B f args st
def SoundB (P : Program) (B : KnB) : Prop := ∀ f args st cs r st', findB B f args st = some (cs, r, st') → allP cs True → ∀ K : DV → Store → Prop, K r st' → FnD P f args st K
theorem noB_ok {P : Program} : SoundB P [] := fun _ _ _ _ _ _ h => by cases h
theorem orB_ok {P : Program} {f0 : FuncId} {h : List DV → Store → SV} {B : KnB} (hh : ∀ args st cs r st', h args st = some (cs, r, st') → allP cs True → ∀ K : DV → Store → Prop, K r st' → FnD P f0 args st K) (hB : SoundB P B) : SoundB P ((f0, h) :: B) := fun f args st cs r st' e hc => by
  unfold findB at e
  split at e
  · rename_i hf
    subst hf
    exact hh args st cs r st' e hc
  · exact hB f args st cs r st' e hc
def bothB (K : DV → Store → Prop) : SV → Prop
  | some (cs, r, st') => allP cs (K r st')
  | none => False
/-- A call of a function that is known so. -/
theorem callB {P : Program} {N : Nat} {X : Cps} (hX : X = X0 P N) {B : KnB} (hB : SoundB P B) {f : FuncId} {args : List DV} {st : Store} {K : DV → Store → Prop} (h : bothB K (findB B f args st)) : X.fn f args st K := by
  subst hX
  show FnD P f args st K
  unfold bothB at h
  split at h
  · rename_i cs r st' hv
    rw [allP_iff] at h
    exact hB f args st cs r st' hv h.1 K h.2
  · exact h.elim
/-- Short slices that are settled as they are built. -/
def setI (ids : List FuncId) : Op → Bool
  | .buildSlice _ len _ => ids.elem (1000000 + len)
  | _ => false
def tnI (ids : List FuncId) (o : Op) : Bool := (turns o && !setI ids o) || (match o with
  | .call c => (match c.callee with
    | .value (.func f) => ids.elem f
    | _ => false)
  | _ => false)
/-- They stand in a row. -/
def turnsI (ids : List FuncId) (ops : Array Oper) : Bool := (List.range ops.size).all fun j => (List.range j).all fun i => match ops[i]?, ops[j]? with
  | some a, some b => !(tnI ids a.op && tnI ids b.op) || b.after.any fun e => Region.binds .any e && e.on == i
  | _, _ => true
theorem turnsI_spec {ids : List FuncId} {ops : Array Oper} (h : turnsI ids ops = true) {i j : Nat} {a b : Oper} (hi : ops[i]? = some a) (hj : ops[j]? = some b) (hij : i < j) (ha : tnI ids a.op = true) (hb : tnI ids b.op = true) : ∃ e ∈ b.after, Region.binds .any e = true ∧ e.on = i := by
  unfold turnsI at h
  rw [List.all_eq_true] at h
  have hjs : j < ops.size := by
    rcases Nat.lt_or_ge j ops.size with h' | h'
    · exact h'
    · rw [Array.getElem?_eq_none h'] at hj; cases hj
  have h1 := h j (by simpa using hjs)
  rw [List.all_eq_true] at h1
  have h2 := h1 i (by simpa using hij)
  rw [hi, hj] at h2
  simp only [ha, hb, Bool.and_self, Bool.not_true, Bool.false_or, Array.any_eq_true, Bool.and_eq_true, beq_iff_eq] at h2
  obtain ⟨q, hq, h3, h4⟩ := h2
  exact ⟨_, Array.getElem_mem hq, h3, h4⟩
/-- A step at place k of the row of stores. -/
def StepI (ids : List FuncId) (P : Program) (ops : Array Oper) (sts : Nat → Store) (m : Nat) (o : Oper) (s : Slots) (k : Nat) (d : DV) (k' : Nat) : Prop :=
  if tnI ids o.op = true then Stp P ops o s (sts k) d (sts k') ∧ k' = k + 1 ∧ k < m else (∀ q, q ≤ m → Stp P ops o s (sts q) d (sts q)) ∧ k' = k
theorem StepI.put {ids : List FuncId} {P : Program} {ops : Array Oper} {sts : Nat → Store} {m : Nat} {o : Oper} {s : Slots} {k k' : Nat} {d e : DV} {dst : Option Nat} (hap : ∀ t, dst = some t → t ∉ o.looksAt ops) : StepI ids P ops sts m o (putS dst e s) k d k' ↔ StepI ids P ops sts m o s k d k' := by
  unfold StepI
  simp only [Stp.put hap]
def anyI (ids : List FuncId) (P : Program) (N : Nat) (ops : Array Oper) (sts : Nat → Store) (m : Nat) (Q : Slots → Prop) : Nat → Array Bool → Slots → Nat → Prop
  | 0, listed, s, k => Region.ready .any ops listed = [] ∧ k = m ∧ Q s
  | fuel + 1, listed, s, k => (Region.ready .any ops listed = [] → k = m ∧ Q s) ∧
      ∀ i ∈ Region.ready .any ops listed, ∀ o, ops[i]? = some o → ∃ d k', StepI ids P ops sts m o s k d k' ∧ dstOk N o.dst ∧ anyI ids P N ops sts m Q fuel (listed.setIfInBounds i true) (putS o.dst d s) k'
theorem anyD_of_I {ids : List FuncId} {P : Program} {N : Nat} {ops : Array Oper} {sts : Nat → Store} {m : Nat} {Q : Slots → Store → Prop} : ∀ (fuel : Nat) (listed : Array Bool) (s : Slots) (k : Nat), k ≤ m → anyI ids P N ops sts m (fun s => Q s (sts m)) fuel listed s k → anyD P N ops Q fuel listed s (sts k)
  | 0, _, _, k, _, ⟨h1, h2, h3⟩ => ⟨h1, by subst h2; exact h3⟩
  | fuel + 1, listed, s, k, hm, h => by
      refine ⟨fun h0 => by obtain ⟨h2, h3⟩ := h.1 h0; subst h2; exact h3, fun i hi => ?_⟩
      obtain ⟨o, ho⟩ := ready_some hi
      obtain ⟨d, k', hs, hd, hK⟩ := h.2 i hi o ho
      rw [ho]
      have key : k' ≤ m ∧ Stp P ops o s (sts k) d (sts k') := by
        unfold StepI at hs
        split at hs
        · exact ⟨by omega, hs.1⟩
        · obtain ⟨h1, rfl⟩ := hs
          exact ⟨hm, h1 _ hm⟩
      have ih := anyD_of_I fuel _ _ k' key.1 hK
      rcases key.2 with ⟨hw, hy⟩ | ⟨hw, rfl, hst⟩
      · simp only [stepD, hw]
        exact ⟨hd, hy _ ih⟩
      · simp only [stepD, hw]
        rw [hst] at ih
        exact ⟨hd, ih⟩
theorem anyI_first {ids : List FuncId} {P : Program} {N : Nat} {ops : Array Oper} {sts : Nat → Store} {m : Nat} {Q : Slots → Prop} (hT : turnsI ids ops = true) {i : Nat} {oi : Oper} {d : DV} (hi : ops[i]? = some oi) : ∀ (fuel : Nat) (listed : Array Bool) (s : Slots) (k k' : Nat),
    (∀ j oj, ops[j]? = some oj → j ≠ i → listed.getD j true = false → (∀ e ∈ oj.after, Region.binds .any e = true → e.on ≠ i) → oi.apart ops oj = true) →
    i ∈ Region.ready .any ops listed → StepI ids P ops sts m oi s k d k' → dstOk N oi.dst → anyI ids P N ops sts m Q fuel (listed.setIfInBounds i true) (putS oi.dst d s) k' → anyI ids P N ops sts m Q (fuel + 1) listed s k := by
  intro fuel
  induction fuel with
  | zero =>
    intro listed s k k' _ hr hy hd H
    refine ⟨fun h => (by rw [h] at hr; cases hr), fun j hj oj hoj => ?_⟩
    by_cases hji : j = i
    · subst hji
      rw [hi] at hoj; cases hoj
      exact ⟨d, k', hy, hd, H⟩
    · have := ready_mono hj hji
      rw [H.1] at this
      cases this
  | succ fuel ih =>
    intro listed s k k' hfree hr hy hd H
    refine ⟨fun h => (by rw [h] at hr; cases hr), fun j hj oj hoj => ?_⟩
    by_cases hji : j = i
    · subst hji
      rw [hi] at hoj; cases hoj
      exact ⟨d, k', hy, hd, H⟩
    · obtain ⟨dj, kj, hyj, hdj, hK⟩ := H.2 j (ready_mono hj hji) oj hoj
      obtain ⟨hjun, oj', hoj', hall⟩ := mem_ready.1 hj
      rw [hoj] at hoj'; cases hoj'
      obtain ⟨hiun, oi', hoi', halli⟩ := mem_ready.1 hr
      rw [hi] at hoi'; cases hoi'
      have unl : ∀ q, listed.getD q true = false → listed.getD q false = true → False := fun q h0 h1 => by
        rcases Nat.lt_or_ge q listed.size with h' | h'
        · simp [h'] at h0 h1; rw [h0] at h1; cases h1
        · simp [Array.getElem?_eq_none h'] at h1
      have hnot : ∀ e ∈ oj.after, Region.binds .any e = true → e.on ≠ i := fun e he hb heq => by
        have h1 := hall e he hb
        rw [heq] at h1
        exact unl i hiun h1
      have hnoti : ∀ e ∈ oi.after, Region.binds .any e = true → e.on ≠ j := fun e he hb heq => by
        have h1 := halli e he hb
        rw [heq] at h1
        exact unl j hjun h1
      have hboth : tnI ids oi.op = true → tnI ids oj.op = true → False := fun h1 h2 => by
        rcases Nat.lt_or_gt_of_ne hji with h | h
        · obtain ⟨e, e1, e2, e3⟩ := turnsI_spec hT hoj hi h h2 h1
          exact hnoti e e1 e2 e3
        · obtain ⟨e, e1, e2, e3⟩ := turnsI_spec hT hi hoj h h1 h2
          exact hnot e e1 e2 e3
      obtain ⟨a1, a2, a3⟩ := Oper.apart_spec (hfree j oj hoj hji hjun hnot)
      have hfree' : ∀ k ok, ops[k]? = some ok → k ≠ i → (listed.setIfInBounds j true).getD k true = false →
          (∀ e ∈ ok.after, Region.binds .any e = true → e.on ≠ i) → oi.apart ops ok = true := fun k ok hk hki hun hno => by
        refine hfree k ok hk hki ?_ hno
        by_cases hjk : j = k
        · subst hjk; exact hjun
        · rw [getD_set_ne true hjk] at hun; exact hun
      have hyj' := (StepI.put a1).1 hyj
      have swap : ∃ k1, StepI ids P ops sts m oj s k dj k1 ∧ StepI ids P ops sts m oi s k1 d kj := by
        unfold StepI at hy hyj' ⊢
        by_cases h1 : tnI ids oi.op = true
        · by_cases h2 : tnI ids oj.op = true
          · exact (hboth h1 h2).elim
          · rw [if_pos h1] at hy
            rw [if_neg h2] at hyj'
            obtain ⟨q1, rfl⟩ := hyj'
            refine ⟨k, ?_, ?_⟩
            · rw [if_neg h2]; exact ⟨q1, rfl⟩
            · rw [if_pos h1]; exact hy
        · rw [if_neg h1] at hy
          obtain ⟨q1, rfl⟩ := hy
          refine ⟨kj, hyj', ?_⟩
          rw [if_neg h1]
          exact ⟨q1, rfl⟩
      obtain ⟨k1, w1, w2⟩ := swap
      refine ⟨dj, k1, w1, hdj, ih (listed.setIfInBounds j true) _ k1 kj hfree' (ready_mono hr (Ne.symm hji)) ((StepI.put a3).2 w2) hd ?_⟩
      rw [Array.setIfInBounds_comm _ _ hji, ← putS_comm a2]
      exact hK
def lexI (ids : List FuncId) (P : Program) (N : Nat) (ops : Array Oper) (sts : Nat → Store) (m : Nat) (Q : Slots → Prop) : List Oper → Slots → Nat → Prop
  | [], s, k => k = m ∧ Q s
  | o :: rest, s, k => ∃ d k', StepI ids P ops sts m o s k d k' ∧ dstOk N o.dst ∧ lexI ids P N ops sts m Q rest (putS o.dst d s) k'
theorem anyI_lex {ids : List FuncId} {P : Program} {N : Nat} {ops : Array Oper} {sts : Nat → Store} {m : Nat} {Q : Slots → Prop} (hT : turnsI ids ops = true) : ∀ (l : List Oper) (k : Nat) (listed : Array Bool) (s : Slots) (n : Nat), (∀ j, l[j]? = ops[k + j]?) →
    Region.lexFrom .any ops l.length k listed = true → lexI ids P N ops sts m Q l s n → anyI ids P N ops sts m Q l.length listed s n
  | [], _, _, _, _, _, hB, h => ⟨by simpa [Region.lexFrom] using hB, h⟩
  | o :: l, k, listed, s, n, hl, hB, h => by
    have h0 : ops[k]? = some o := by simpa using (hl 0).symm
    simp only [List.length_cons, Region.lexFrom, Bool.and_eq_true] at hB
    obtain ⟨⟨hr, hf⟩, hB'⟩ := hB
    obtain ⟨d, k', hy, hd, hK⟩ := h
    exact anyI_first hT h0 l.length listed s n k' (Region.free_spec h0 hf) (by simpa using hr) hy hd
      (anyI_lex hT l (k + 1) _ _ k' (fun j => by have := hl (j + 1); simpa [Nat.add_assoc, Nat.add_comm 1 j] using this) hB' hK)
theorem wpD_I {ids : List FuncId} {P : Program} {N : Nat} {Q : Exit → Slots → Store → Prop} {s : Slots} {id : Nat} {l : List Oper} (sts : Nat → Store) (m : Nat) (hm : P.follows .mixedOrders = true) (hB : Region.lexB .any l.toArray = true) (hT : turnsI ids l.toArray = true)
    (h : lexI ids P N l.toArray sts m (fun s' => Q .normal s' (sts m)) l s 0) : wpD P N (.region id l.toArray true) Q s (sts 0) := by
  refine wpD_any hm (anyD_of_I (ids := ids) (sts := sts) (m := m) _ _ _ 0 (Nat.zero_le m) ?_)
  simp only [Region.lexB, Bool.and_eq_true] at hB
  exact anyI_lex hT l 0 (Array.replicate l.length false) s 0 (by simp) (by simpa using hB.2) h
/-- What a turning operation comes to. -/
def tvV (T : Unit → Tab) (A : Ar) (B : Unit → KnB) (o : Op) (s : SL) (st : Store) : SV :=
  match o with
  | .call c => (match c.callee with
    | .value (.func f) => (match (T ()).body f with
      | true => findB (B ()) f (c.args.toList.map (evL s)) st
      | false => none)
    | _ => opV T A o s st)
  | o => opV T A o s st
theorem tvV_D {P : Program} {T : Unit → Tab} (hT : TabOk P (T ())) {B : Unit → KnB} (hB : SoundB P (B ())) {o : Op} {s : SL} {st st' : Store} {cs : List Prop} {d : DV} (h : tvV T A0 B o s st = some (cs, d, st')) (hc : allP cs True) {K : DV → Store → Prop} (hk : K d st') : opD P o (getS s) st K := by
  unfold tvV at h
  split at h
  · rename_i c
    split at h
    · rename_i f hf
      split at h
      · rename_i hb
        simp only [opD, callD, hf]
        exact .inl ⟨hT.body _ hb, hB f _ st cs d st' h hc K hk⟩
      · cases h
    · exact opV_D hT h hc hk
  · exact opV_D hT h hc hk
def mixOneB (ids : List FuncId) (T : Unit → Tab) (A : Ar) (H : Unit → Kn) (B : Unit → KnB) (o : Op) (s : SL) (st : Store) (olds : List Store) (done : DL) (X : DV → Store → List Store → DL → Prop) : Prop :=
  match tnI ids o with
  | true => (match tvV T A B o s st with
    | some (cs, d, st1) => allP cs (staysC T A H st1 done (X d st1 (st :: olds) done))
    | none => False)
  | false => (match pvV T A H o s st with
    | some (cs, d) => allP cs (stoodC T A H o s d olds (X d st olds ((o, s, d) :: done)))
    | none => False)
def mixNoB (ids : List FuncId) (T : Unit → Tab) (A : Ar) (H : Unit → Kn) (o : Op) (st : Store) (olds : List Store) (done : DL) (X : DV → Store → List Store → DL → Prop) : Prop :=
  match tnI ids o with
  | true => staysC T A H st done (X (.d (.sc (.tuple #[]))) st (st :: olds) done)
  | false => X (.d (.sc (.tuple #[]))) st olds done
def mixB (ids : List FuncId) (T : Unit → Tab) (A : Ar) (H : Unit → Kn) (B : Unit → KnB) (N : Nat) (ops : Array Oper) (Q : SL → Store → Prop) : List Oper → SL → Store → List Store → DL → Prop
  | [], s, st, _, _ => Q s st
  | o :: rest, s, st, olds, done => match dstB N o.dst, o.guard with
    | true, none => mixOneB ids T A H B o.op s st olds done fun d st1 olds1 done1 => mixB ids T A H B N ops Q rest (putL o.dst d s) st1 olds1 done1
    | true, some (j, w) => (match slotOf ops j with
      | some k => (match getS s k with
        | .d (.sc (.bool t)) => brC t
          (fun _ => match w with
            | true => mixOneB ids T A H B o.op (setS s k (.d (.sc (.bool true)))) st olds done fun d st1 olds1 done1 => mixB ids T A H B N ops Q rest (putL o.dst d (setS s k (.d (.sc (.bool true))))) st1 olds1 done1
            | false => mixNoB ids T A H o.op st olds done fun d st1 olds1 done1 => mixB ids T A H B N ops Q rest (putL o.dst d (setS s k (.d (.sc (.bool true))))) st1 olds1 done1)
          (fun _ => match w with
            | false => mixOneB ids T A H B o.op (setS s k (.d (.sc (.bool false)))) st olds done fun d st1 olds1 done1 => mixB ids T A H B N ops Q rest (putL o.dst d (setS s k (.d (.sc (.bool false))))) st1 olds1 done1
            | true => mixNoB ids T A H o.op st olds done fun d st1 olds1 done1 => mixB ids T A H B N ops Q rest (putL o.dst d (setS s k (.d (.sc (.bool false))))) st1 olds1 done1)
        | .d (.sc (.tuple _)) => mixNoB ids T A H o.op st olds done fun d st1 olds1 done1 => mixB ids T A H B N ops Q rest (putL o.dst d s) st1 olds1 done1
        | _ => False)
      | none => False)
    | false, _ => False
theorem staysB_mem {P : Program} {st : Store} : ∀ {l : DL}, staysE P [] st (l.map fun p => (p.1, getS p.2.1, p.2.2)) → ∀ p ∈ l, ∀ K : DV → Store → Prop, K p.2.2 st → opD P p.1 (getS p.2.1) st K
  | [], _, p, hp, _, _ => by cases hp
  | q :: l, h, p, hp, K, hK => by
      rcases List.mem_cons.1 hp with rfl | hp
      · exact opE_ok noH_ok (h.1 K hK)
      · exact staysB_mem h.2 p hp K hK
section mix
variable {P : Program} {ids : List FuncId} {T : Unit → Tab} (hT : TabOk P (T ())) {H : Unit → Kn} (hH : SoundK P (H ())) {B : Unit → KnB} (hB : SoundB P (B ())) {N : Nat} {ops : Array Oper} {Q : Slots → Store → Prop}
def MixOkB (P : Program) (ids : List FuncId) (N : Nat) (ops : Array Oper) (Q : Slots → Store → Prop) (l : List Oper) (s : Slots) (st : Store) (olds : List Store) (done : DL) : Prop :=
  ∃ later : List Store, lexI ids P N ops (rowSt olds st later) (olds.length + later.length) (fun s' => Q s' (rowSt olds st later (olds.length + later.length))) l s olds.length ∧ ∀ p ∈ done, ∀ st' ∈ later, ∀ K : DV → Store → Prop, K p.2.2 st' → opD P p.1 (getS p.2.1) st' K
include hT hH hB
theorem mixOneB_ok {o : Oper} {rest : List Oper} {s0 : Slots} {s : SL} (hs : getS s = s0) {st : Store} {olds : List Store} {done : DL} (hd : dstOk N o.dst) (hw : wantedD ops o.guard s0 = some true) {X : DV → Store → List Store → DL → Prop}
    (h : mixOneB ids T A0 H B o.op s st olds done X) (ih : ∀ d st1 olds1 done1, X d st1 olds1 done1 → MixOkB P ids N ops Q rest (putS o.dst d s0) st1 olds1 done1) : MixOkB P ids N ops Q (o :: rest) s0 st olds done := by
  subst hs
  unfold mixOneB at h
  split at h
  · rename_i ht
    split at h
    · rename_i cs d st1 hv
      rw [allP_iff] at h
      obtain ⟨hc, h⟩ := h
      obtain ⟨h2, h3⟩ := staysC_E hT hH _ h
      obtain ⟨later, g1, g2⟩ := ih _ _ _ _ h3
      have hl : olds.length + (st1 :: later).length = (st :: olds).length + later.length := by simp; omega
      refine ⟨st1 :: later, ⟨d, olds.length + 1, ?_, hd, ?_⟩, ?_⟩
      · unfold StepI
        rw [if_pos ht]
        refine ⟨?_, rfl, by simp⟩
        rw [rowSt_at, rowSt_next, show olds.length + 1 = (st :: olds).length from rfl, rowSt_at]
        exact .inl ⟨hw, fun K hK => tvV_D hT hB hv hc hK⟩
      · rw [rowSt_next, hl]
        exact g1
      · intro p hp st' hst'
        rcases List.mem_cons.1 hst' with rfl | hst'
        · exact staysB_mem h2 p hp
        · exact g2 p hp st' hst'
    · exact h.elim
  · rename_i ht
    split at h
    · rename_i cs d hv
      rw [allP_iff] at h
      obtain ⟨hc, h⟩ := h
      obtain ⟨h2, h3⟩ := stoodC_E hT hH _ h
      obtain ⟨later, g1, g2⟩ := ih _ _ _ _ h3
      refine ⟨later, ⟨d, olds.length, ?_, hd, g1⟩, fun p hp => g2 p (List.mem_cons_of_mem _ hp)⟩
      unfold StepI
      rw [if_neg (by simp [ht])]
      refine ⟨fun q hq => .inl ⟨hw, ?_⟩, rfl⟩
      rcases rowSt_mem olds st later q hq with e | e | e
      · exact stoodE_mem noH_ok h2 _ e
      · rw [e]; exact fun K hK => pvV_D hT hH hv hc hK
      · exact g2 (o.op, s, d) (List.mem_cons_self ..) _ e
    · exact h.elim
omit hB in
theorem mixNoB_ok {o : Oper} {rest : List Oper} {s : Slots} {st : Store} {olds : List Store} {done : DL} (hd : dstOk N o.dst) (hw : wantedD ops o.guard s = some false) {X : DV → Store → List Store → DL → Prop}
    (h : mixNoB ids T A0 H o.op st olds done X) (ih : ∀ d st1 olds1 done1, X d st1 olds1 done1 → MixOkB P ids N ops Q rest (putS o.dst d s) st1 olds1 done1) : MixOkB P ids N ops Q (o :: rest) s st olds done := by
  unfold mixNoB at h
  split at h
  · rename_i ht
    obtain ⟨h2, h3⟩ := staysC_E hT hH _ h
    obtain ⟨later, g1, g2⟩ := ih _ _ _ _ h3
    have hl : olds.length + (st :: later).length = (st :: olds).length + later.length := by simp; omega
    refine ⟨st :: later, ⟨.d (.sc (.tuple #[])), olds.length + 1, ?_, hd, ?_⟩, ?_⟩
    · unfold StepI
      rw [if_pos ht]
      refine ⟨.inr ⟨hw, rfl, ?_⟩, rfl, by simp⟩
      rw [rowSt_at, rowSt_next, show olds.length + 1 = (st :: olds).length from rfl, rowSt_at]
    · rw [rowSt_next, hl]
      exact g1
    · intro p hp st' hst'
      rcases List.mem_cons.1 hst' with rfl | hst'
      · exact staysB_mem h2 p hp
      · exact g2 p hp st' hst'
  · rename_i ht
    obtain ⟨later, g1, g2⟩ := ih _ _ _ _ h
    refine ⟨later, ⟨.d (.sc (.tuple #[])), olds.length, ?_, hd, g1⟩, g2⟩
    unfold StepI
    rw [if_neg (by simp [ht])]
    exact ⟨fun q hq => .inr ⟨hw, rfl, rfl⟩, rfl⟩
theorem mixB_ok {Q : SL → Store → Prop} : ∀ (l : List Oper) (s : SL) (st : Store) (olds : List Store) (done : DL), mixB ids T A0 H B N ops Q l s st olds done → MixOkB P ids N ops (fun s' st' => ∃ l, getS l = s' ∧ Q l st') l (getS s) st olds done
  | [], s, st, olds, done, h => ⟨[], ⟨rfl, by rw [show olds.length + ([] : List Store).length = olds.length from rfl, rowSt_at]; exact ⟨s, rfl, h⟩⟩, fun _ _ _ h => by cases h⟩
  | o :: rest, s, st, olds, done, h => by
      have next : ∀ s2 : SL, getS s2 = getS s → ∀ (d : DV) (st1 : Store) (olds1 : List Store) (done1 : DL), mixB ids T A0 H B N ops Q rest (putL o.dst d s2) st1 olds1 done1 → MixOkB P ids N ops (fun s' st' => ∃ l, getS l = s' ∧ Q l st') rest (putS o.dst d (getS s)) st1 olds1 done1 := fun s2 h2 d st1 olds1 done1 hq => by
        have := mixB_ok rest _ _ _ _ hq
        rw [getS_putL, h2] at this
        exact this
      unfold mixB at h
      split at h
      · rename_i hd hg
        exact mixOneB_ok hT hH hB rfl (dstB_ok hd) (by rw [hg]; rfl) h (next s rfl)
      · rename_i j w hd hg
        split at h
        · rename_i k hk
          split at h
          · rename_i t ht
            have hs : ∀ b, b = t → getS (setS s k (.d (.sc (.bool b)))) = getS s := fun b e => getS_same (by rw [e]; exact ht)
            cases t <;> cases w <;> simp only [brC] at h
            · exact mixOneB_ok hT hH hB (hs _ rfl) (dstB_ok hd) (by rw [hg]; simp only [wantedD, hk, ht, BEq.rfl]) h (next _ (hs _ rfl))
            · exact mixNoB_ok hT hH (dstB_ok hd) (by rw [hg]; simp only [wantedD, hk, ht]; rfl) h (next _ (hs _ rfl))
            · exact mixNoB_ok hT hH (dstB_ok hd) (by rw [hg]; simp only [wantedD, hk, ht]; rfl) h (next _ (hs _ rfl))
            · exact mixOneB_ok hT hH hB (hs _ rfl) (dstB_ok hd) (by rw [hg]; simp only [wantedD, hk, ht, BEq.rfl]) h (next _ (hs _ rfl))
          · rename_i vs ht
            exact mixNoB_ok hT hH (dstB_ok hd) (by rw [hg]; simp only [wantedD, hk, ht]) h (next s rfl)
          · exact h.elim
        · exact h.elim
      · exact h.elim
end mix
/-- A region in any order that calls functions that turn boxes. -/
theorem regionB (ids : List FuncId) {P : Program} {T : Unit → Tab} (hT : TabOk P (T ())) {H : Unit → Kn} (hH : SoundK P (H ())) {B : Unit → KnB} (hB : SoundB P (B ())) (hm : P.follows .mixedOrders = true) {N : Nat} {Q : Exit → SL → Store → Prop} {s : SL} {st : Store} {id : Nat} {ops : Array Oper} {A : Ar} {X : Cps} (hA : A = A0) (hX : X = X0 P N)
    (hl : Region.lexB .any ops = true) (ht : turnsI ids ops = true) (h : mixB ids T A H B N ops (Q .normal) ops.toList s st [] []) : X.st (.region id ops true) Q s st := by
  subst hA; subst hX
  obtain ⟨l⟩ := ops
  show wpD P N (.region id l.toArray true) (lessQ Q) (getS s) st
  obtain ⟨later, h1, _⟩ := mixB_ok hT hH hB l s st [] [] h
  refine wpD_mono (wpD_I (ids := ids) (id := id) (Q := fun e s' st' => e = .normal ∧ ∃ l, getS l = s' ∧ Q .normal l st') (rowSt [] st later) (0 + later.length) hm hl ht ?_) ?_
  · have e : ∀ s' : Slots, (∃ l, getS l = s' ∧ Q .normal l (rowSt [] st later (0 + later.length))) → (Exit.normal = .normal ∧ ∃ l, getS l = s' ∧ Q .normal l (rowSt [] st later (0 + later.length))) := fun s' h => ⟨rfl, h⟩
    simpa using h1
  · rintro e s' st' ⟨rfl, l, rfl, hq⟩
    exact ⟨l, fun _ => .inl rfl, hq⟩
/-- Arguments told otherwise: nothing for a settled slice without elements. -/
theorem FnD.nils {P : Program} {f : FuncId} {args args' : List DV} {st : Store} {K : DV → Store → Prop} (h : FnD P f args' st K) (hn : NilL args args') : FnD P f args st K := fun E vs h1 h2 h3 => h E vs h1 h2 (hn.reps h3)
/-- A contract that turns one box. -/
theorem FnD.one {P : Program} {f : FuncId} {args : List DV} {bx bx' : Box} {res : DV} {st : Store} {K : DV → Store → Prop} (b : Nat) (h : FnD P f (.ref 0 0 0 :: args) [bx] fun r st' => r = res ∧ st' = [bx']) (hb : st[b]? = some bx)
    (ha : closedL 0 args = true) (hr : closedD 0 res = true) (h1 : closedL 0 bx.cells = true) (h2 : closedL 0 bx'.cells = true) (hk : K res (st.set b bx')) : FnD P f (.ref b 0 0 :: args) st K := by
  have hlt : b < st.length := (List.getElem?_eq_some_iff.1 hb).1
  have e : ∀ bx : Box, closedL 0 bx.cells = true → Box.ren (place [b] st.length) bx = bx := fun bx hb => by
    unfold Box.ren
    have := renL_pure (place [b] st.length) bx.cells hb
    rw [renL_eq] at this
    rw [this]
  refine FnD.at (args' := .ref 0 0 0 :: args) h [b] (by simp [hlt, closedL, closedD, closedL_mono (Nat.zero_le 1) _ ha]) ?_ (by simp [renL, renD, place, renL_pure _ _ ha]) ?_
  · intro k r bx0 hk hs
    cases k with
    | zero =>
      simp at hk hs
      subst hk; subst hs
      exact ⟨by rw [e _ h1]; exact hb, closedL_mono (Nat.zero_le _) _ h1⟩
    | succ k => simp at hk
  · rintro r0 stc ⟨rfl, rfl⟩ _
    rw [renD_pure _ _ hr]
    have e2 : mergeL st [b] ([bx'].map (Box.ren (place [b] st.length))) = st.set b bx' := by
      apply List.ext_getElem?
      intro i
      simp only [mergeL, List.map_cons, List.map_nil, e _ h2, List.length_singleton, List.drop_one, List.tail_cons, List.append_nil, List.getElem?_mapIdx, List.getElem?_set]
      by_cases hi : b = i
      · subst hi
        simp [hlt, List.idxOf?, List.findIdx?_cons]
      · have : ([b] : List Nat).idxOf? i = none := by rw [List.idxOf?_eq_none_iff]; simpa using fun h => hi h.symm
        simp [this, hi]
    rw [e2]
    exact hk
/-- What a contract leaves may be told otherwise. -/
theorem FnD.ret {P : Program} {f : FuncId} {args : List DV} {st : Store} {R : DV → Store → Prop} (h : FnD P f args st fun r st' => RetW st.length R r st') : FnD P f args st R := by
  intro E vs hc hst hr
  refine (h E vs hc hst hr).mono ?_
  rintro e w' ⟨v, E2, r, k1, k2, ⟨d', st', k3, k4⟩, k5, k6, k7⟩
  obtain ⟨E3, m1, m2, m3, m4, m5⟩ := k3 E2 v k5 rfl k7
  exact ⟨v, E3, d', k1, m1.trans k2, by rw [m2]; exact k4, m3, m5 E hc.len (by rw [hst]; exact Nat.le_refl _) k6, m4⟩
/-- A contract that turns two boxes. -/
theorem FnD.two {P : Program} {f : FuncId} {args : List DV} {bx bx' cx cx' : Box} {res : DV} {st : Store} {K : DV → Store → Prop} (b c : Nat) (hbc : b ≠ c) (h : FnD P f (.ref 0 0 0 :: .ref 1 0 0 :: args) [bx, cx] fun r st' => r = res ∧ st' = [bx', cx']) (hb : st[b]? = some bx) (hcx : st[c]? = some cx)
    (ha : closedL 0 args = true) (hr : closedD 0 res = true) (h1 : closedL 0 bx.cells = true) (h2 : closedL 0 bx'.cells = true) (h3 : closedL 0 cx.cells = true) (h4 : closedL 0 cx'.cells = true) (hk : K res ((st.set b bx').set c cx')) : FnD P f (.ref b 0 0 :: .ref c 0 0 :: args) st K := by
  have hlt : b < st.length := (List.getElem?_eq_some_iff.1 hb).1
  have hltc : c < st.length := (List.getElem?_eq_some_iff.1 hcx).1
  have e : ∀ bx : Box, closedL 0 bx.cells = true → Box.ren (place [b, c] st.length) bx = bx := fun bx hb => by
    unfold Box.ren
    have := renL_pure (place [b, c] st.length) bx.cells hb
    rw [renL_eq] at this
    rw [this]
  refine FnD.at (args' := .ref 0 0 0 :: .ref 1 0 0 :: args) h [b, c] (by simp [hlt, hltc, hbc, closedL, closedD, closedL_mono (Nat.zero_le 2) _ ha]) ?_ (by simp [renL, renD, place, renL_pure _ _ ha]) ?_
  · intro k r bx0 hk hs
    rcases k with _ | _ | k
    · simp at hk hs
      subst hk; subst hs
      exact ⟨by rw [e _ h1]; exact hb, closedL_mono (Nat.zero_le _) _ h1⟩
    · simp at hk hs
      subst hk; subst hs
      exact ⟨by rw [e _ h3]; exact hcx, closedL_mono (Nat.zero_le _) _ h3⟩
    · simp at hk
  · rintro r0 stc ⟨rfl, rfl⟩ _
    rw [renD_pure _ _ hr]
    have e2 : mergeL st [b, c] ([bx', cx'].map (Box.ren (place [b, c] st.length))) = (st.set b bx').set c cx' := by
      apply List.ext_getElem?
      intro i
      have hd : (List.map (Box.ren (place [b, c] st.length)) [bx', cx']).drop [b, c].length = [] := by simp
      rw [mergeL, hd, List.append_nil]
      simp only [List.map_cons, List.map_nil, e _ h2, e _ h4, List.getElem?_mapIdx, List.getElem?_set, List.length_set]
      by_cases hi : b = i
      · subst hi
        have : ([b, c] : List Nat).idxOf? b = some 0 := by simp [List.idxOf?, List.findIdx?_cons]
        simp [this, hlt, Ne.symm hbc]
      · by_cases hj : c = i
        · subst hj
          have : ([b, c] : List Nat).idxOf? c = some 1 := by simp [List.idxOf?, List.findIdx?_cons, hbc]
          simp [this, hltc]
        · have : ([b, c] : List Nat).idxOf? i = none := by
            rw [List.idxOf?_eq_none_iff]
            simp only [List.mem_cons, List.not_mem_nil, or_false, not_or]
            exact ⟨fun h => hi h.symm, fun h => hj h.symm⟩
          simp [this, hi, hj]
    rw [e2]
    exact hk
/-- Rows of one cell. -/
def rows1 : List DV → Option (List (List PD))
  | [] => some []
  | .d p :: l => match rows1 l with
    | some xs => some ([p] :: xs)
    | none => none
  | _ => none
theorem rows1_ok : ∀ {cs : List DV} {xs : List (List PD)}, rows1 cs = some xs → cs = rowsD xs ∧ ∀ x ∈ xs, x.length = 1
  | [], xs, h => by cases h; exact ⟨rfl, by simp⟩
  | .d p :: l, xs, h => by
      unfold rows1 at h
      split at h
      · rename_i ys hy
        cases h
        obtain ⟨h1, h2⟩ := rows1_ok hy
        exact ⟨by rw [h1]; rfl, by simpa using h2⟩
      · cases h
  | .any :: _, _, h => by cases h
  | .agg _ :: _, _, h => by cases h
  | .tup _ :: _, _, h => by cases h
  | .ref _ _ _ :: _, _, h => by cases h
  | .cref _ :: _, _, h => by cases h
  | .view _ _ _ _ _ :: _, _, h => by cases h
  | .fn _ _ :: _, _, h => by cases h
def viewOf : List DV → Option (Nat × Nat)
  | [] => none
  | .view _ b ver _ _ :: _ => some (b, ver)
  | _ :: l => viewOf l
/-- Slices of one's own among the arguments are settled. -/
def fzN : Nat → List DV → Store → Option (List DV × Store)
  | 0, args, st => some (args, st)
  | k + 1, args, st => match viewOf args with
    | none => some (args, st)
    | some (b, ver) => (match st[b]? with
      | some ⟨_, cs, _, v, true⟩ => (match v == ver, rows1 cs with
        | true, some xs => fzN k (args.map (fzD b ver 1 xs)) (fzSt b 1 xs st)
        | _, _ => none)
      | _ => none)
theorem fzN_ok {P : Program} {f : FuncId} {K : DV → Store → Prop} : ∀ (k : Nat) {args args' : List DV} {st st' : Store}, fzN k args st = some (args', st') → FnD P f args' st' K → FnD P f args st K
  | 0, _, _, _, _, h, hf => by cases h; exact hf
  | k + 1, args, args', st, st', h, hf => by
      unfold fzN at h
      split at h
      · cases h; exact hf
      · rename_i b ver hv
        split at h
        · rename_i ty cs ext v hb
          split at h
          · rename_i xs hvv hx
            have := eqb hvv
            subst this
            obtain ⟨h1, h2⟩ := rows1_ok hx
            exact FnD.freeze b 1 xs _ hb rfl h1 h2 (fzN_ok k h hf)
          · cases h
        · cases h
/-- A function that is known of settled slices, with slices of one's own. -/
def fzB (kb : FuncId × (List DV → Store → SV)) : FuncId × (List DV → Store → SV) := (kb.1, fun args st => match fzN 3 args st with
  | some (args', st') => kb.2 args' st'
  | none => none)
theorem okb_fz {P : Program} {kb : FuncId × (List DV → Store → SV)} (hh : ∀ args st cs r st', kb.2 args st = some (cs, r, st') → allP cs True → ∀ K : DV → Store → Prop, K r st' → FnD P kb.1 args st K) (args : List DV) (st : Store) (cs : List Prop) (r : DV) (st' : Store) (h : (fzB kb).2 args st = some (cs, r, st')) (hc : allP cs True) (K : DV → Store → Prop) (hk : K r st') : FnD P kb.1 args st K := by
  unfold fzB at h
  simp only at h
  split at h
  · rename_i a2 s2 hz
    exact fzN_ok 3 hz (hh a2 s2 cs r st' h hc K hk)
  · cases h
def liftK (kn : FuncId × (List DV → RV)) : FuncId × (List DV → Store → SV) := (kn.1, fun args st => match kn.2 args with
  | some (cs, r) => some (cs, r, st)
  | none => none)
theorem okb_lift {P : Program} {kn : FuncId × (List DV → RV)} (hh : ∀ args cs r, kn.2 args = some (cs, r) → allP cs True → FnV P kn.1 args r ∧ closedL 0 args = true) (args : List DV) (st : Store) (cs : List Prop) (r : DV) (st' : Store) (h : (liftK kn).2 args st = some (cs, r, st')) (hc : allP cs True) (K : DV → Store → Prop) (hk : K r st') : FnD P kn.1 args st K := by
  unfold liftK at h
  simp only at h
  split at h
  · rename_i c2 r2 hz
    cases h
    obtain ⟨h1, h2⟩ := hh args _ _ hz hc
    exact FnV.use h1 h2 hk
  · cases h
end Go.Proofs.Ytmjmbfcfnhnpmaa
