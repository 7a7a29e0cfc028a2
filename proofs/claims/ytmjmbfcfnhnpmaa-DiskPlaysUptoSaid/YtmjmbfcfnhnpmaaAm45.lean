/- The program logic, forty-fifth part: regions in any order, where an operation may lie behind one that turns the store, or ahead of one (levels from below and from above). No condition: lemmas of any program. -/
import Derived.Test.YtmjmbfcfnhnpmaaAm44
namespace Go.Proofs.Ytmjmbfcfnhnpmaa
open Go.RowKit
set_option linter.all false
def upF (up : List Nat) (p : Nat) : Nat := up.getD p 50
/-- How many operations that turn the store stand ahead. -/
def tixF (ids : List FuncId) (ops : Array Oper) : Nat → Nat
  | 0 => 0
  | p + 1 => tixF ids ops p + if tnAt ids ops p = true then 1 else 0
/-- Is p ahead of t by edges? -/
def ancB (ops : Array Oper) : Nat → Nat → Nat → Bool
  | 0, _, _ => false
  | f + 1, p, t => match ops[t]? with
    | some o => o.after.any fun e => Region.binds .any e && (e.on == p || ancB ops f p e.on)
    | none => false
def upsB (ids : List FuncId) (up : List Nat) (ops : Array Oper) : Bool := (List.range ops.size).all fun p => decide (50 ≤ upF up p) || tnAt ids ops p || (List.range ops.size).all fun t => !tnAt ids ops t || decide (tixF ids ops t < upF up p) || ancB ops ops.size p t
def fewB (ids : List FuncId) (ops : Array Oper) : Bool := decide (tixF ids ops ops.size ≤ 50)
theorem tix_mono {ids : List FuncId} {ops : Array Oper} {a b : Nat} (h : a ≤ b) : tixF ids ops a ≤ tixF ids ops b := by
  induction b with
  | zero => rw [Nat.le_zero.1 h]; exact Nat.le_refl _
  | succ b ih =>
    rcases Nat.lt_or_ge a (b + 1) with q | q
    · exact Nat.le_trans (ih (by omega)) (Nat.le_add_right _ _)
    · rw [Nat.le_antisymm h q]; exact Nat.le_refl _
theorem tix_lt {ids : List FuncId} {ops : Array Oper} {a b : Nat} (ha : tnAt ids ops a = true) (h : a < b) : tixF ids ops a < tixF ids ops b := by
  have h1 : tixF ids ops (a + 1) ≤ tixF ids ops b := tix_mono h
  have h2 : tixF ids ops (a + 1) = tixF ids ops a + 1 := by simp [tixF, ha]
  omega
theorem tix_inj {ids : List FuncId} {ops : Array Oper} {a b : Nat} (ha : tnAt ids ops a = true) (hb : tnAt ids ops b = true) (h : tixF ids ops a = tixF ids ops b) : a = b := by
  rcases Nat.lt_trichotomy a b with q | q | q
  · have := tix_lt ha q; omega
  · exact q
  · have := tix_lt hb q; omega
theorem tix_prev {ids : List FuncId} {ops : Array Oper} : ∀ {b : Nat}, 0 < tixF ids ops b → ∃ a, a < b ∧ tnAt ids ops a = true ∧ tixF ids ops a + 1 = tixF ids ops b
  | 0, h => by simp [tixF] at h
  | b + 1, h => by
      by_cases q : tnAt ids ops b = true
      · exact ⟨b, by omega, q, by simp [tixF, q]⟩
      · have e : tixF ids ops (b + 1) = tixF ids ops b := by simp [tixF, q]
        rw [e] at h ⊢
        obtain ⟨a, h1, h2, h3⟩ := tix_prev (b := b) h
        exact ⟨a, by omega, h2, h3⟩
theorem anc_listed {ops : Array Oper} {listed : Array Bool} (hC : Closed ops listed) {p : Nat} : ∀ (f t : Nat) (o : Oper), ops[t]? = some o → (∀ e ∈ o.after, Region.binds .any e = true → listed.getD e.on false = true) → ancB ops f p t = true → listed.getD p false = true
  | 0, _, _, _, _, h => by simp [ancB] at h
  | f + 1, t, o, ho, hall, h => by
      simp only [ancB, ho, Array.any_eq_true, Bool.and_eq_true, Bool.or_eq_true, beq_iff_eq] at h
      obtain ⟨i, hi, hb, h | h⟩ := h
      · have := hall _ (Array.getElem_mem hi) hb
        rw [h] at this
        exact this
      · have hl := hall _ (Array.getElem_mem hi) hb
        cases hq : ops[(o.after[i]'hi).on]? with
        | none =>
          cases f with
          | zero => simp [ancB] at h
          | succ f => simp [ancB, hq] at h
        | some o2 => exact anc_listed hC f _ o2 hq (hC _ o2 hq hl) h
/-- Just the first k of those that turn the store are listed. -/
structure Cnt (ids : List FuncId) (ops : Array Oper) (listed : Array Bool) (k : Nat) : Prop where
  size : listed.size = ops.size
  low : ∀ p, tnAt ids ops p = true → tixF ids ops p < k → listed.getD p false = true
  high : ∀ p, tnAt ids ops p = true → listed.getD p false = true → tixF ids ops p < k
theorem tnAt_some {ids : List FuncId} {ops : Array Oper} {p : Nat} {o : Oper} (h : ops[p]? = some o) : tnAt ids ops p = tnI ids o.op := by simp only [tnAt, h]
theorem unl2 {listed : Array Bool} {q : Nat} (h0 : listed.getD q true = false) (h1 : listed.getD q false = true) : False := by
  rcases Nat.lt_or_ge q listed.size with h' | h'
  · simp [h'] at h0 h1; rw [h0] at h1; cases h1
  · simp [Array.getElem?_eq_none h'] at h1
theorem Cnt.at {ids : List FuncId} {ops : Array Oper} {listed : Array Bool} {k j : Nat} {b : Oper} (h : Cnt ids ops listed k) (hT : turnsC ids ops = true) (hC : Closed ops listed) (hj : ops[j]? = some b) (hb : tnI ids b.op = true) (hr : j ∈ Region.ready .any ops listed) : tixF ids ops j = k := by
  obtain ⟨h1, o, ho, hall⟩ := mem_ready.1 hr
  rw [hj] at ho; cases ho
  have hbj : tnAt ids ops j = true := by rw [tnAt_some hj]; exact hb
  have a1 : k ≤ tixF ids ops j := by
    rcases Nat.lt_or_ge (tixF ids ops j) k with q | q
    · exact (unl2 h1 (h.low j hbj q)).elim
    · exact q
  rcases Nat.eq_or_lt_of_le a1 with q | q
  · exact q.symm
  · obtain ⟨a, b1, b2, b3⟩ := tix_prev (b := j) (ids := ids) (ops := ops) (by omega)
    cases ha : ops[a]? with
    | none => simp [tnAt, ha] at b2
    | some oa =>
      have := turnsC_listed hT hC j j a oa b (Nat.le_refl _) hj hb hall b1 ha (by rw [← tnAt_some ha]; exact b2)
      have := h.high a b2 this
      omega
theorem Cnt.next {ids : List FuncId} {ops : Array Oper} {listed : Array Bool} {k j : Nat} {b : Oper} (h : Cnt ids ops listed k) (hT : turnsC ids ops = true) (hC : Closed ops listed) (hj : ops[j]? = some b) (hr : j ∈ Region.ready .any ops listed) : Cnt ids ops (listed.setIfInBounds j true) (k + if tnI ids b.op = true then 1 else 0) := by
  have hlt : j < listed.size := by rw [h.size]; exact (Array.getElem?_eq_some_iff.1 hj).1
  have hset : (listed.setIfInBounds j true).getD j false = true := by
    simp [Array.getD_eq_getD_getElem?, Array.getElem?_setIfInBounds, hlt]
  have hoth : ∀ p, p ≠ j → (listed.setIfInBounds j true).getD p false = listed.getD p false := fun p hp => by
    simp only [Array.getD_eq_getD_getElem?, Array.getElem?_setIfInBounds, if_neg (Ne.symm hp)]
  by_cases hb : tnI ids b.op = true
  · have hk := h.at hT hC hj hb hr
    have hbj : tnAt ids ops j = true := by rw [tnAt_some hj]; exact hb
    rw [if_pos hb]
    refine ⟨by simpa using h.size, fun p hp hq => ?_, fun p hp hq => ?_⟩
    · by_cases e : p = j
      · subst e; exact hset
      · rw [hoth p e]
        refine h.low p hp ?_
        rcases Nat.lt_or_ge (tixF ids ops p) k with q | q
        · exact q
        · exact absurd (tix_inj hp hbj (by omega)) e
    · by_cases e : p = j
      · subst e; omega
      · rw [hoth p e] at hq
        have := h.high p hp hq
        omega
  · rw [if_neg hb]
    have hbj : tnAt ids ops j ≠ true := by rw [tnAt_some hj]; exact hb
    refine ⟨by simpa using h.size, fun p hp hq => ?_, fun p hp hq => ?_⟩
    · rw [hoth p (fun e => hbj (e ▸ hp))]; exact h.low p hp hq
    · rw [hoth p (fun e => hbj (e ▸ hp))] at hq; exact h.high p hp hq
theorem Cnt.up {ids : List FuncId} {up : List Nat} {ops : Array Oper} {listed : Array Bool} {k i j : Nat} {a b : Oper} (hU : upsB ids up ops = true) (hF : fewB ids ops = true) (h : Cnt ids ops listed k) (hT : turnsC ids ops = true) (hC : Closed ops listed) (hi : ops[i]? = some a) (ha : ¬ tnI ids a.op = true) (hiun : listed.getD i true = false) (hj : ops[j]? = some b) (hb : tnI ids b.op = true) (hr : j ∈ Region.ready .any ops listed) : k + 1 ≤ upF up i := by
  have hk := h.at hT hC hj hb hr
  have hbj : tnAt ids ops j = true := by rw [tnAt_some hj]; exact hb
  have hjs := (Array.getElem?_eq_some_iff.1 hj).1
  unfold upsB at hU
  rw [List.all_eq_true] at hU
  have h1 := hU i (by simpa using (Array.getElem?_eq_some_iff.1 hi).1)
  simp only [Bool.or_eq_true, decide_eq_true_eq, List.all_eq_true, List.mem_range, Bool.not_eq_true'] at h1
  rcases h1 with (h1 | h1) | h1
  · have := tix_lt hbj hjs
    unfold fewB at hF
    have := of_decide_eq_true hF
    omega
  · rw [tnAt_some hi] at h1; exact absurd h1 ha
  · rcases h1 j hjs with (h2 | h2) | h2
    · rw [hbj] at h2; cases h2
    · omega
    · obtain ⟨_, o, ho, hall⟩ := mem_ready.1 hr
      exact (unl2 hiun (anc_listed hC _ j o ho hall h2)).elim
/-- A step at place k of the row of stores. -/
def StepU (ids : List FuncId) (lv up : List Nat) (i : Nat) (P : Program) (ops : Array Oper) (sts : Nat → Store) (m : Nat) (o : Oper) (s : Slots) (k : Nat) (d : DV) (k' : Nat) : Prop :=
  if tnI ids o.op = true then Stp P ops o s (sts k) d (sts k') ∧ k' = k + 1 ∧ k < m else (∀ q, lvF lv i ≤ q → q ≤ upF up i → q ≤ m → Stp P ops o s (sts q) d (sts q)) ∧ k' = k ∧ lvF lv i ≤ k ∧ k ≤ upF up i
theorem StepU.put {ids : List FuncId} {lv up : List Nat} {i : Nat} {P : Program} {ops : Array Oper} {sts : Nat → Store} {m : Nat} {o : Oper} {s : Slots} {k k' : Nat} {d e : DV} {dst : Option Nat} (hap : ∀ t, dst = some t → t ∉ o.looksAt ops) : StepU ids lv up i P ops sts m o (putS dst e s) k d k' ↔ StepU ids lv up i P ops sts m o s k d k' := by
  unfold StepU
  simp only [Stp.put hap]
def anyU (ids : List FuncId) (lv up : List Nat) (P : Program) (N : Nat) (ops : Array Oper) (sts : Nat → Store) (m : Nat) (Q : Slots → Prop) : Nat → Array Bool → Slots → Nat → Prop
  | 0, listed, s, k => Region.ready .any ops listed = [] ∧ k = m ∧ Q s
  | fuel + 1, listed, s, k => (Region.ready .any ops listed = [] → k = m ∧ Q s) ∧
      ∀ i ∈ Region.ready .any ops listed, ∀ o, ops[i]? = some o → ∃ d k', StepU ids lv up i P ops sts m o s k d k' ∧ dstOk N o.dst ∧ anyU ids lv up P N ops sts m Q fuel (listed.setIfInBounds i true) (putS o.dst d s) k'
theorem anyD_of_U {ids : List FuncId} {lv up : List Nat} {P : Program} {N : Nat} {ops : Array Oper} {sts : Nat → Store} {m : Nat} {Q : Slots → Store → Prop} : ∀ (fuel : Nat) (listed : Array Bool) (s : Slots) (k : Nat), k ≤ m → anyU ids lv up P N ops sts m (fun s => Q s (sts m)) fuel listed s k → anyD P N ops Q fuel listed s (sts k)
  | 0, _, _, k, _, ⟨h1, h2, h3⟩ => ⟨h1, by subst h2; exact h3⟩
  | fuel + 1, listed, s, k, hm, h => by
      refine ⟨fun h0 => by obtain ⟨h2, h3⟩ := h.1 h0; subst h2; exact h3, fun i hi => ?_⟩
      obtain ⟨o, ho⟩ := ready_some hi
      obtain ⟨d, k', hs, hd, hK⟩ := h.2 i hi o ho
      rw [ho]
      have key : k' ≤ m ∧ Stp P ops o s (sts k) d (sts k') := by
        unfold StepU at hs
        split at hs
        · exact ⟨by omega, hs.1⟩
        · obtain ⟨h1, rfl, hle, hup⟩ := hs
          exact ⟨hm, h1 _ hle hup hm⟩
      have ih := anyD_of_U fuel _ _ k' key.1 hK
      rcases key.2 with ⟨hw, hy⟩ | ⟨hw, rfl, hst⟩
      · simp only [stepD, hw]
        exact ⟨hd, hy _ ih⟩
      · simp only [stepD, hw]
        rw [hst] at ih
        exact ⟨hd, ih⟩
theorem anyU_first {ids : List FuncId} {lv up : List Nat} {P : Program} {N : Nat} {ops : Array Oper} {sts : Nat → Store} {m : Nat} {Q : Slots → Prop} (hT : turnsC ids ops = true) (hLv : levelsB ids lv ops = true) (hU : upsB ids up ops = true) (hF : fewB ids ops = true) {i : Nat} {oi : Oper} {d : DV} (hi : ops[i]? = some oi) : ∀ (fuel : Nat) (listed : Array Bool) (s : Slots) (k k' : Nat),
    (∀ j oj, ops[j]? = some oj → j ≠ i → listed.getD j true = false → (∀ e ∈ oj.after, Region.binds .any e = true → e.on ≠ i) → oi.apart ops oj = true) → Below ids lv ops listed k → Cnt ids ops listed k →
    i ∈ Region.ready .any ops listed → StepU ids lv up i P ops sts m oi s k d k' → dstOk N oi.dst → anyU ids lv up P N ops sts m Q fuel (listed.setIfInBounds i true) (putS oi.dst d s) k' → anyU ids lv up P N ops sts m Q (fuel + 1) listed s k := by
  intro fuel
  induction fuel with
  | zero =>
    intro listed s k k' _ hJ hJc hr hy hd H
    refine ⟨fun h => (by rw [h] at hr; cases hr), fun j hj oj hoj => ?_⟩
    by_cases hji : j = i
    · subst hji
      rw [hi] at hoj; cases hoj
      exact ⟨d, k', hy, hd, H⟩
    · have := ready_mono hj hji
      rw [H.1] at this
      cases this
  | succ fuel ih =>
    intro listed s k k' hfree hJ hJc hr hy hd H
    refine ⟨fun h => (by rw [h] at hr; cases hr), fun j hj oj hoj => ?_⟩
    by_cases hji : j = i
    · subst hji
      rw [hi] at hoj; cases hoj
      exact ⟨d, k', hy, hd, H⟩
    · obtain ⟨dj, kj, hyj, hdj, hK⟩ := H.2 j (ready_mono hj hji) oj hoj
      obtain ⟨hjun, oj', hoj', hall⟩ := mem_ready.1 hj
      rw [hoj] at hoj'; cases hoj'
      obtain ⟨hiun, oi', hoi', halli⟩ := mem_ready.1 hr
      rw [hi] at hoi'; cases hoi'
      have unl : ∀ q, listed.getD q true = false → listed.getD q false = true → False := fun q h0 h1 => by
        rcases Nat.lt_or_ge q listed.size with h' | h'
        · simp [h'] at h0 h1; rw [h0] at h1; cases h1
        · simp [Array.getElem?_eq_none h'] at h1
      have hnot : ∀ e ∈ oj.after, Region.binds .any e = true → e.on ≠ i := fun e he hb heq => by
        have h1 := hall e he hb
        rw [heq] at h1
        exact unl i hiun h1
      have hnoti : ∀ e ∈ oi.after, Region.binds .any e = true → e.on ≠ j := fun e he hb heq => by
        have h1 := halli e he hb
        rw [heq] at h1
        exact unl j hjun h1
      have hboth : tnI ids oi.op = true → tnI ids oj.op = true → False := fun h1 h2 => by
        rcases Nat.lt_or_gt_of_ne hji with h | h
        · exact unl j hjun (turnsC_listed hT hJ.2 i i j oj oi (Nat.le_refl _) hi h1 halli h hoj h2)
        · exact unl i hiun (turnsC_listed hT hJ.2 j j i oi oj (Nat.le_refl _) hoj h2 hall h hi h1)
      obtain ⟨a1, a2, a3⟩ := Oper.apart_spec (hfree j oj hoj hji hjun hnot)
      have hfree' : ∀ k ok, ops[k]? = some ok → k ≠ i → (listed.setIfInBounds j true).getD k true = false →
          (∀ e ∈ ok.after, Region.binds .any e = true → e.on ≠ i) → oi.apart ops ok = true := fun k ok hk hki hun hno => by
        refine hfree k ok hk hki ?_ hno
        by_cases hjk : j = k
        · subst hjk; exact hjun
        · rw [getD_set_ne true hjk] at hun; exact hun
      have hyj' := (StepU.put a1).1 hyj
      have hlj := hJ.ready hLv hj
      have swap : ∃ k1, StepU ids lv up j P ops sts m oj s k dj k1 ∧ StepU ids lv up i P ops sts m oi s k1 d kj ∧ k ≤ k1 ∧ outF ids lv ops j ≤ k1 ∧ k1 = k + if tnI ids oj.op = true then 1 else 0 := by
        have hout : outF ids lv ops j = lvF lv j + if tnI ids oj.op = true then 1 else 0 := by simp only [outF, tnAt, hoj]
        rw [hout]
        unfold StepU at hy hyj' ⊢
        by_cases h1 : tnI ids oi.op = true
        · by_cases h2 : tnI ids oj.op = true
          · exact (hboth h1 h2).elim
          · rw [if_pos h1] at hy
            rw [if_neg h2] at hyj'
            obtain ⟨q1, rfl, q2, q3⟩ := hyj'
            refine ⟨k, ?_, ?_, Nat.le_refl _, ?_, ?_⟩
            · rw [if_neg h2]; exact ⟨q1, rfl, hlj, by have := hy.2.1; omega⟩
            · rw [if_pos h1]; exact hy
            · rw [if_neg h2]; exact hlj
            · rw [if_neg h2]; rfl
        · rw [if_neg h1] at hy
          obtain ⟨q1, rfl, q2, q3⟩ := hy
          by_cases h2 : tnI ids oj.op = true
          · rw [if_pos h2] at hyj'
            have hup := Cnt.up hU hF hJc hT hJ.2 hi h1 hiun hoj h2 hj
            have e := hyj'.2.1
            refine ⟨kj, ?_, ?_, by omega, ?_, ?_⟩
            · rw [if_pos h2]; exact hyj'
            · rw [if_neg h1]; exact ⟨q1, rfl, by omega, by omega⟩
            · rw [if_pos h2]; omega
            · rw [if_pos h2]; exact e
          · rw [if_neg h2] at hyj'
            have e := hyj'.2.1
            refine ⟨kj, ?_, ?_, by omega, ?_, ?_⟩
            · rw [if_neg h2]; exact hyj'
            · rw [if_neg h1]; exact ⟨q1, rfl, by omega, by omega⟩
            · rw [if_neg h2]; omega
            · rw [if_neg h2]; exact e
      obtain ⟨k1, w1, w2, w3, w4, w5⟩ := swap
      refine ⟨dj, k1, w1, hdj, ih (listed.setIfInBounds j true) _ k1 kj hfree' (hJ.next hj w3 w4) (by rw [w5]; exact hJc.next hT hJ.2 hoj hj) (ready_mono hr (Ne.symm hji)) ((StepU.put a3).2 w2) hd ?_⟩
      rw [Array.setIfInBounds_comm _ _ hji, ← putS_comm a2]
      exact hK
def lexU (ids : List FuncId) (lv up : List Nat) (P : Program) (N : Nat) (ops : Array Oper) (sts : Nat → Store) (m : Nat) (Q : Slots → Prop) : Nat → List Oper → Slots → Nat → Prop
  | _, [], s, k => k = m ∧ Q s
  | p, o :: rest, s, k => ∃ d k', StepU ids lv up p P ops sts m o s k d k' ∧ dstOk N o.dst ∧ lexU ids lv up P N ops sts m Q (p + 1) rest (putS o.dst d s) k'
theorem anyU_lex {ids : List FuncId} {lv up : List Nat} {P : Program} {N : Nat} {ops : Array Oper} {sts : Nat → Store} {m : Nat} {Q : Slots → Prop} (hT : turnsC ids ops = true) (hLv : levelsB ids lv ops = true) (hU : upsB ids up ops = true) (hF : fewB ids ops = true) : ∀ (l : List Oper) (k : Nat) (listed : Array Bool) (s : Slots) (n : Nat), (∀ j, l[j]? = ops[k + j]?) →
    Region.lexFrom .any ops l.length k listed = true → Below ids lv ops listed n → Cnt ids ops listed n → lexU ids lv up P N ops sts m Q k l s n → anyU ids lv up P N ops sts m Q l.length listed s n
  | [], _, _, _, _, _, hB, _, _, h => ⟨by simpa [Region.lexFrom] using hB, h⟩
  | o :: l, k, listed, s, n, hl, hB, hJ, hJc, h => by
    have h0 : ops[k]? = some o := by simpa using (hl 0).symm
    simp only [List.length_cons, Region.lexFrom, Bool.and_eq_true] at hB
    obtain ⟨⟨hr, hf⟩, hB'⟩ := hB
    obtain ⟨d, k', hy, hd, hK⟩ := h
    have hr' : k ∈ Region.ready .any ops listed := by simpa using hr
    have hlk := hJ.ready hLv hr'
    have hout : outF ids lv ops k = lvF lv k + if tnI ids o.op = true then 1 else 0 := by simp only [outF, tnAt, h0]
    have hkk : n ≤ k' ∧ outF ids lv ops k ≤ k' ∧ k' = n + if tnI ids o.op = true then 1 else 0 := by
      rw [hout]
      unfold StepU at hy
      split at hy
      · rename_i h2; rw [if_pos h2]; omega
      · rename_i h2; rw [if_neg h2]; omega
    have hJc' : Cnt ids ops (listed.setIfInBounds k true) k' := by rw [hkk.2.2]; exact hJc.next hT hJ.2 h0 hr'
    exact anyU_first hT hLv hU hF h0 l.length listed s n k' (Region.free_spec h0 hf) hJ hJc hr' hy hd
      (anyU_lex hT hLv hU hF l (k + 1) _ _ k' (fun j => by have := hl (j + 1); simpa [Nat.add_assoc, Nat.add_comm 1 j] using this) hB' (hJ.next hr' hkk.1 hkk.2.1) hJc' hK)
theorem wpD_U {ids : List FuncId} {lv up : List Nat} {P : Program} {N : Nat} {Q : Exit → Slots → Store → Prop} {s : Slots} {id : Nat} {l : List Oper} (sts : Nat → Store) (m : Nat) (hm : P.follows .mixedOrders = true) (hB : Region.lexB .any l.toArray = true) (hT : turnsC ids l.toArray = true) (hLv : levelsB ids lv l.toArray = true) (hU : upsB ids up l.toArray = true) (hF : fewB ids l.toArray = true)
    (h : lexU ids lv up P N l.toArray sts m (fun s' => Q .normal s' (sts m)) 0 l s 0) : wpD P N (.region id l.toArray true) Q s (sts 0) := by
  refine wpD_any hm (anyD_of_U (ids := ids) (lv := lv) (up := up) (sts := sts) (m := m) _ _ _ 0 (Nat.zero_le m) ?_)
  simp only [Region.lexB, Bool.and_eq_true] at hB
  exact anyU_lex hT hLv hU hF l 0 (Array.replicate l.length false) s 0 (by simp) (by simpa using hB.2) ⟨fun p hp => by rw [Array.getD_eq_getD_getElem?, Array.getElem?_replicate] at hp; split at hp <;> simp at hp, fun p o _ hp => by rw [Array.getD_eq_getD_getElem?, Array.getElem?_replicate] at hp; split at hp <;> simp at hp⟩ ⟨by simp, fun p _ hp => by omega, fun p _ hp => by rw [Array.getD_eq_getD_getElem?, Array.getElem?_replicate] at hp; split at hp <;> simp at hp⟩ h
def mixOneU (ids : List FuncId) (v u : Nat) (T : Unit → Tab) (A : Ar) (H : Unit → Kn) (B : Unit → KnB) (R : Unit → KnR) (o : Op) (s : SL) (st : Store) (olds : List Store) (done : DL) (X : DV → Store → List Store → DL → Prop) : Prop :=
  match tnI ids o with
  | true => (match tvV T A B o s st with
    | some (cs, d, st1) => allP cs (staysL T A H R st1 done (X d st1 (st :: olds) done))
    | none => False)
  | false => (match pvL T A H R o s st, decide (v ≤ olds.length) && decide (olds.length ≤ u) with
    | some (cs, d), true => allP cs (stoodL T A H R o s d (olds.take (olds.length - v)) (X d st olds (bif olds.length == u then done else (o, s, d) :: done)))
    | _, _ => False)
def mixNoU (ids : List FuncId) (v u : Nat) (T : Unit → Tab) (A : Ar) (H : Unit → Kn) (R : Unit → KnR) (o : Op) (st : Store) (olds : List Store) (done : DL) (X : DV → Store → List Store → DL → Prop) : Prop :=
  match tnI ids o, decide (v ≤ olds.length) && decide (olds.length ≤ u) with
  | true, _ => staysL T A H R st done (X (.d (.sc (.tuple #[]))) st (st :: olds) done)
  | false, true => X (.d (.sc (.tuple #[]))) st olds done
  | false, false => False
def mixU (ids : List FuncId) (lv up : List Nat) (T : Unit → Tab) (A : Ar) (H : Unit → Kn) (B : Unit → KnB) (R : Unit → KnR) (N : Nat) (ops : Array Oper) (Q : SL → Store → Prop) : Nat → List Oper → SL → Store → List Store → DL → Prop
  | _, [], s, st, _, _ => Q s st
  | p, o :: rest, s, st, olds, done => match dstB N o.dst, o.guard with
    | true, none => mixOneU ids (lvF lv p) (upF up p) T A H B R o.op s st olds done fun d st1 olds1 done1 => mixU ids lv up T A H B R N ops Q (p + 1) rest (putL o.dst d s) st1 olds1 done1
    | true, some (j, w) => (match slotOf ops j with
      | some k => (match getS s k with
        | .d (.sc (.bool t)) => brC t
          (fun _ => match w with
            | true => mixOneU ids (lvF lv p) (upF up p) T A H B R o.op (setS s k (.d (.sc (.bool true)))) st olds done fun d st1 olds1 done1 => mixU ids lv up T A H B R N ops Q (p + 1) rest (putL o.dst d (setS s k (.d (.sc (.bool true))))) st1 olds1 done1
            | false => mixNoU ids (lvF lv p) (upF up p) T A H R o.op st olds done fun d st1 olds1 done1 => mixU ids lv up T A H B R N ops Q (p + 1) rest (putL o.dst d (setS s k (.d (.sc (.bool true))))) st1 olds1 done1)
          (fun _ => match w with
            | false => mixOneU ids (lvF lv p) (upF up p) T A H B R o.op (setS s k (.d (.sc (.bool false)))) st olds done fun d st1 olds1 done1 => mixU ids lv up T A H B R N ops Q (p + 1) rest (putL o.dst d (setS s k (.d (.sc (.bool false))))) st1 olds1 done1
            | true => mixNoU ids (lvF lv p) (upF up p) T A H R o.op st olds done fun d st1 olds1 done1 => mixU ids lv up T A H B R N ops Q (p + 1) rest (putL o.dst d (setS s k (.d (.sc (.bool false))))) st1 olds1 done1)
        | .d (.sc (.tuple _)) => mixNoU ids (lvF lv p) (upF up p) T A H R o.op st olds done fun d st1 olds1 done1 => mixU ids lv up T A H B R N ops Q (p + 1) rest (putL o.dst d s) st1 olds1 done1
        | _ => False)
      | none => False)
    | false, _ => False
theorem rowSt_from2 (olds : List Store) (st : Store) (later : List Store) (v q : Nat) (hv : v ≤ q) (hq : q ≤ olds.length + later.length) : rowSt olds st later q ∈ olds.take (olds.length - v) ∨ rowSt olds st later q = st ∨ (rowSt olds st later q ∈ later ∧ olds.length < q) := by
  unfold rowSt
  rw [List.getD_eq_getElem?_getD]
  rcases Nat.lt_trichotomy q olds.length with h | h | h
  · left
    have e : (olds.reverse ++ st :: later)[q]? = olds[olds.length - 1 - q]? := by
      rw [List.getElem?_append_left (by simpa using h), List.getElem?_reverse h]
    rw [e, List.getElem?_eq_getElem (by omega)]
    simp only [Option.getD_some]
    rw [List.mem_take_iff_getElem]
    exact ⟨olds.length - 1 - q, by omega, rfl⟩
  · right; left
    subst h
    simp
  · right; right
    refine ⟨?_, h⟩
    rw [List.getElem?_append_right (by simp; omega)]
    simp only [List.length_reverse]
    obtain ⟨r, hr⟩ : ∃ r, q - olds.length = r + 1 := ⟨q - olds.length - 1, by omega⟩
    rw [hr, List.getElem?_cons_succ, List.getElem?_eq_getElem (by omega)]
    simp only [Option.getD_some]
    exact List.getElem_mem _
section mix
variable {P : Program} {ids : List FuncId} {lv up : List Nat} {T : Unit → Tab} (hT : TabOk P (T ())) {H : Unit → Kn} (hH : SoundK P (H ())) {B : Unit → KnB} (hB : SoundB P (B ())) {R : Unit → KnR} (hR : SoundR P (R ())) {N : Nat} {ops : Array Oper} {Q : Slots → Store → Prop}
def MixOkU (P : Program) (ids : List FuncId) (lv up : List Nat) (N : Nat) (ops : Array Oper) (Q : Slots → Store → Prop) (p : Nat) (l : List Oper) (s : Slots) (st : Store) (olds : List Store) (done : DL) : Prop :=
  ∃ later : List Store, lexU ids lv up P N ops (rowSt olds st later) (olds.length + later.length) (fun s' => Q s' (rowSt olds st later (olds.length + later.length))) p l s olds.length ∧ ∀ p ∈ done, ∀ st' ∈ later, ∀ K : DV → Store → Prop, K p.2.2 st' → opD P p.1 (getS p.2.1) st' K
include hT hH hB hR
theorem mixOneU_ok {o : Oper} {rest : List Oper} {p : Nat} {s0 : Slots} {s : SL} (hs : getS s = s0) {st : Store} {olds : List Store} {done : DL} (hd : dstOk N o.dst) (hw : wantedD ops o.guard s0 = some true) {X : DV → Store → List Store → DL → Prop}
    (h : mixOneU ids (lvF lv p) (upF up p) T A0 H B R o.op s st olds done X) (ih : ∀ d st1 olds1 done1, X d st1 olds1 done1 → MixOkU P ids lv up N ops Q (p + 1) rest (putS o.dst d s0) st1 olds1 done1) : MixOkU P ids lv up N ops Q p (o :: rest) s0 st olds done := by
  subst hs
  unfold mixOneU at h
  split at h
  · rename_i ht
    split at h
    · rename_i cs d st1 hv
      rw [allP_iff] at h
      obtain ⟨hc, h⟩ := h
      obtain ⟨h2, h3⟩ := staysL_ok hT hH hR _ h
      obtain ⟨later, g1, g2⟩ := ih _ _ _ _ h3
      have hl : olds.length + (st1 :: later).length = (st :: olds).length + later.length := by simp; omega
      refine ⟨st1 :: later, ⟨d, olds.length + 1, ?_, hd, ?_⟩, ?_⟩
      · unfold StepU
        rw [if_pos ht]
        refine ⟨?_, rfl, by simp⟩
        rw [rowSt_at, rowSt_next, show olds.length + 1 = (st :: olds).length from rfl, rowSt_at]
        exact .inl ⟨hw, fun K hK => tvV_D hT hB hv hc hK⟩
      · rw [rowSt_next, hl]
        exact g1
      · intro p hp st' hst'
        rcases List.mem_cons.1 hst' with rfl | hst'
        · exact h2 p hp
        · exact g2 p hp st' hst'
    · exact h.elim
  · rename_i ht
    split at h
    · rename_i cs d hv hle
      rw [allP_iff] at h
      obtain ⟨hc, h⟩ := h
      obtain ⟨h2, h3⟩ := stoodL_ok hT hH hR _ h
      obtain ⟨later, g1, g2⟩ := ih _ _ _ _ h3
      simp only [Bool.and_eq_true, decide_eq_true_eq] at hle
      refine ⟨later, ⟨d, olds.length, ?_, hd, g1⟩, fun p hp => g2 p (by cases (olds.length == upF up _) <;> simp [hp])⟩
      unfold StepU
      rw [if_neg (by simp [ht])]
      refine ⟨fun q hq0 hq1 hq => .inl ⟨hw, ?_⟩, rfl, hle.1, hle.2⟩
      rcases rowSt_from2 olds st later _ q hq0 hq with e | e | ⟨e, e2⟩
      · exact h2 _ e
      · rw [e]; exact fun K hK => pvL_D hT hH hR hv hc hK
      · refine g2 (o.op, s, d) ?_ _ e
        rw [show (olds.length == upF up p) = false by rw [beq_eq_false_iff_ne]; omega]
        exact List.mem_cons_self ..
    · exact h.elim
omit hB in
theorem mixNoU_ok {o : Oper} {rest : List Oper} {p : Nat} {s : Slots} {st : Store} {olds : List Store} {done : DL} (hd : dstOk N o.dst) (hw : wantedD ops o.guard s = some false) {X : DV → Store → List Store → DL → Prop}
    (h : mixNoU ids (lvF lv p) (upF up p) T A0 H R o.op st olds done X) (ih : ∀ d st1 olds1 done1, X d st1 olds1 done1 → MixOkU P ids lv up N ops Q (p + 1) rest (putS o.dst d s) st1 olds1 done1) : MixOkU P ids lv up N ops Q p (o :: rest) s st olds done := by
  unfold mixNoU at h
  split at h
  · rename_i ht
    obtain ⟨h2, h3⟩ := staysL_ok hT hH hR _ h
    obtain ⟨later, g1, g2⟩ := ih _ _ _ _ h3
    have hl : olds.length + (st :: later).length = (st :: olds).length + later.length := by simp; omega
    refine ⟨st :: later, ⟨.d (.sc (.tuple #[])), olds.length + 1, ?_, hd, ?_⟩, ?_⟩
    · unfold StepU
      rw [if_pos ht]
      refine ⟨.inr ⟨hw, rfl, ?_⟩, rfl, by simp⟩
      rw [rowSt_at, rowSt_next, show olds.length + 1 = (st :: olds).length from rfl, rowSt_at]
    · rw [rowSt_next, hl]
      exact g1
    · intro p hp st' hst'
      rcases List.mem_cons.1 hst' with rfl | hst'
      · exact h2 p hp
      · exact g2 p hp st' hst'
  · rename_i ht hle
    obtain ⟨later, g1, g2⟩ := ih _ _ _ _ h
    refine ⟨later, ⟨.d (.sc (.tuple #[])), olds.length, ?_, hd, g1⟩, g2⟩
    unfold StepU
    rw [if_neg (by simp [ht])]
    simp only [Bool.and_eq_true, decide_eq_true_eq] at hle
    exact ⟨fun q _ _ hq => .inr ⟨hw, rfl, rfl⟩, rfl, hle.1, hle.2⟩
  · exact h.elim
theorem mixU_ok {Q : SL → Store → Prop} : ∀ (l : List Oper) (p : Nat) (s : SL) (st : Store) (olds : List Store) (done : DL), mixU ids lv up T A0 H B R N ops Q p l s st olds done → MixOkU P ids lv up N ops (fun s' st' => ∃ l, getS l = s' ∧ Q l st') p l (getS s) st olds done
  | [], p, s, st, olds, done, h => ⟨[], ⟨rfl, by rw [show olds.length + ([] : List Store).length = olds.length from rfl, rowSt_at]; exact ⟨s, rfl, h⟩⟩, fun _ _ _ h => by cases h⟩
  | o :: rest, p, s, st, olds, done, h => by
      have next : ∀ s2 : SL, getS s2 = getS s → ∀ (d : DV) (st1 : Store) (olds1 : List Store) (done1 : DL), mixU ids lv up T A0 H B R N ops Q (p + 1) rest (putL o.dst d s2) st1 olds1 done1 → MixOkU P ids lv up N ops (fun s' st' => ∃ l, getS l = s' ∧ Q l st') (p + 1) rest (putS o.dst d (getS s)) st1 olds1 done1 := fun s2 h2 d st1 olds1 done1 hq => by
        have := mixU_ok rest _ _ _ _ _ hq
        rw [getS_putL, h2] at this
        exact this
      unfold mixU at h
      split at h
      · rename_i hd hg
        exact mixOneU_ok hT hH hB hR rfl (dstB_ok hd) (by rw [hg]; rfl) h (next s rfl)
      · rename_i j w hd hg
        split at h
        · rename_i k hk
          split at h
          · rename_i t ht
            have hs : ∀ b, b = t → getS (setS s k (.d (.sc (.bool b)))) = getS s := fun b e => getS_same (by rw [e]; exact ht)
            cases t <;> cases w <;> simp only [brC] at h
            · exact mixOneU_ok hT hH hB hR (hs _ rfl) (dstB_ok hd) (by rw [hg]; simp only [wantedD, hk, ht, BEq.rfl]) h (next _ (hs _ rfl))
            · exact mixNoU_ok hT hH hR (dstB_ok hd) (by rw [hg]; simp only [wantedD, hk, ht]; rfl) h (next _ (hs _ rfl))
            · exact mixNoU_ok hT hH hR (dstB_ok hd) (by rw [hg]; simp only [wantedD, hk, ht]; rfl) h (next _ (hs _ rfl))
            · exact mixOneU_ok hT hH hB hR (hs _ rfl) (dstB_ok hd) (by rw [hg]; simp only [wantedD, hk, ht, BEq.rfl]) h (next _ (hs _ rfl))
          · rename_i vs ht
            exact mixNoU_ok hT hH hR (dstB_ok hd) (by rw [hg]; simp only [wantedD, hk, ht]) h (next s rfl)
          · exact h.elim
        · exact h.elim
      · exact h.elim
end mix
/-- A region in any order that calls functions that turn boxes and others that read them. -/
theorem regionU (ids : List FuncId) (lv up : List Nat) {P : Program} {T : Unit → Tab} (hT : TabOk P (T ())) {H : Unit → Kn} (hH : SoundK P (H ())) {B : Unit → KnB} (hB : SoundB P (B ())) {R : Unit → KnR} (hR : SoundR P (R ())) (hm : P.follows .mixedOrders = true) {N : Nat} {Q : Exit → SL → Store → Prop} {s : SL} {st : Store} {id : Nat} {ops : Array Oper} {A : Ar} {X : Cps} (hA : A = A0) (hX : X = X0 P N)
    (hl : Region.lexB .any ops = true) (ht : turnsC ids ops = true) (hv : levelsB ids lv ops = true) (hu : upsB ids up ops = true) (hf : fewB ids ops = true) (h : mixU ids lv up T A H B R N ops (Q .normal) 0 ops.toList s st [] []) : X.st (.region id ops true) Q s st := by
  subst hA; subst hX
  obtain ⟨l⟩ := ops
  show wpD P N (.region id l.toArray true) (lessQ Q) (getS s) st
  obtain ⟨later, h1, _⟩ := mixU_ok hT hH hB hR l 0 s st [] [] h
  refine wpD_mono (wpD_U (ids := ids) (lv := lv) (up := up) (id := id) (Q := fun e s' st' => e = .normal ∧ ∃ l, getS l = s' ∧ Q .normal l st') (rowSt [] st later) (0 + later.length) hm hl ht hv hu hf ?_) ?_
  · simpa using h1
  · rintro e s' st' ⟨rfl, l, rfl, hq⟩
    exact ⟨l, fun _ => .inl rfl, hq⟩
end Go.Proofs.Ytmjmbfcfnhnpmaa
