/- The program logic, forty-fifth part: regions in any order, where an operation may lie behind one that turns the store, or ahead of one (levels from below and from above). No condition: lemmas of any program. -/
import Derived.Test.YtbhapclaochcnaaAm44
namespace Go.Proofs.Ytbhapclaochcnaa
open Go.RowKit
set_option linter.all false
def upF (up : List Nat) (p : Nat) : Nat := up.getD p 50
/-- How many operations that turn the store stand ahead. -/
def tixF (ids : List FuncId) (ops : Array Oper) : Nat → Nat
  | 0 => 0
  | p + 1 => tixF ids ops p + if tnAt ids ops p = true then 1 else 0
/-- Is p ahead of t by edges? -/
def ancB (ops : Array Oper) : Nat → Nat → Nat → Bool
  | 0, _, _ => false
  | f + 1, p, t => match ops[t]? with
    | some o => o.after.any fun e => Region.binds .any e && (e.on == p || ancB ops f p e.on)
    | none => false
def upsB (ids : List FuncId) (up : List Nat) (ops : Array Oper) : Bool := (List.range ops.size).all fun p => decide (50 ≤ upF up p) || tnAt ids ops p || (List.range ops.size).all fun t => !tnAt ids ops t || decide (tixF ids ops t < upF up p) || ancB ops ops.size p t
def fewB (ids : List FuncId) (ops : Array Oper) : Bool := decide (tixF ids ops ops.size ≤ 50)
theorem tix_mono {ids : List FuncId} {ops : Array Oper} {a b : Nat} (h : a ≤ b) : tixF ids ops a ≤ tixF ids ops b := by
  induction b with
  | zero => rw [Nat.le_zero.1 h]; exact Nat.le_refl _
  | succ b ih =>
    rcases Nat.lt_or_ge a (b + 1) with q | q
    · exact Nat.le_trans (ih (by omega)) (Nat.le_add_right _ _)
    · rw [Nat.le_antisymm h q]; exact Nat.le_refl _
theorem tix_lt {ids : List FuncId} {ops : Array Oper} {a b : Nat} (ha : tnAt ids ops a = true) (h : a < b) : tixF ids ops a < tixF ids ops b := by
  have h1 : tixF ids ops (a + 1) ≤ tixF ids ops b := tix_mono h
  have h2 : tixF ids ops (a + 1) = tixF ids ops a + 1 := by simp [tixF, ha]
  omega
theorem tix_inj {ids : List FuncId} {ops : Array Oper} {a b : Nat} (ha : tnAt ids ops a = true) (hb : tnAt ids ops b = true) (h : tixF ids ops a = tixF ids ops b) : a = b := by
  rcases Nat.lt_trichotomy a b with q | q | q
  · have := tix_lt ha q; omega
  · exact q
  · have := tix_lt hb q; omega
theorem tix_prev {ids : List FuncId} {ops : Array Oper} : ∀ {b : Nat}, 0 < tixF ids ops b → ∃ a, a < b ∧ tnAt ids ops a = true ∧ tixF ids ops a + 1 = tixF ids ops b
  | 0, h => by simp [tixF] at h
  | b + 1, h => by
      by_cases q : tnAt ids ops b = true
      · exact ⟨b, by omega, q, by simp [tixF, q]⟩
      · have e : tixF ids ops (b + 1) = tixF ids ops b := by simp [tixF, q]
        rw [e] at h ⊢
        obtain ⟨a, h1, h2, h3⟩ := tix_prev (b := b) h
        exact ⟨a, by omega, h2, h3⟩
theorem anc_listed {ops : Array Oper} {listed : Array Bool} (hC : Closed ops listed) {p : Nat} : ∀ (f t : Nat) (o : Oper), ops[t]? = some o → (∀ e ∈ o.after, Region.binds .any e = true → listed.getD e.on false = true) → ancB ops f p t = true → listed.getD p false = true
  | 0, _, _, _, _, h => by simp [ancB] at h
  | f + 1, t, o, ho, hall, h => by
      simp only [ancB, ho, Array.any_eq_true, Bool.and_eq_true, Bool.or_eq_true, beq_iff_eq] at h
      obtain ⟨i, hi, hb, h | h⟩ := h
      · have := hall _ (Array.getElem_mem hi) hb
        rw [h] at this
        exact this
      · have hl := hall _ (Array.getElem_mem hi) hb
        cases hq : ops[(o.after[i]'hi).on]? with
        | none =>
          cases f with
          | zero => simp [ancB] at h
          | succ f => simp [ancB, hq] at h
        | some o2 => exact anc_listed hC f _ o2 hq (hC _ o2 hq hl) h
/-- Just the first k of those that turn the store are listed. -/
structure Cnt (ids : List FuncId) (ops : Array Oper) (listed : Array Bool) (k : Nat) : Prop where
  size : listed.size = ops.size
  low : ∀ p, tnAt ids ops p = true → tixF ids ops p < k → listed.getD p false = true
  high : ∀ p, tnAt ids ops p = true → listed.getD p false = true → tixF ids ops p < k
theorem tnAt_some {ids : List FuncId} {ops : Array Oper} {p : Nat} {o : Oper} (h : ops[p]? = some o) : tnAt ids ops p = tnI ids o.op := by simp only [tnAt, h]
theorem unl2 {listed : Array Bool} {q : Nat} (h0 : listed.getD q true = false) (h1 : listed.getD q false = true) : False := by
  rcases Nat.lt_or_ge q listed.size with h' | h'
  · simp [h'] at h0 h1; rw [h0] at h1; cases h1
  · simp [Array.getElem?_eq_none h'] at h1
theorem Cnt.at {ids : List FuncId} {ops : Array Oper} {listed : Array Bool} {k j : Nat} {b : Oper} (h : Cnt ids ops listed k) (hT : turnsC ids ops = true) (hC : Closed ops listed) (hj : ops[j]? = some b) (hb : tnI ids b.op = true) (hr : j ∈ Region.ready .any ops listed) : tixF ids ops j = k := by
  obtain ⟨h1, o, ho, hall⟩ := mem_ready.1 hr
  rw [hj] at ho; cases ho
  have hbj : tnAt ids ops j = true := by rw [tnAt_some hj]; exact hb
  have a1 : k ≤ tixF ids ops j := by
    rcases Nat.lt_or_ge (tixF ids ops j) k with q | q
    · exact (unl2 h1 (h.low j hbj q)).elim
    · exact q
  rcases Nat.eq_or_lt_of_le a1 with q | q
  · exact q.symm
  · obtain ⟨a, b1, b2, b3⟩ := tix_prev (b := j) (ids := ids) (ops := ops) (by omega)
    cases ha : ops[a]? with
    | none => simp [tnAt, ha] at b2
    | some oa =>
      have := turnsC_listed hT hC j j a oa b (Nat.le_refl _) hj hb hall b1 ha (by rw [← tnAt_some ha]; exact b2)
      have := h.high a b2 this
      omega
theorem Cnt.next {ids : List FuncId} {ops : Array Oper} {listed : Array Bool} {k j : Nat} {b : Oper} (h : Cnt ids ops listed k) (hT : turnsC ids ops = true) (hC : Closed ops listed) (hj : ops[j]? = some b) (hr : j ∈ Region.ready .any ops listed) : Cnt ids ops (listed.setIfInBounds j true) (k + if tnI ids b.op = true then 1 else 0) := by
  have hlt : j < listed.size := by rw [h.size]; exact (Array.getElem?_eq_some_iff.1 hj).1
  have hset : (listed.setIfInBounds j true).getD j false = true := by
    simp [Array.getD_eq_getD_getElem?, Array.getElem?_setIfInBounds, hlt]
  have hoth : ∀ p, p ≠ j → (listed.setIfInBounds j true).getD p false = listed.getD p false := fun p hp => by
    simp only [Array.getD_eq_getD_getElem?, Array.getElem?_setIfInBounds, if_neg (Ne.symm hp)]
  by_cases hb : tnI ids b.op = true
  · have hk := h.at hT hC hj hb hr
    have hbj : tnAt ids ops j = true := by rw [tnAt_some hj]; exact hb
    rw [if_pos hb]
    refine ⟨by simpa using h.size, fun p hp hq => ?_, fun p hp hq => ?_⟩
    · by_cases e : p = j
      · subst e; exact hset
      · rw [hoth p e]
        refine h.low p hp ?_
        rcases Nat.lt_or_ge (tixF ids ops p) k with q | q
        · exact q
        · exact absurd (tix_inj hp hbj (by omega)) e
    · by_cases e : p = j
      · subst e; omega
      · rw [hoth p e] at hq
        have := h.high p hp hq
        omega
  · rw [if_neg hb]
    have hbj : tnAt ids ops j ≠ true := by rw [tnAt_some hj]; exact hb
    refine ⟨by simpa using h.size, fun p hp hq => ?_, fun p hp hq => ?_⟩
    · rw [hoth p (fun e => hbj (e ▸ hp))]; exact h.low p hp hq
    · rw [hoth p (fun e => hbj (e ▸ hp))] at hq; exact h.high p hp hq
theorem Cnt.up {ids : List FuncId} {up : List Nat} {ops : Array Oper} {listed : Array Bool} {k i j : Nat} {a b : Oper} (hU : upsB ids up ops = true) (hF : fewB ids ops = true) (h : Cnt ids ops listed k) (hT : turnsC ids ops = true) (hC : Closed ops listed) (hi : ops[i]? = some a) (ha : ¬ tnI ids a.op = true) (hiun : listed.getD i true = false) (hj : ops[j]? = some b) (hb : tnI ids b.op = true) (hr : j ∈ Region.ready .any ops listed) : k + 1 ≤ upF up i := by
  have hk := h.at hT hC hj hb hr
  have hbj : tnAt ids ops j = true := by rw [tnAt_some hj]; exact hb
  have hjs := (Array.getElem?_eq_some_iff.1 hj).1
  unfold upsB at hU
  rw [List.all_eq_true] at hU
  have h1 := hU i (by simpa using (Array.getElem?_eq_some_iff.1 hi).1)
  simp only [Bool.or_eq_true, decide_eq_true_eq, List.all_eq_true, List.mem_range, Bool.not_eq_true'] at h1
  rcases h1 with (h1 | h1) | h1
  · have := tix_lt hbj hjs
    unfold fewB at hF
    have := of_decide_eq_true hF
    omega
  · rw [tnAt_some hi] at h1; exact absurd h1 ha
  · rcases h1 j hjs with (h2 | h2) | h2
    · rw [hbj] at h2; cases h2
    · omega
    · obtain ⟨_, o, ho, hall⟩ := mem_ready.1 hr
      exact (unl2 hiun (anc_listed hC _ j o ho hall h2)).elim
/-- A step at place k of the row of stores. -/
def StepU (ids : List FuncId) (lv up : List Nat) (i : Nat) (P : Program) (ops : Array Oper) (sts : Nat → Store) (m : Nat) (o : Oper) (s : Slots) (k : Nat) (d : DV) (k' : Nat) : Prop :=
  if tnI ids o.op = true then Stp P ops o s (sts k) d (sts k') ∧ k' = k + 1 ∧ k < m else (∀ q, lvF lv i ≤ q → q ≤ upF up i → q ≤ m → Stp P ops o s (sts q) d (sts q)) ∧ k' = k ∧ lvF lv i ≤ k ∧ k ≤ upF up i
theorem StepU.put {ids : List FuncId} {lv up : List Nat} {i : Nat} {P : Program} {ops : Array Oper} {sts : Nat → Store} {m : Nat} {o : Oper} {s : Slots} {k k' : Nat} {d e : DV} {dst : Option Nat} (hap : ∀ t, dst = some t → t ∉ o.looksAt ops) : StepU ids lv up i P ops sts m o (putS dst e s) k d k' ↔ StepU ids lv up i P ops sts m o s k d k' := by
  unfold StepU
  simp only [Stp.put hap]
section mix
variable {P : Program} {ids : List FuncId} {lv up : List Nat} {T : Unit → Tab} (hT : TabOk P (T ())) {H : Unit → Kn} (hH : SoundK P (H ())) {B : Unit → KnB} (hB : SoundB P (B ())) {R : Unit → KnR} (hR : SoundR P (R ())) {N : Nat} {ops : Array Oper} {Q : Slots → Store → Prop}
include hT hH hB hR
end mix
end Go.Proofs.Ytbhapclaochcnaa
