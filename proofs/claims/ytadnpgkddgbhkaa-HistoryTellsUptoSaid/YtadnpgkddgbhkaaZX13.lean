/- The program logic, thirty-fourth part: regions in any order, where an operation may lie behind one that turns the store. No condition: lemmas of any program. -/
import Derived.Test.YtadnpgkddgbhkaaZX12
namespace Go.Proofs.Ytadnpgkddgbhkaa
open Go.RowKit
set_option linter.all false
def lvF (lv : List Nat) (p : Nat) : Nat := lv.getD p 0
def tnAt (ids : List FuncId) (ops : Array Oper) (p : Nat) : Bool := match ops[p]? with
 | some o => tnI ids o.op
 | none => false
def outF (ids : List FuncId) (lv : List Nat) (ops : Array Oper) (p : Nat) : Nat := lvF lv p + if tnAt ids ops p = true then 1 else 0
def levelsB (ids : List FuncId) (lv : List Nat) (ops : Array Oper) : Bool := (List.range ops.size).all fun p => match ops[p]? with
 | some o => lvF lv p == 0 || o.after.any fun e => Region.binds .any e && decide (lvF lv p ≤ outF ids lv ops e.on)
 | none => true
theorem levelsB_spec {ids : List FuncId} {lv : List Nat} {ops : Array Oper} (h : levelsB ids lv ops = true) {p : Nat} {o : Oper} (hp : ops[p]? = some o) : lvF lv p = 0 ∨ ∃ e ∈ o.after, Region.binds .any e = true ∧ lvF lv p ≤ outF ids lv ops e.on := by
 unfold levelsB at h
 rw [List.all_eq_true] at h
 have hps : p < ops.size := by
  rcases Nat.lt_or_ge p ops.size with h' | h'
  ·exact h'
  ·rw [Array.getElem?_eq_none h'] at hp; cases hp
 have h1 := h p (by simpa using hps)
 rw [hp] at h1
 simp only [Bool.or_eq_true, beq_iff_eq, Array.any_eq_true, Bool.and_eq_true, decide_eq_true_eq] at h1
 rcases h1 with h1 | ⟨q, hq, h3, h4⟩
 ·exact .inl h1
 ·exact .inr ⟨_, Array.getElem_mem hq, h3, h4⟩
def Closed (ops : Array Oper) (listed : Array Bool) : Prop := ∀ (p : Nat) (o : Oper), ops[p]? = some o → listed.getD p false = true → ∀ e ∈ o.after, Region.binds .any e = true → listed.getD e.on false = true
theorem getD_set {listed : Array Bool} {p i : Nat} (h : listed.getD p false = true) : (listed.setIfInBounds i true).getD p false = true := by
 simp only [Array.getD_eq_getD_getElem?, Array.getElem?_setIfInBounds] at h ⊢
 split
 ·rename_i e
  subst e
  split
  ·rfl
  ·rename_i hs
   rw [Array.getElem?_eq_none (by omega)] at h
   cases h
 ·exact h
theorem Closed.next {ops : Array Oper} {listed : Array Bool} {i : Nat} (h : Closed ops listed) (hr : i ∈ Region.ready .any ops listed) : Closed ops (listed.setIfInBounds i true) := by
 intro p o hp hl e he hb
 refine getD_set ?_
 by_cases hpi : p = i
 ·subst hpi
  obtain ⟨_, o', ho', hall⟩ := mem_ready.1 hr
  rw [hp] at ho'; cases ho'
  exact hall e he hb
 ·refine h p o hp ?_ e he hb
  simp only [Array.getD_eq_getD_getElem?, Array.getElem?_setIfInBounds, if_neg (Ne.symm hpi)] at hl ⊢
  exact hl
def prevT (ids : List FuncId) (ops : Array Oper) : Nat → Option Nat
 | 0 => none
 | j + 1 => if tnAt ids ops j = true then some j else prevT ids ops j
theorem prevT_some {ids : List FuncId} {ops : Array Oper} : ∀ {j i : Nat}, prevT ids ops j = some i → i < j ∧ tnAt ids ops i = true ∧ ∀ k, i < k → k < j → tnAt ids ops k = false
 | 0, i, h => by cases h
 | j + 1, i, h => by
     unfold prevT at h
     split at h
     ·rename_i hj
      cases h
      exact ⟨by omega, hj, fun k h1 h2 => by omega⟩
     ·rename_i hj
      obtain ⟨h1, h2, h3⟩ := prevT_some h
      refine ⟨by omega, h2, fun k a b => ?_⟩
      by_cases e : k = j
      ·subst e; simpa using hj
      ·exact h3 k a (by omega)
theorem prevT_none {ids : List FuncId} {ops : Array Oper} : ∀ {j : Nat}, prevT ids ops j = none → ∀ k, k < j → tnAt ids ops k = false
 | 0, _, k, hk => by omega
 | j + 1, h, k, hk => by
     unfold prevT at h
     split at h
     ·cases h
     ·rename_i hj
      by_cases e : k = j
      ·subst e; simpa using hj
      ·exact prevT_none h k (by omega)
def turnsC (ids : List FuncId) (ops : Array Oper) : Bool := (List.range ops.size).all fun j => match ops[j]? with
 | some b => !tnI ids b.op || (match prevT ids ops j with
   | some i => b.after.any fun e => Region.binds .any e && e.on == i
   | none => true)
 | none => true
theorem turnsC_spec {ids : List FuncId} {ops : Array Oper} (h : turnsC ids ops = true) {i j : Nat} {b : Oper} (hj : ops[j]? = some b) (hb : tnI ids b.op = true) (hp : prevT ids ops j = some i) : ∃ e ∈ b.after, Region.binds .any e = true ∧ e.on = i := by
 unfold turnsC at h
 rw [List.all_eq_true] at h
 have hjs : j < ops.size := by
  rcases Nat.lt_or_ge j ops.size with h' | h'
  ·exact h'
  ·rw [Array.getElem?_eq_none h'] at hj; cases hj
 have h1 := h j (by simpa using hjs)
 rw [hj] at h1
 simp only [hb, hp, Bool.not_true, Bool.false_or, Array.any_eq_true, Bool.and_eq_true, beq_iff_eq] at h1
 obtain ⟨q, hq, h3, h4⟩ := h1
 exact ⟨_, Array.getElem_mem hq, h3, h4⟩
theorem turnsC_listed {ids : List FuncId} {ops : Array Oper} {listed : Array Bool} (h : turnsC ids ops = true) (hC : Closed ops listed) : ∀ (n j i : Nat) (a b : Oper), j ≤ n → ops[j]? = some b → tnI ids b.op = true → (∀ e ∈ b.after, Region.binds .any e = true → listed.getD e.on false = true) → i < j → ops[i]? = some a → tnI ids a.op = true → listed.getD i false = true
 | 0, j, i, a, b, hn, _, _, _, hij, _, _ => by omega
 | n + 1, j, i, a, b, hn, hj, hb, hall, hij, hi, ha => by
     have hai : tnAt ids ops i = true := by simp only [tnAt, hi]; exact ha
     cases hp : prevT ids ops j with
     | none => have := prevT_none hp i hij; rw [this] at hai; cases hai
     | some p =>
       obtain ⟨h1, h2, h3⟩ := prevT_some hp
       obtain ⟨e, e1, e2, rfl⟩ := turnsC_spec h hj hb hp
       have hl := hall e e1 e2
       by_cases he : i = e.on
       ·rw [he]; exact hl
       ·have hlt : i < e.on := by
         rcases Nat.lt_or_ge i e.on with q | q
         ·exact q
         ·have := h3 i (by omega) hij; rw [this] at hai; cases hai
        cases ho : ops[e.on]? with
        | none => simp only [tnAt, ho] at h2; cases h2
        | some c =>
          have hc : tnI ids c.op = true := by simpa only [tnAt, ho] using h2
          exact turnsC_listed h hC n e.on i a c (by omega) ho hc (hC e.on c ho hl) hlt hi ha
def Below (ids : List FuncId) (lv : List Nat) (ops : Array Oper) (listed : Array Bool) (k : Nat) : Prop := (∀ p, listed.getD p false = true → outF ids lv ops p ≤ k) ∧ Closed ops listed
theorem Below.ready {ids : List FuncId} {lv : List Nat} {ops : Array Oper} (hL : levelsB ids lv ops = true) {listed : Array Bool} {k i : Nat} (h : Below ids lv ops listed k) (hr : i ∈ Region.ready .any ops listed) : lvF lv i ≤ k := by
 obtain ⟨_, o, ho, hall⟩ := mem_ready.1 hr
 rcases levelsB_spec hL ho with h0 | ⟨e, he, hb, hle⟩
 ·omega
 ·exact Nat.le_trans hle (h.1 _ (hall e he hb))
theorem Below.next {ids : List FuncId} {lv : List Nat} {ops : Array Oper} {listed : Array Bool} {k k' i : Nat} (h : Below ids lv ops listed k) (hr : i ∈ Region.ready .any ops listed) (hk : k ≤ k') (hi : outF ids lv ops i ≤ k') : Below ids lv ops (listed.setIfInBounds i true) k' := ⟨fun p hp => by
 by_cases hpi : p = i
 ·subst hpi; exact hi
 ·refine Nat.le_trans (h.1 p ?_) hk
  simp only [Array.getD_eq_getD_getElem?, Array.getElem?_setIfInBounds, if_neg (Ne.symm hpi)] at hp ⊢
  exact hp, h.2.next hr⟩
def StepL (ids : List FuncId) (lv : List Nat) (i : Nat) (P : Program) (ops : Array Oper) (sts : Nat → Store) (m : Nat) (o : Oper) (s : Slots) (k : Nat) (d : DV) (k' : Nat) : Prop :=
 if tnI ids o.op = true then Stp P ops o s (sts k) d (sts k') ∧ k' = k + 1 ∧ k < m else (∀ q, lvF lv i ≤ q → q ≤ m → Stp P ops o s (sts q) d (sts q)) ∧ k' = k ∧ lvF lv i ≤ k
theorem StepL.put {ids : List FuncId} {lv : List Nat} {i : Nat} {P : Program} {ops : Array Oper} {sts : Nat → Store} {m : Nat} {o : Oper} {s : Slots} {k k' : Nat} {d e : DV} {dst : Option Nat} (hap : ∀ t, dst = some t → t ∉ o.looksAt ops) : StepL ids lv i P ops sts m o (putS dst e s) k d k' ↔ StepL ids lv i P ops sts m o s k d k' := by
 unfold StepL
 simp only [Stp.put hap]
def anyL (ids : List FuncId) (lv : List Nat) (P : Program) (N : Nat) (ops : Array Oper) (sts : Nat → Store) (m : Nat) (Q : Slots → Prop) : Nat → Array Bool → Slots → Nat → Prop
 | 0, listed, s, k => Region.ready .any ops listed = [] ∧ k = m ∧ Q s
 | fuel + 1, listed, s, k => (Region.ready .any ops listed = [] → k = m ∧ Q s) ∧
    ∀ i ∈ Region.ready .any ops listed, ∀ o, ops[i]? = some o → ∃ d k', StepL ids lv i P ops sts m o s k d k' ∧ dstOk N o.dst ∧ anyL ids lv P N ops sts m Q fuel (listed.setIfInBounds i true) (putS o.dst d s) k'
theorem anyD_of_L {ids : List FuncId} {lv : List Nat} {P : Program} {N : Nat} {ops : Array Oper} {sts : Nat → Store} {m : Nat} {Q : Slots → Store → Prop} : ∀ (fuel : Nat) (listed : Array Bool) (s : Slots) (k : Nat), k ≤ m → anyL ids lv P N ops sts m (fun s => Q s (sts m)) fuel listed s k → anyD P N ops Q fuel listed s (sts k)
 | 0, _, _, k, _, ⟨h1, h2, h3⟩ => ⟨h1, by subst h2; exact h3⟩
 | fuel + 1, listed, s, k, hm, h => by
    refine ⟨fun h0 => by obtain ⟨h2, h3⟩ := h.1 h0; subst h2; exact h3, fun i hi => ?_⟩
    obtain ⟨o, ho⟩ := ready_some hi
    obtain ⟨d, k', hs, hd, hK⟩ := h.2 i hi o ho
    rw [ho]
    have key : k' ≤ m ∧ Stp P ops o s (sts k) d (sts k') := by
     unfold StepL at hs
     split at hs
     ·exact ⟨by omega, hs.1⟩
     ·obtain ⟨h1, rfl, hle⟩ := hs
      exact ⟨hm, h1 _ hle hm⟩
    have ih := anyD_of_L fuel _ _ k' key.1 hK
    rcases key.2 with ⟨hw, hy⟩ | ⟨hw, rfl, hst⟩
    ·simp only [stepD, hw]
     exact ⟨hd, hy _ ih⟩
    ·simp only [stepD, hw]
     rw [hst] at ih
     exact ⟨hd, ih⟩
theorem anyL_first {ids : List FuncId} {lv : List Nat} {P : Program} {N : Nat} {ops : Array Oper} {sts : Nat → Store} {m : Nat} {Q : Slots → Prop} (hT : turnsC ids ops = true) (hLv : levelsB ids lv ops = true) {i : Nat} {oi : Oper} {d : DV} (hi : ops[i]? = some oi) : ∀ (fuel : Nat) (listed : Array Bool) (s : Slots) (k k' : Nat),
  (∀ j oj, ops[j]? = some oj → j ≠ i → listed.getD j true = false → (∀ e ∈ oj.after, Region.binds .any e = true → e.on ≠ i) → oi.apart ops oj = true) → Below ids lv ops listed k →
  i ∈ Region.ready .any ops listed → StepL ids lv i P ops sts m oi s k d k' → dstOk N oi.dst → anyL ids lv P N ops sts m Q fuel (listed.setIfInBounds i true) (putS oi.dst d s) k' → anyL ids lv P N ops sts m Q (fuel + 1) listed s k := by
 intro fuel
 induction fuel with
 | zero =>
   intro listed s k k' _ hJ hr hy hd H
   refine ⟨fun h => (by rw [h] at hr; cases hr), fun j hj oj hoj => ?_⟩
   by_cases hji : j = i
   ·subst hji
    rw [hi] at hoj; cases hoj
    exact ⟨d, k', hy, hd, H⟩
   ·have := ready_mono hj hji
    rw [H.1] at this
    cases this
 | succ fuel ih =>
   intro listed s k k' hfree hJ hr hy hd H
   refine ⟨fun h => (by rw [h] at hr; cases hr), fun j hj oj hoj => ?_⟩
   by_cases hji : j = i
   ·subst hji
    rw [hi] at hoj; cases hoj
    exact ⟨d, k', hy, hd, H⟩
   ·obtain ⟨dj, kj, hyj, hdj, hK⟩ := H.2 j (ready_mono hj hji) oj hoj
    obtain ⟨hjun, oj', hoj', hall⟩ := mem_ready.1 hj
    rw [hoj] at hoj'; cases hoj'
    obtain ⟨hiun, oi', hoi', halli⟩ := mem_ready.1 hr
    rw [hi] at hoi'; cases hoi'
    have unl : ∀ q, listed.getD q true = false → listed.getD q false = true → False := fun q h0 h1 => by
     rcases Nat.lt_or_ge q listed.size with h' | h'
     ·simp [h'] at h0 h1; rw [h0] at h1; cases h1
     ·simp [Array.getElem?_eq_none h'] at h1
    have hnot : ∀ e ∈ oj.after, Region.binds .any e = true → e.on ≠ i := fun e he hb heq => by
     have h1 := hall e he hb
     rw [heq] at h1
     exact unl i hiun h1
    have hnoti : ∀ e ∈ oi.after, Region.binds .any e = true → e.on ≠ j := fun e he hb heq => by
     have h1 := halli e he hb
     rw [heq] at h1
     exact unl j hjun h1
    have hboth : tnI ids oi.op = true → tnI ids oj.op = true → False := fun h1 h2 => by
     rcases Nat.lt_or_gt_of_ne hji with h | h
     ·exact unl j hjun (turnsC_listed hT hJ.2 i i j oj oi (Nat.le_refl _) hi h1 halli h hoj h2)
     ·exact unl i hiun (turnsC_listed hT hJ.2 j j i oi oj (Nat.le_refl _) hoj h2 hall h hi h1)
    obtain ⟨a1, a2, a3⟩ := Oper.apart_spec (hfree j oj hoj hji hjun hnot)
    have hfree' : ∀ k ok, ops[k]? = some ok → k ≠ i → (listed.setIfInBounds j true).getD k true = false →
      (∀ e ∈ ok.after, Region.binds .any e = true → e.on ≠ i) → oi.apart ops ok = true := fun k ok hk hki hun hno => by
     refine hfree k ok hk hki ?_ hno
     by_cases hjk : j = k
     ·subst hjk; exact hjun
     ·rw [getD_set_ne true hjk] at hun; exact hun
    have hyj' := (StepL.put a1).1 hyj
    have hlj := hJ.ready hLv hj
    have swap : ∃ k1, StepL ids lv j P ops sts m oj s k dj k1 ∧ StepL ids lv i P ops sts m oi s k1 d kj ∧ k ≤ k1 ∧ outF ids lv ops j ≤ k1 := by
     have hout : outF ids lv ops j = lvF lv j + if tnI ids oj.op = true then 1 else 0 := by simp only [outF, tnAt, hoj]
     rw [hout]
     unfold StepL at hy hyj' ⊢
     by_cases h1 : tnI ids oi.op = true
     ·by_cases h2 : tnI ids oj.op = true
      ·exact (hboth h1 h2).elim
      ·rw [if_pos h1] at hy
       rw [if_neg h2] at hyj'
       obtain ⟨q1, rfl, q2⟩ := hyj'
       refine ⟨k, ?_, ?_, Nat.le_refl _, ?_⟩
       ·rw [if_neg h2]; exact ⟨q1, rfl, hlj⟩
       ·rw [if_pos h1]; exact hy
       ·rw [if_neg h2]; exact hlj
     ·rw [if_neg h1] at hy
      obtain ⟨q1, rfl, q2⟩ := hy
      have hkj : k' ≤ kj ∧ lvF lv j + (if tnI ids oj.op = true then 1 else 0) ≤ kj := by
       split at hyj'
       ·rename_i h2
        rw [if_pos h2]
        omega
       ·rename_i h2
        rw [if_neg h2]
        omega
      refine ⟨kj, hyj', ?_, hkj.1, hkj.2⟩
      rw [if_neg h1]
      exact ⟨q1, rfl, Nat.le_trans q2 hkj.1⟩
    obtain ⟨k1, w1, w2, w3, w4⟩ := swap
    refine ⟨dj, k1, w1, hdj, ih (listed.setIfInBounds j true) _ k1 kj hfree' (hJ.next hj w3 w4) (ready_mono hr (Ne.symm hji)) ((StepL.put a3).2 w2) hd ?_⟩
    rw [Array.setIfInBounds_comm _ _ hji, ← putS_comm a2]
    exact hK
def lexL (ids : List FuncId) (lv : List Nat) (P : Program) (N : Nat) (ops : Array Oper) (sts : Nat → Store) (m : Nat) (Q : Slots → Prop) : Nat → List Oper → Slots → Nat → Prop
 | _, [], s, k => k = m ∧ Q s
 | p, o :: rest, s, k => ∃ d k', StepL ids lv p P ops sts m o s k d k' ∧ dstOk N o.dst ∧ lexL ids lv P N ops sts m Q (p + 1) rest (putS o.dst d s) k'
theorem anyL_lex {ids : List FuncId} {lv : List Nat} {P : Program} {N : Nat} {ops : Array Oper} {sts : Nat → Store} {m : Nat} {Q : Slots → Prop} (hT : turnsC ids ops = true) (hLv : levelsB ids lv ops = true) : ∀ (l : List Oper) (k : Nat) (listed : Array Bool) (s : Slots) (n : Nat), (∀ j, l[j]? = ops[k + j]?) →
  Region.lexFrom .any ops l.length k listed = true → Below ids lv ops listed n → lexL ids lv P N ops sts m Q k l s n → anyL ids lv P N ops sts m Q l.length listed s n
 | [], _, _, _, _, _, hB, _, h => ⟨by simpa [Region.lexFrom] using hB, h⟩
 | o :: l, k, listed, s, n, hl, hB, hJ, h => by
   have h0 : ops[k]? = some o := by simpa using (hl 0).symm
   simp only [List.length_cons, Region.lexFrom, Bool.and_eq_true] at hB
   obtain ⟨⟨hr, hf⟩, hB'⟩ := hB
   obtain ⟨d, k', hy, hd, hK⟩ := h
   have hr' : k ∈ Region.ready .any ops listed := by simpa using hr
   have hlk := hJ.ready hLv hr'
   have hout : outF ids lv ops k = lvF lv k + if tnI ids o.op = true then 1 else 0 := by simp only [outF, tnAt, h0]
   have hkk : n ≤ k' ∧ outF ids lv ops k ≤ k' := by
    rw [hout]
    unfold StepL at hy
    split at hy
    ·rename_i h2; rw [if_pos h2]; omega
    ·rename_i h2; rw [if_neg h2]; omega
   exact anyL_first hT hLv h0 l.length listed s n k' (Region.free_spec h0 hf) hJ hr' hy hd
    (anyL_lex hT hLv l (k + 1) _ _ k' (fun j => by have := hl (j + 1); simpa [Nat.add_assoc, Nat.add_comm 1 j] using this) hB' (hJ.next hr' hkk.1 hkk.2) hK)
theorem wpD_L {ids : List FuncId} {lv : List Nat} {P : Program} {N : Nat} {Q : Exit → Slots → Store → Prop} {s : Slots} {id : Nat} {l : List Oper} (sts : Nat → Store) (m : Nat) (hm : P.follows .mixedOrders = true) (hB : Region.lexB .any l.toArray = true) (hT : turnsC ids l.toArray = true) (hLv : levelsB ids lv l.toArray = true)
  (h : lexL ids lv P N l.toArray sts m (fun s' => Q .normal s' (sts m)) 0 l s 0) : wpD P N (.region id l.toArray true) Q s (sts 0) := by
 refine wpD_any hm (anyD_of_L (ids := ids) (lv := lv) (sts := sts) (m := m) _ _ _ 0 (Nat.zero_le m) ?_)
 simp only [Region.lexB, Bool.and_eq_true] at hB
 exact anyL_lex hT hLv l 0 (Array.replicate l.length false) s 0 (by simp) (by simpa using hB.2) ⟨fun p hp => by rw [Array.getD_eq_getD_getElem?, Array.getElem?_replicate] at hp; split at hp <;> simp at hp, fun p o _ hp => by rw [Array.getD_eq_getD_getElem?, Array.getElem?_replicate] at hp; split at hp <;> simp at hp⟩ h
abbrev KnR := List (FuncId × (List DV → Store → RV))
def findR : KnR → FuncId → List DV → Store → RV
 | [], _, _, _ => none
 | (g, h) :: R, f, args, st => if f = g then h args st else findR R f args st
def SoundR (P : Program) (R : KnR) : Prop := ∀ f args st cs r, findR R f args st = some (cs, r) → allP cs True → ∀ K : DV → Store → Prop, K r st → FnD P f args st K
theorem noR_ok {P : Program} : SoundR P [] := fun _ _ _ _ _ h => by cases h
def chunk (sz : Nat) : Nat → List DV → Option (List (List PD))
 | 0, [] => some []
 | 0, _ :: _ => none
 | n + 1, cs => (match plainL (cs.take sz), chunk sz n (cs.drop sz) with
   | some x, some xs => bif x.length == sz then some (x :: xs) else none
   | _, _ => none)
where plainL : List DV → Option (List PD)
 | [] => some []
 | .d p :: l => (match plainL l with
   | some x => some (p :: x)
   | none => none)
 | _ => none
theorem plainL_ok : ∀ {cs : List DV} {x : List PD}, chunk.plainL cs = some x → cs = x.map .d
 | [], x, h => by simp only [chunk.plainL] at h; cases h; rfl
 | .d p :: l, x, h => by
    unfold chunk.plainL at h
    split at h
    ·rename_i y hy
     cases h
     rw [plainL_ok hy]; rfl
    ·cases h
 | .any :: _, _, h => by simp [chunk.plainL] at h
 | .agg _ :: _, _, h => by simp [chunk.plainL] at h
 | .tup _ :: _, _, h => by simp [chunk.plainL] at h
 | .ref _ _ _ :: _, _, h => by simp [chunk.plainL] at h
 | .cref _ :: _, _, h => by simp [chunk.plainL] at h
 | .view _ _ _ _ _ :: _, _, h => by simp [chunk.plainL] at h
 | .fn _ _ :: _, _, h => by simp [chunk.plainL] at h
theorem chunk_ok {sz : Nat} : ∀ {n : Nat} {cs : List DV} {xs : List (List PD)}, chunk sz n cs = some xs → cs = rowsD xs ∧ xs.length = n ∧ ∀ x ∈ xs, x.length = sz
 | 0, [], xs, h => by simp only [chunk] at h; cases h; exact ⟨rfl, rfl, by simp⟩
 | 0, _ :: _, xs, h => by simp [chunk] at h
 | n + 1, cs, xs, h => by
     unfold chunk at h
     split at h
     ·rename_i x ys hx hy
      cases hq : (x.length == sz)
      ·rw [hq] at h; cases h
      ·rw [hq] at h
       cases h
       obtain ⟨h1, h2, h3⟩ := chunk_ok hy
       refine ⟨?_, by simp [h2], fun z hz => ?_⟩
       ·have := plainL_ok hx
        rw [← List.take_append_drop sz cs, this, h1]
        simp [rowsD]
       ·rcases List.mem_cons.1 hz with rfl | hz
        ·exact eqb hq
        ·exact h3 z hz
     ·cases h
def setV (T : Unit → Tab) (t len : Nat) (parts : List (Nat × DV)) : RV :=
 match (T ()).sl t with
 | some (e, sz) => (match (T ()).zero e with
   | some z => bif decide ((len * sz) ≤ 100000) && (z.length == sz) && decide (0 < sz) then (match fillS sz (List.replicate len z).flatten parts with
     | some cs => (match chunk sz len cs with
       | some xs => some ([], .d (.slc sz xs))
       | none => none)
     | none => none) else none
   | none => none)
 | none => none
theorem setV_D {P : Program} {T : Unit → Tab} (hT : TabOk P (T ())) {t len : Nat} {parts : List (Nat × DV)} {cs : List Prop} {d : DV} (h : setV T t len parts = some (cs, d)) {K : DV → Prop} (hk : K d) : buildSetD P t len parts K := by
 unfold setV at h
 unfold buildSetD
 split at h
 ·rename_i e sz ht
  simp only [hT.sl _ _ ht]
  split at h
  ·rename_i z hz
   simp only [hT.zero _ _ hz]
   cases hh : (decide ((len * sz) ≤ 100000) && (z.length == sz) && decide (0 < sz))
   ·rw [hh] at h; cases h
   ·rw [hh] at h
    simp only [Bool.and_eq_true, decide_eq_true_eq] at hh
    simp only [cond_true] at h
    split at h
    ·rename_i l hl
     simp only [fillS_D _ _ _ hl]
     split at h
     ·rename_i xs hx
      cases h
      obtain ⟨h1, h2, h3⟩ := chunk_ok hx
      exact ⟨hh.1.1, eqb hh.1.2, hh.2, xs, h1, h2, h3, hk⟩
     ·cases h
    ·cases h
  ·cases h
 ·cases h
def pvL (T : Unit → Tab) (A : Ar) (H : Unit → Kn) (R : Unit → KnR) (o : Op) (s : SL) (st : Store) : RV :=
 match pvV T A H o s st with
 | some r => some r
 | none => (match o with
   | .buildSlice t len parts => setV T t len (parts.toList.map fun p => (p.1, evL s p.2))
   | .call c => (match c.callee with
     | .value (.func f) => (match (T ()).body f with
       | true => findR (R ()) f (c.args.toList.map (evL s)) st
       | false => none)
     | _ => none)
   | _ => none)
theorem pvL_D {P : Program} {T : Unit → Tab} (hT : TabOk P (T ())) {H : Unit → Kn} (hH : SoundK P (H ())) {R : Unit → KnR} (hR : SoundR P (R ())) {o : Op} {s : SL} {st : Store} {cs : List Prop} {d : DV} (h : pvL T A0 H R o s st = some (cs, d)) (hc : allP cs True) {K : DV → Store → Prop} (hk : K d st) : opD P o (getS s) st K := by
 unfold pvL at h
 split at h
 ·rename_i r hr
  cases h
  exact pvV_D hT hH hr hc hk
 ·split at h
  ·rename_i t len parts
   exact .inr (setV_D hT h hk)
  ·rename_i c
   split at h
   ·rename_i f hf
    split at h
    ·rename_i hb
     simp only [opD, callD, hf]
     exact .inl ⟨hT.body _ hb, hR f _ st cs d h hc K hk⟩
    ·cases h
   ·cases h
  ·cases h
def staysL (T : Unit → Tab) (A : Ar) (H : Unit → Kn) (R : Unit → KnR) (st : Store) : DL → Prop → Prop
 | [], X => X
 | (o, s, d) :: l, X => match pvL T A H R o s st with
   | some (cs, d') => allP cs (d' = d ∧ staysL T A H R st l X)
   | none => False
def stoodL (T : Unit → Tab) (A : Ar) (H : Unit → Kn) (R : Unit → KnR) (o : Op) (s : SL) (d : DV) : List Store → Prop → Prop
 | [], X => X
 | st :: l, X => match pvL T A H R o s st with
   | some (cs, d') => allP cs (d' = d ∧ stoodL T A H R o s d l X)
   | none => False
def mixOneL (ids : List FuncId) (v : Nat) (T : Unit → Tab) (A : Ar) (H : Unit → Kn) (B : Unit → KnB) (R : Unit → KnR) (o : Op) (s : SL) (st : Store) (olds : List Store) (done : DL) (X : DV → Store → List Store → DL → Prop) : Prop :=
 match tnI ids o with
 | true => (match tvV T A B o s st with
   | some (cs, d, st1) => allP cs (staysL T A H R st1 done (X d st1 (st :: olds) done))
   | none => False)
 | false => (match pvL T A H R o s st, decide (v ≤ olds.length) with
   | some (cs, d), true => allP cs (stoodL T A H R o s d (olds.take (olds.length - v)) (X d st olds ((o, s, d) :: done)))
   | _, _ => False)
def mixNoL (ids : List FuncId) (v : Nat) (T : Unit → Tab) (A : Ar) (H : Unit → Kn) (R : Unit → KnR) (o : Op) (st : Store) (olds : List Store) (done : DL) (X : DV → Store → List Store → DL → Prop) : Prop :=
 match tnI ids o, decide (v ≤ olds.length) with
 | true, _ => staysL T A H R st done (X (.d (.sc (.tuple #[]))) st (st :: olds) done)
 | false, true => X (.d (.sc (.tuple #[]))) st olds done
 | false, false => False
def mixL (ids : List FuncId) (lv : List Nat) (T : Unit → Tab) (A : Ar) (H : Unit → Kn) (B : Unit → KnB) (R : Unit → KnR) (N : Nat) (ops : Array Oper) (Q : SL → Store → Prop) : Nat → List Oper → SL → Store → List Store → DL → Prop
 | _, [], s, st, _, _ => Q s st
 | p, o :: rest, s, st, olds, done => match dstB N o.dst, o.guard with
   | true, none => mixOneL ids (lvF lv p) T A H B R o.op s st olds done fun d st1 olds1 done1 => mixL ids lv T A H B R N ops Q (p + 1) rest (putL o.dst d s) st1 olds1 done1
   | true, some (j, w) => (match slotOf ops j with
     | some k => (match getS s k with
       | .d (.sc (.bool t)) => brC t
         (fun _ => match w with
           | true => mixOneL ids (lvF lv p) T A H B R o.op (setS s k (.d (.sc (.bool true)))) st olds done fun d st1 olds1 done1 => mixL ids lv T A H B R N ops Q (p + 1) rest (putL o.dst d (setS s k (.d (.sc (.bool true))))) st1 olds1 done1
           | false => mixNoL ids (lvF lv p) T A H R o.op st olds done fun d st1 olds1 done1 => mixL ids lv T A H B R N ops Q (p + 1) rest (putL o.dst d (setS s k (.d (.sc (.bool true))))) st1 olds1 done1)
         (fun _ => match w with
           | false => mixOneL ids (lvF lv p) T A H B R o.op (setS s k (.d (.sc (.bool false)))) st olds done fun d st1 olds1 done1 => mixL ids lv T A H B R N ops Q (p + 1) rest (putL o.dst d (setS s k (.d (.sc (.bool false))))) st1 olds1 done1
           | true => mixNoL ids (lvF lv p) T A H R o.op st olds done fun d st1 olds1 done1 => mixL ids lv T A H B R N ops Q (p + 1) rest (putL o.dst d (setS s k (.d (.sc (.bool false))))) st1 olds1 done1)
       | .d (.sc (.tuple _)) => mixNoL ids (lvF lv p) T A H R o.op st olds done fun d st1 olds1 done1 => mixL ids lv T A H B R N ops Q (p + 1) rest (putL o.dst d s) st1 olds1 done1
       | _ => False)
     | none => False)
   | false, _ => False
section mix
variable {P : Program} {ids : List FuncId} {lv : List Nat} {T : Unit → Tab} (hT : TabOk P (T ())) {H : Unit → Kn} (hH : SoundK P (H ())) {B : Unit → KnB} (hB : SoundB P (B ())) {R : Unit → KnR} (hR : SoundR P (R ())) {N : Nat} {ops : Array Oper} {Q : Slots → Store → Prop}
include hT hH hR in
theorem staysL_ok {st : Store} {X : Prop} : ∀ (l : DL), staysL T A0 H R st l X → (∀ p ∈ l, ∀ K : DV → Store → Prop, K p.2.2 st → opD P p.1 (getS p.2.1) st K) ∧ X
 | [], h => ⟨by simp, h⟩
 | (o, s, d) :: l, h => by
     unfold staysL at h
     split at h
     ·rename_i cs d' hv
      rw [allP_iff] at h
      obtain ⟨hc, rfl, h⟩ := h
      obtain ⟨h1, h2⟩ := staysL_ok l h
      refine ⟨fun p hp K hK => ?_, h2⟩
      rcases List.mem_cons.1 hp with rfl | hp
      ·exact pvL_D hT hH hR hv hc hK
      ·exact h1 p hp K hK
     ·exact h.elim
include hT hH hR in
theorem stoodL_ok {o : Op} {s : SL} {d : DV} {X : Prop} : ∀ (l : List Store), stoodL T A0 H R o s d l X → (∀ st ∈ l, ∀ K : DV → Store → Prop, K d st → opD P o (getS s) st K) ∧ X
 | [], h => ⟨by simp, h⟩
 | st :: l, h => by
    unfold stoodL at h
    split at h
    ·rename_i cs d' hv
     rw [allP_iff] at h
     obtain ⟨hc, rfl, h⟩ := h
     obtain ⟨h1, h2⟩ := stoodL_ok l h
     refine ⟨fun st' hst' K hK => ?_, h2⟩
     rcases List.mem_cons.1 hst' with rfl | hst'
     ·exact pvL_D hT hH hR hv hc hK
     ·exact h1 st' hst' K hK
    ·exact h.elim
theorem rowSt_from (olds : List Store) (st : Store) (later : List Store) (v q : Nat) (hv : v ≤ q) (hq : q ≤ olds.length + later.length) : rowSt olds st later q ∈ olds.take (olds.length - v) ∨ rowSt olds st later q = st ∨ rowSt olds st later q ∈ later := by
 unfold rowSt
 rw [List.getD_eq_getElem?_getD]
 rcases Nat.lt_trichotomy q olds.length with h | h | h
 ·left
  have e : (olds.reverse ++ st :: later)[q]? = olds[olds.length - 1 - q]? := by
   rw [List.getElem?_append_left (by simpa using h), List.getElem?_reverse h]
  rw [e, List.getElem?_eq_getElem (by omega)]
  simp only [Option.getD_some]
  rw [List.mem_take_iff_getElem]
  exact ⟨olds.length - 1 - q, by omega, rfl⟩
 ·right; left
  subst h
  simp
 ·right; right
  rw [List.getElem?_append_right (by simp; omega)]
  simp only [List.length_reverse]
  obtain ⟨r, hr⟩ : ∃ r, q - olds.length = r + 1 := ⟨q - olds.length - 1, by omega⟩
  rw [hr, List.getElem?_cons_succ, List.getElem?_eq_getElem (by omega)]
  simp only [Option.getD_some]
  exact List.getElem_mem _
def MixOkL (P : Program) (ids : List FuncId) (lv : List Nat) (N : Nat) (ops : Array Oper) (Q : Slots → Store → Prop) (p : Nat) (l : List Oper) (s : Slots) (st : Store) (olds : List Store) (done : DL) : Prop :=
 ∃ later : List Store, lexL ids lv P N ops (rowSt olds st later) (olds.length + later.length) (fun s' => Q s' (rowSt olds st later (olds.length + later.length))) p l s olds.length ∧ ∀ p ∈ done, ∀ st' ∈ later, ∀ K : DV → Store → Prop, K p.2.2 st' → opD P p.1 (getS p.2.1) st' K
include hT hH hB hR
theorem mixOneL_ok {o : Oper} {rest : List Oper} {p : Nat} {s0 : Slots} {s : SL} (hs : getS s = s0) {st : Store} {olds : List Store} {done : DL} (hd : dstOk N o.dst) (hw : wantedD ops o.guard s0 = some true) {X : DV → Store → List Store → DL → Prop}
  (h : mixOneL ids (lvF lv p) T A0 H B R o.op s st olds done X) (ih : ∀ d st1 olds1 done1, X d st1 olds1 done1 → MixOkL P ids lv N ops Q (p + 1) rest (putS o.dst d s0) st1 olds1 done1) : MixOkL P ids lv N ops Q p (o :: rest) s0 st olds done := by
 subst hs
 unfold mixOneL at h
 split at h
 ·rename_i ht
  split at h
  ·rename_i cs d st1 hv
   rw [allP_iff] at h
   obtain ⟨hc, h⟩ := h
   obtain ⟨h2, h3⟩ := staysL_ok hT hH hR _ h
   obtain ⟨later, g1, g2⟩ := ih _ _ _ _ h3
   have hl : olds.length + (st1 :: later).length = (st :: olds).length + later.length := by simp; omega
   refine ⟨st1 :: later, ⟨d, olds.length + 1, ?_, hd, ?_⟩, ?_⟩
   ·unfold StepL
    rw [if_pos ht]
    refine ⟨?_, rfl, by simp⟩
    rw [rowSt_at, rowSt_next, show olds.length + 1 = (st :: olds).length from rfl, rowSt_at]
    exact .inl ⟨hw, fun K hK => tvV_D hT hB hv hc hK⟩
   ·rw [rowSt_next, hl]
    exact g1
   ·intro p hp st' hst'
    rcases List.mem_cons.1 hst' with rfl | hst'
    ·exact h2 p hp
    ·exact g2 p hp st' hst'
  ·exact h.elim
 ·rename_i ht
  split at h
  ·rename_i cs d hv hle
   rw [allP_iff] at h
   obtain ⟨hc, h⟩ := h
   obtain ⟨h2, h3⟩ := stoodL_ok hT hH hR _ h
   obtain ⟨later, g1, g2⟩ := ih _ _ _ _ h3
   refine ⟨later, ⟨d, olds.length, ?_, hd, g1⟩, fun p hp => g2 p (List.mem_cons_of_mem _ hp)⟩
   unfold StepL
   rw [if_neg (by simp [ht])]
   refine ⟨fun q hq0 hq => .inl ⟨hw, ?_⟩, rfl, of_decide_eq_true hle⟩
   rcases rowSt_from olds st later _ q hq0 hq with e | e | e
   ·exact h2 _ e
   ·rw [e]; exact fun K hK => pvL_D hT hH hR hv hc hK
   ·exact g2 (o.op, s, d) (List.mem_cons_self ..) _ e
  ·exact h.elim
omit hB in
theorem mixNoL_ok {o : Oper} {rest : List Oper} {p : Nat} {s : Slots} {st : Store} {olds : List Store} {done : DL} (hd : dstOk N o.dst) (hw : wantedD ops o.guard s = some false) {X : DV → Store → List Store → DL → Prop}
  (h : mixNoL ids (lvF lv p) T A0 H R o.op st olds done X) (ih : ∀ d st1 olds1 done1, X d st1 olds1 done1 → MixOkL P ids lv N ops Q (p + 1) rest (putS o.dst d s) st1 olds1 done1) : MixOkL P ids lv N ops Q p (o :: rest) s st olds done := by
 unfold mixNoL at h
 split at h
 ·rename_i ht
  obtain ⟨h2, h3⟩ := staysL_ok hT hH hR _ h
  obtain ⟨later, g1, g2⟩ := ih _ _ _ _ h3
  have hl : olds.length + (st :: later).length = (st :: olds).length + later.length := by simp; omega
  refine ⟨st :: later, ⟨.d (.sc (.tuple #[])), olds.length + 1, ?_, hd, ?_⟩, ?_⟩
  ·unfold StepL
   rw [if_pos ht]
   refine ⟨.inr ⟨hw, rfl, ?_⟩, rfl, by simp⟩
   rw [rowSt_at, rowSt_next, show olds.length + 1 = (st :: olds).length from rfl, rowSt_at]
  ·rw [rowSt_next, hl]
   exact g1
  ·intro p hp st' hst'
   rcases List.mem_cons.1 hst' with rfl | hst'
   ·exact h2 p hp
   ·exact g2 p hp st' hst'
 ·rename_i ht hle
  obtain ⟨later, g1, g2⟩ := ih _ _ _ _ h
  refine ⟨later, ⟨.d (.sc (.tuple #[])), olds.length, ?_, hd, g1⟩, g2⟩
  unfold StepL
  rw [if_neg (by simp [ht])]
  exact ⟨fun q _ hq => .inr ⟨hw, rfl, rfl⟩, rfl, of_decide_eq_true hle⟩
 ·exact h.elim
theorem mixL_ok {Q : SL → Store → Prop} : ∀ (l : List Oper) (p : Nat) (s : SL) (st : Store) (olds : List Store) (done : DL), mixL ids lv T A0 H B R N ops Q p l s st olds done → MixOkL P ids lv N ops (fun s' st' => ∃ l, getS l = s' ∧ Q l st') p l (getS s) st olds done
 | [], p, s, st, olds, done, h => ⟨[], ⟨rfl, by rw [show olds.length + ([] : List Store).length = olds.length from rfl, rowSt_at]; exact ⟨s, rfl, h⟩⟩, fun _ _ _ h => by cases h⟩
 | o :: rest, p, s, st, olds, done, h => by
     have next : ∀ s2 : SL, getS s2 = getS s → ∀ (d : DV) (st1 : Store) (olds1 : List Store) (done1 : DL), mixL ids lv T A0 H B R N ops Q (p + 1) rest (putL o.dst d s2) st1 olds1 done1 → MixOkL P ids lv N ops (fun s' st' => ∃ l, getS l = s' ∧ Q l st') (p + 1) rest (putS o.dst d (getS s)) st1 olds1 done1 := fun s2 h2 d st1 olds1 done1 hq => by
      have := mixL_ok rest _ _ _ _ _ hq
      rw [getS_putL, h2] at this
      exact this
     unfold mixL at h
     split at h
     ·rename_i hd hg
      exact mixOneL_ok hT hH hB hR rfl (dstB_ok hd) (by rw [hg]; rfl) h (next s rfl)
     ·rename_i j w hd hg
      split at h
      ·rename_i k hk
       split at h
       ·rename_i t ht
        have hs : ∀ b, b = t → getS (setS s k (.d (.sc (.bool b)))) = getS s := fun b e => getS_same (by rw [e]; exact ht)
        cases t <;> cases w <;> simp only [brC] at h
        ·exact mixOneL_ok hT hH hB hR (hs _ rfl) (dstB_ok hd) (by rw [hg]; simp only [wantedD, hk, ht, BEq.rfl]) h (next _ (hs _ rfl))
        ·exact mixNoL_ok hT hH hR (dstB_ok hd) (by rw [hg]; simp only [wantedD, hk, ht]; rfl) h (next _ (hs _ rfl))
        ·exact mixNoL_ok hT hH hR (dstB_ok hd) (by rw [hg]; simp only [wantedD, hk, ht]; rfl) h (next _ (hs _ rfl))
        ·exact mixOneL_ok hT hH hB hR (hs _ rfl) (dstB_ok hd) (by rw [hg]; simp only [wantedD, hk, ht, BEq.rfl]) h (next _ (hs _ rfl))
       ·rename_i vs ht
        exact mixNoL_ok hT hH hR (dstB_ok hd) (by rw [hg]; simp only [wantedD, hk, ht]) h (next s rfl)
       ·exact h.elim
      ·exact h.elim
     ·exact h.elim
end mix
theorem regionL (ids : List FuncId) (lv : List Nat) {P : Program} {T : Unit → Tab} (hT : TabOk P (T ())) {H : Unit → Kn} (hH : SoundK P (H ())) {B : Unit → KnB} (hB : SoundB P (B ())) {R : Unit → KnR} (hR : SoundR P (R ())) (hm : P.follows .mixedOrders = true) {N : Nat} {Q : Exit → SL → Store → Prop} {s : SL} {st : Store} {id : Nat} {ops : Array Oper} {A : Ar} {X : Cps} (hA : A = A0) (hX : X = X0 P N)
  (hl : Region.lexB .any ops = true) (ht : turnsC ids ops = true) (hv : levelsB ids lv ops = true) (h : mixL ids lv T A H B R N ops (Q .normal) 0 ops.toList s st [] []) : X.st (.region id ops true) Q s st := by
 subst hA; subst hX
 obtain ⟨l⟩ := ops
 show wpD P N (.region id l.toArray true) (lessQ Q) (getS s) st
 obtain ⟨later, h1, _⟩ := mixL_ok hT hH hB hR l 0 s st [] [] h
 refine wpD_mono (wpD_L (ids := ids) (lv := lv) (id := id) (Q := fun e s' st' => e = .normal ∧ ∃ l, getS l = s' ∧ Q .normal l st') (rowSt [] st later) (0 + later.length) hm hl ht hv ?_) ?_
 ·simpa using h1
 ·rintro e s' st' ⟨rfl, l, rfl, hq⟩
  exact ⟨l, fun _ => .inl rfl, hq⟩
end Go.Proofs.Ytadnpgkddgbhkaa
namespace Go.Proofs.Ytadnpgkddgbhkaa
open Go.RowKit
set_option linter.all false
theorem nc (k : Nat) : (NatCast.natCast k : Int) = (k : Int) := rfl
theorem retell_env {E : Env} (hc : Conc E) {b : Nat} {bx bx' : Box} (hb : E.st[b]? = some bx) (hty : bx'.ty = bx.ty) (hver : bx'.ver = bx.ver) (hlive : bx'.live = bx.live)
  (h : ∀ (g z : Nat) (cur : Array Value), E.σ[b]? = some (g, z) → bx.live = true → E.w.heap[g]? = some (.cells cur bx.ty (0, 0)) → cur.size = z → bx.cells.length ≤ z → (bx.ext = false → bx.cells.length = z) →
    bx'.cells.length ≤ z ∧ (bx'.ext = false → bx'.cells.length = z) ∧ ∀ (j : Nat) (d : DV), bx'.cells[j]? = some d → bx.cells[j]? = some d ∨ d = .any) :
  Conc ⟨E.w, E.S, E.σ, E.st.set b bx'⟩ ∧ Ext E ⟨E.w, E.S, E.σ, E.st.set b bx'⟩ := by
 have hbl := (List.getElem?_eq_some_iff.1 hb).1
 have hx : Ext E ⟨E.w, E.S, E.σ, E.st.set b bx'⟩ := by
  refine ⟨Nat.le_refl _, rfl, rfl, rfl, fun _ h => h, fun _ h => .inl h, fun _ _ _ => rfl, fun i bi gz h1 h2 => ?_, fun i gz h1 h2 => by simp only at h2; rw [h1] at h2; cases h2⟩
  by_cases e : i = b
  ·subst e
   rw [hb] at h1; cases h1
   exact ⟨bx', gz, by simp [hbl], h2, by omega, fun _ => rfl, fun hl => by rw [hlive]; exact hl, .inl rfl⟩
  ·exact ⟨bi, gz, by simp [Ne.symm e, h1], h2, Nat.le_refl _, fun _ => rfl, id, .inl rfl⟩
 refine ⟨⟨by simp [hc.len], fun i bi g z h1 h2 hl => ?_, hc.inj, hc.old, hc.lt⟩, hx⟩
 by_cases e : i = b
 ·subst e
  simp [hbl] at h1
  subst h1
  rw [hlive] at hl
  obtain ⟨cur, a1, a2, a3, a4, a5, a6, a7, a8⟩ := hc.box i bx g z hb h2 hl
  obtain ⟨k1, k2, k3⟩ := h g z cur h2 hl a1 a2 a3 a4
  refine ⟨cur, by rw [hty]; exact a1, a2, k1, k2, trivial, a6, fun j d hj => ?_, a8⟩
  rcases k3 j d hj with q | rfl
  ·obtain ⟨u, e1, e2, e3⟩ := a7 j d q
   exact ⟨u, e1, e2, Rep.ext hc hx d u e3⟩
  ·have hjl := (List.getElem?_eq_some_iff.1 hj).1
   have : j < cur.size := by omega
   exact ⟨cur[j], by simp [this], a8 j _ (by simp [this]), trivial⟩
 ·simp [Ne.symm e] at h1
  obtain ⟨cur, a1, a2, a3, a4, a5, a6, a7, a8⟩ := hc.box i bi g z h1 h2 hl
  refine ⟨cur, a1, a2, a3, a4, a5, a6, fun j d hj => ?_, a8⟩
  obtain ⟨u, e1, e2, e3⟩ := a7 j d hj
  exact ⟨u, e1, e2, Rep.ext hc hx d u e3⟩
theorem FnD.reveal {P : Program} {f : FuncId} {args : List DV} {st : Store} {K : DV → Store → Prop} (b sz n : Nat) (bx : Box) (hb : st[b]? = some bx) (hl : bx.live = true) (hargs : DV.view sz b bx.ver 0 n ∈ args) (hlen : bx.cells.length = n * sz)
  (h : ∀ c : Nat, n ≤ c → FnD P f args (st.set b ⟨bx.ty, bx.cells ++ List.replicate ((c - n) * sz) .any, false, bx.ver, true⟩) K) : FnD P f args st K := by
 intro E vs hc hst hr
 subst hst
 obtain ⟨k, hk⟩ := List.mem_iff_getElem?.1 hargs
 obtain ⟨v, hv, hrep⟩ := hr.get _ _ k _ hk
 obtain ⟨bx1, gz, hb1, hg, _, _, hvv⟩ := hrep
 rw [hb] at hb1; cases hb1
 obtain ⟨c, rfl, hnc, _, hcz⟩ := hvv rfl
 have e1 : n * sz + (c - n) * sz = c * sz := by rw [← Nat.add_mul]; congr 1; omega
 obtain ⟨c1, c2⟩ := retell_env (bx' := ⟨bx.ty, bx.cells ++ List.replicate ((c - n) * sz) .any, false, bx.ver, true⟩) hc hb rfl rfl hl.symm (fun g z cur h1 _ _ _ _ _ => by
  have hz : z = gz.2 := by rw [hg] at h1; cases h1; rfl
  subst hz
  have e2 : (bx.cells ++ List.replicate ((c - n) * sz) DV.any).length = gz.2 := by rw [List.length_append, List.length_replicate]; omega
  refine ⟨by rw [e2]; exact Nat.le_refl _, fun _ => e2, fun j d hj => ?_⟩
  rw [List.getElem?_append] at hj
  split at hj
  ·exact .inl hj
  ·rw [List.getElem?_replicate] at hj
   split at hj
   ·cases hj; exact .inr rfl
   ·cases hj)
 refine (h c hnc _ vs c1 rfl (Reps.ext hc c2 _ _ hr)).mono ?_
 rintro e w' ⟨v, E', r, rfl, rfl, h1, h2, h3, h4⟩
 exact ⟨v, E', r, rfl, rfl, h1, h2, Ext.trans hc.len c1.len c2 h3, h4⟩
theorem ret_hide {k : Nat} {R : DV → Store → Prop} {d : DV} {st : Store} (b m : Nat) (bx : Box) (hb : st[b]? = some bx) (h : RetW k R d (st.set b ⟨bx.ty, bx.cells.take m, true, bx.ver, bx.live⟩)) : RetW k R d st := by
 obtain ⟨d', st', ht, hr⟩ := h
 refine ⟨d', st', TellsV.trans ?_ ht, hr⟩
 intro E v hc hst hrep
 subst hst
 obtain ⟨c1, c2⟩ := retell_env (bx' := ⟨bx.ty, bx.cells.take m, true, bx.ver, bx.live⟩) hc hb rfl rfl rfl (fun g z cur _ _ _ _ h1 _ => by
  refine ⟨by rw [List.length_take]; omega, (fun h => by cases h), fun j d hj => ?_⟩
  rw [List.getElem?_take] at hj
  split at hj
  ·exact .inl hj
  ·cases hj)
 exact ⟨⟨E.w, E.S, E.σ, E.st.set b ⟨bx.ty, bx.cells.take m, true, bx.ver, bx.live⟩⟩, rfl, rfl, c1, Rep.ext hc c2 _ _ hrep, fun F hF _ hx => Ext.trans hF hc.len hx c2⟩
theorem Rep.vers {E E' : Env} (hw : E'.w = E.w) (hS : E'.S = E.S) (h : ∀ (i : Nat) (bx : Box) (gz : Nat × Nat), E.st[i]? = some bx → E.σ[i]? = some gz → ∃ (bx' : Box) (gz' : Nat × Nat), E'.st[i]? = some bx' ∧ E'.σ[i]? = some gz' ∧ bx.ver ≤ bx'.ver ∧ (bx.ver = bx'.ver → gz = gz')) :
  ∀ (d : DV) (u : Value), Rep E d u → Rep E' d u := by
 intro d
 refine DV.rec (motive_1 := fun d => ∀ u, Rep E d u → Rep E' d u) (motive_2 := fun ds => ∀ vs, Reps E ds vs → Reps E' ds vs) ?_ ?_ ?_ ?_ ?_ ?_ ?_ ?_ ?_ ?_ d
 ·intro u _; trivial
 ·intro p u h; simp only [Rep] at h ⊢; rw [hw, hS]; exact h
 ·intro cs ih u ⟨vs, h1, h3, h2⟩; exact ⟨vs, h1, h3, ih vs h2⟩
 ·intro cs ih u ⟨vs, h1, h2⟩; exact ⟨vs, h1, ih vs h2⟩
 ·intro b' ver o u ⟨bi, gz, h1, h2, h0, h3, h4⟩
  obtain ⟨bi', gz', q1, q2, q3, q4⟩ := h b' bi gz h1 h2
  refine ⟨bi', gz', q1, q2, h0, by omega, fun e => ?_⟩
  have e1 : bi.ver = bi'.ver := by omega
  rw [← q4 e1]
  exact h4 (by omega)
 ·intro cs u ⟨a, h1, h2, h3⟩
  exact ⟨a, h1, by rw [hS]; exact h2, by rw [hw, hS]; exact h3⟩
 ·intro sz' b' ver o n u ⟨bi, gz, h1, h2, h0, h3, h4⟩
  obtain ⟨bi', gz', q1, q2, q3, q4⟩ := h b' bi gz h1 h2
  refine ⟨bi', gz', q1, q2, h0, by omega, fun e => ?_⟩
  have e1 : bi.ver = bi'.ver := by omega
  rw [← q4 e1]
  exact h4 (by omega)
 ·intro f cs ih u ⟨vs, h1, h2⟩; exact ⟨vs, h1, ih vs h2⟩
 ·intro vs h; cases vs <;> first | trivial | exact h.elim
 ·intro d ds ih1 ih2 vs h
  cases vs with
  | nil => exact h.elim
  | cons v vs => exact ⟨ih1 v h.1, ih2 vs h.2⟩
theorem TellsV.bump {k : Nat} {st : Store} {b sz o n : Nat} {bx : Box} (hb : st[b]? = some bx) (hl : bx.live = true) :
  TellsV k (.view sz b bx.ver o n) st (.view sz b (bx.ver + 1) o n) (st.set b ⟨bx.ty, bx.cells, bx.ext, bx.ver + 1, true⟩) := by
 intro E v hc hst hrep
 subst hst
 have hbl := (List.getElem?_eq_some_iff.1 hb).1
 have hv : ∀ (i : Nat) (bi : Box) (gz : Nat × Nat), E.st[i]? = some bi → E.σ[i]? = some gz → ∃ (bx' : Box) (gz' : Nat × Nat), (E.st.set b ⟨bx.ty, bx.cells, bx.ext, bx.ver + 1, true⟩)[i]? = some bx' ∧ E.σ[i]? = some gz' ∧ bi.ver ≤ bx'.ver ∧ (bi.ver = bx'.ver → gz = gz') := by
  intro i bi gz h1 h2
  by_cases e : i = b
  ·subst e
   rw [hb] at h1; cases h1
   exact ⟨⟨bx.ty, bx.cells, bx.ext, bx.ver + 1, true⟩, gz, by simp [hbl], h2, by simp, fun _ => rfl⟩
  ·exact ⟨bi, gz, by simp [Ne.symm e, h1], h2, Nat.le_refl _, fun _ => rfl⟩
 have key := Rep.vers (E := E) (E' := ⟨E.w, E.S, E.σ, E.st.set b ⟨bx.ty, bx.cells, bx.ext, bx.ver + 1, true⟩⟩) rfl rfl hv
 refine ⟨⟨E.w, E.S, E.σ, E.st.set b ⟨bx.ty, bx.cells, bx.ext, bx.ver + 1, true⟩⟩, rfl, rfl, ⟨by simp [hc.len], fun i bi g z h1 h2 hli => ?_, hc.inj, hc.old, hc.lt⟩, ?_, fun F hF hk hx => ?_⟩
 ·simp only at h1 h2
  by_cases e : i = b
  ·subst e
   simp [hbl] at h1
   subst h1
   obtain ⟨cur, a1, a2, a3, a4, a5, a6, a7, a8⟩ := hc.box i bx g z hb h2 hl
   refine ⟨cur, a1, a2, a3, a4, a5, a6, fun j d hj => ?_, a8⟩
   obtain ⟨u, e1, e2, e3⟩ := a7 j d hj
   exact ⟨u, e1, e2, key d u e3⟩
  ·simp [Ne.symm e] at h1
   obtain ⟨cur, a1, a2, a3, a4, a5, a6, a7, a8⟩ := hc.box i bi g z h1 h2 hli
   refine ⟨cur, a1, a2, a3, a4, a5, a6, fun j d hj => ?_, a8⟩
   obtain ⟨u, e1, e2, e3⟩ := a7 j d hj
   exact ⟨u, e1, e2, key d u e3⟩
 ·obtain ⟨bi, gz, h1, h2, h0, h3, h4⟩ := hrep
  rw [hb] at h1; cases h1
  exact ⟨⟨bx.ty, bx.cells, bx.ext, bx.ver + 1, true⟩, gz, by simp [hbl], h2, h0, Nat.le_refl _, fun _ => h4 rfl⟩
 ·refine ⟨hx.size, hx.os, hx.tape, hx.output, hx.set, hx.fresh, hx.heap, fun i bi gz h1 h2 => ?_, hx.new⟩
  obtain ⟨bx1, gz1, p1, p2, p3, p4, p5, p6⟩ := hx.box i bi gz h1 h2
  by_cases e : i = b
  ·subst e
   rw [hb] at p1; cases p1
   refine ⟨⟨bx.ty, bx.cells, bx.ext, bx.ver + 1, true⟩, gz1, by simp [hbl], p2, by show bi.ver ≤ bx.ver + 1; omega, fun e => by have e1 : bi.ver = bx.ver + 1 := e; omega, fun hd => ?_, p6⟩
   have := p5 hd
   rw [hl] at this; cases this
  ·exact ⟨bx1, gz1, by simp [Ne.symm e, p1], p2, p3, p4, p5, p6⟩
theorem ret_bump {k : Nat} {R : DV → Store → Prop} {st : Store} {b sz o n ver ty : Nat} {cells : List DV} {ext : Bool} (hb : st[b]? = some ⟨ty, cells, ext, ver, true⟩) (h : RetW k R (.view sz b (ver + 1) o n) (st.set b ⟨ty, cells, ext, ver + 1, true⟩)) : RetW k R (.view sz b ver o n) st := by
 obtain ⟨d', st', ht, hr⟩ := h
 exact ⟨d', st', TellsV.trans (TellsV.bump (bx := ⟨ty, cells, ext, ver, true⟩) hb rfl) ht, hr⟩
theorem wpD_after {P : Program} {N : Nat} {c : Code} {Q : Exit → Slots → Store → Prop} {s : Slots} {st : Store} (h : wpD P N c (fun e s' st' => ∃ s2 st2, Tells st.length s' st' s2 st2 ∧ Q e s2 st2) s st) : wpD P N c Q s st := by
 intro E a hc hst hs
 refine wp_mono (h E a hc hst hs) ?_
 rintro e a' w' ⟨s', E', rfl, ⟨s2, st2, ht, hq⟩, h1, h2, h3⟩
 obtain ⟨E2, a1, a2, a3, a4, a5⟩ := ht E' N a' h1 rfl h3
 exact ⟨s2, E2, a1, by rw [a2]; exact hq, a3, a5 E hc.len (by rw [hst]; exact Nat.le_refl _) h2, a4⟩
def toldUP (s : SL) : SL → Prop
 | [] => True
 | (i, d) :: l => (UpD (getS s i) d ∨ d = .any) ∧ toldUP s l
theorem toldUP_get {s : SL} : ∀ {l : SL}, toldUP s l → ∀ i, UpD (getS s i) (getS l i) ∨ getS l i = .any
 | [], _, i => .inr rfl
 | (j, d) :: l, h, i => by
     by_cases hi : i = j
     ·subst hi
      simpa [getS] using h.1
     ·have := toldUP_get h.2 i
      have e : getS ((j, d) :: l) i = getS l i := by
       have e0 : (i == j) = false := by simp [hi]
       simp only [getS, e0]
      rw [e]
      exact this
end Go.Proofs.Ytadnpgkddgbhkaa
