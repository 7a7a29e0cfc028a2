/- The program logic, forty-fourth part: regions in any order that call functions that turn boxes, whose last operation turns something and waits for all others. No condition: lemmas of any program. -/
import Derived.Test.YtmjmbfcfnhnpmaaAm43
namespace Go.Proofs.Ytmjmbfcfnhnpmaa
open Go.RowKit
set_option linter.all false
def anyIZ (ids : List FuncId) (P : Program) (N : Nat) (ops : Array Oper) (sts : Nat → Store) (m z : Nat) (K : Slots → Prop) : Nat → Array Bool → Slots → Nat → Prop
  | 0, listed, s, k => Region.ready .any ops listed = [z] ∧ Region.ready .any ops (listed.setIfInBounds z true) = [] ∧ k = m ∧ K s
  | fuel + 1, listed, s, k => Region.ready .any ops listed ≠ [] ∧
      ∀ i ∈ Region.ready .any ops listed, ∀ o, ops[i]? = some o → ∃ d k', StepI ids P ops sts m o s k d k' ∧ dstOk N o.dst ∧ anyIZ ids P N ops sts m z K fuel (listed.setIfInBounds i true) (putS o.dst d s) k'
theorem anyIZ_first {ids : List FuncId} {P : Program} {N : Nat} {ops : Array Oper} {sts : Nat → Store} {m z : Nat} {K : Slots → Prop} (hT : turnsI ids ops = true) (hw : waitsB ops z = true) {i : Nat} (hiz : i < z) {oi : Oper} {d : DV} (hi : ops[i]? = some oi) : ∀ (fuel : Nat) (listed : Array Bool) (s : Slots) (k k' : Nat), Clo ops listed →
    (∀ j oj, ops[j]? = some oj → j ≠ i → listed.getD j true = false → (∀ e ∈ oj.after, Region.binds .any e = true → e.on ≠ i) → oi.apart ops oj = true) →
    i ∈ Region.ready .any ops listed → StepI ids P ops sts m oi s k d k' → dstOk N oi.dst → anyIZ ids P N ops sts m z K fuel (listed.setIfInBounds i true) (putS oi.dst d s) k' → anyIZ ids P N ops sts m z K (fuel + 1) listed s k := by
  intro fuel
  induction fuel with
  | zero =>
    intro listed s k k' hcl _ hr hy hd H
    refine ⟨fun h => (by rw [h] at hr; cases hr), fun j hj oj hoj => ?_⟩
    by_cases hji : j = i
    · subst hji
      rw [hi] at hoj; cases hoj
      exact ⟨d, k', hy, hd, H⟩
    · have h1 := ready_mono hj hji
      rw [H.1] at h1
      have hjz : j = z := by simpa using h1
      subst hjz
      have hl : listed.getD i false = false := by
        have := (mem_ready.1 hr).1
        rcases Nat.lt_or_ge i listed.size with h' | h'
        · simpa [h'] using this
        · simp [Array.getElem?_eq_none h']
      exact absurd hj (waitsB_spec hw hiz hcl hl)
  | succ fuel ih =>
    intro listed s k k' hcl hfree hr hy hd H
    refine ⟨fun h => (by rw [h] at hr; cases hr), fun j hj oj hoj => ?_⟩
    by_cases hji : j = i
    · subst hji
      rw [hi] at hoj; cases hoj
      exact ⟨d, k', hy, hd, H⟩
    · obtain ⟨dj, kj, hyj, hdj, hK⟩ := H.2 j (ready_mono hj hji) oj hoj
      obtain ⟨hjun, oj', hoj', hall⟩ := mem_ready.1 hj
      rw [hoj] at hoj'; cases hoj'
      obtain ⟨hiun, oi', hoi', halli⟩ := mem_ready.1 hr
      rw [hi] at hoi'; cases hoi'
      have unl : ∀ q, listed.getD q true = false → listed.getD q false = true → False := fun q h0 h1 => by
        rcases Nat.lt_or_ge q listed.size with h' | h'
        · simp [h'] at h0 h1; rw [h0] at h1; cases h1
        · simp [Array.getElem?_eq_none h'] at h1
      have hnot : ∀ e ∈ oj.after, Region.binds .any e = true → e.on ≠ i := fun e he hb heq => by
        have h1 := hall e he hb
        rw [heq] at h1
        exact unl i hiun h1
      have hnoti : ∀ e ∈ oi.after, Region.binds .any e = true → e.on ≠ j := fun e he hb heq => by
        have h1 := halli e he hb
        rw [heq] at h1
        exact unl j hjun h1
      have hboth : tnI ids oi.op = true → tnI ids oj.op = true → False := fun h1 h2 => by
        rcases Nat.lt_or_gt_of_ne hji with h | h
        · obtain ⟨e, e1, e2, e3⟩ := turnsI_spec hT hoj hi h h2 h1
          exact hnoti e e1 e2 e3
        · obtain ⟨e, e1, e2, e3⟩ := turnsI_spec hT hi hoj h h1 h2
          exact hnot e e1 e2 e3
      obtain ⟨a1, a2, a3⟩ := Oper.apart_spec (hfree j oj hoj hji hjun hnot)
      have hfree' : ∀ k ok, ops[k]? = some ok → k ≠ i → (listed.setIfInBounds j true).getD k true = false →
          (∀ e ∈ ok.after, Region.binds .any e = true → e.on ≠ i) → oi.apart ops ok = true := fun k ok hk hki hun hno => by
        refine hfree k ok hk hki ?_ hno
        by_cases hjk : j = k
        · subst hjk; exact hjun
        · rw [getD_set_ne true hjk] at hun; exact hun
      have hyj' := (StepI.put a1).1 hyj
      have swap : ∃ k1, StepI ids P ops sts m oj s k dj k1 ∧ StepI ids P ops sts m oi s k1 d kj := by
        unfold StepI at hy hyj' ⊢
        by_cases h1 : tnI ids oi.op = true
        · by_cases h2 : tnI ids oj.op = true
          · exact (hboth h1 h2).elim
          · rw [if_pos h1] at hy
            rw [if_neg h2] at hyj'
            obtain ⟨q1, rfl⟩ := hyj'
            refine ⟨k, ?_, ?_⟩
            · rw [if_neg h2]; exact ⟨q1, rfl⟩
            · rw [if_pos h1]; exact hy
        · rw [if_neg h1] at hy
          obtain ⟨q1, rfl⟩ := hy
          refine ⟨kj, hyj', ?_⟩
          rw [if_neg h1]
          exact ⟨q1, rfl⟩
      obtain ⟨k1, w1, w2⟩ := swap
      refine ⟨dj, k1, w1, hdj, ih (listed.setIfInBounds j true) _ k1 kj (hcl.set hj) hfree' (ready_mono hr (Ne.symm hji)) ((StepI.put a3).2 w2) hd ?_⟩
      rw [Array.setIfInBounds_comm _ _ hji, ← putS_comm a2]
      exact hK
theorem anyIZ_lex {ids : List FuncId} {P : Program} {N : Nat} {ops : Array Oper} {sts : Nat → Store} {m z : Nat} {K : Slots → Prop} (hT : turnsI ids ops = true) (hw : waitsB ops z = true) : ∀ (l : List Oper) (k : Nat) (listed : Array Bool) (s : Slots) (n : Nat), Clo ops listed → (∀ j, j < l.length → l[j]? = ops[k + j]?) →
    lexZ ops z l.length k listed = true → lexI ids P N ops sts m K l s n → anyIZ ids P N ops sts m z K l.length listed s n
  | [], k, listed, s, n, _, _, hB, h => by
      simp only [List.length_nil, lexZ, Bool.and_eq_true, beq_iff_eq, List.isEmpty_iff] at hB
      exact ⟨hB.1, hB.2, h.1, h.2⟩
  | o :: l, k, listed, s, n, hcl, hl, hB, h => by
    have h0 : ops[k]? = some o := by simpa using (hl 0 (by simp)).symm
    simp only [List.length_cons, lexZ, Bool.and_eq_true, decide_eq_true_eq] at hB
    obtain ⟨⟨⟨hk, hr⟩, hf⟩, hB'⟩ := hB
    obtain ⟨d, k', hy, hd, hK⟩ := h
    exact anyIZ_first hT hw hk h0 l.length listed s n k' hcl (Region.free_spec h0 hf) (by simpa using hr) hy hd
      (anyIZ_lex hT hw l (k + 1) _ _ k' (hcl.set (by simpa using hr)) (fun j hj => by have := hl (j + 1) (by simpa using hj); simpa [Nat.add_assoc, Nat.add_comm 1 j] using this) hB' hK)
theorem anyIZ_ok {ids : List FuncId} {P : Program} {N : Nat} {ops : Array Oper} {sts : Nat → Store} {m : Nat} {Q : Exit → Act → World → Prop} {K : Slots → Prop} {z : Nat} {oz : Oper} (hz : ops[z]? = some oz) : ∀ (fuel : Nat) (listed : Array Bool) (s : Slots) (k : Nat) (E : Env) (a : Act), k ≤ m → Conc E → E.st = sts k → SlotsOk E N s a → anyIZ ids P N ops sts m z K fuel listed s k →
    (∀ (s' : Slots) (a' : Act) (E' : Env), K s' → Conc E' → Ext E E' → E'.st = sts m → SlotsOk E' N s' a' → ∀ next : Act → World → Prop, (∀ a w, Q .normal a w → next a w) →
      if Region.wanted oz (yielded ops a'.tmps) then oz.wp P a' E'.w next Q ∨ (oz.asks P a' E'.w ∧ LetsOut Q) else next (a'.put oz.dst undef) E'.w) → wpAny P .any ops Q (fuel + 1) listed a E.w
  | 0, listed, s, k, E, a, _, hc, hst, hs, h, hn => by
      refine ⟨fun h0 => (by rw [h.1] at h0; cases h0), fun i hi => ?_⟩
      rw [h.1] at hi
      have : i = z := by simpa using hi
      subst this
      unfold wpOp
      simp only [hz]
      exact hn s a E h.2.2.2 hc (Ext.refl E) (by rw [hst, h.2.2.1]) hs _ fun a w hq => ⟨h.2.1, hq⟩
  | fuel + 1, listed, s, k, E, a, hkm, hc, hst, hs, h, hn => by
      refine ⟨fun h0 => absurd h0 h.1, fun i hi => ?_⟩
      obtain ⟨o, ho⟩ := ready_some hi
      obtain ⟨d, k', hy, hd, hK⟩ := h.2 i hi o ho
      unfold wpOp
      simp only [ho]
      have key : k' ≤ m ∧ Stp P ops o s (sts k) d (sts k') := by
        unfold StepI at hy
        split at hy
        · exact ⟨by omega, hy.1⟩
        · obtain ⟨h1, rfl⟩ := hy
          exact ⟨hkm, h1 _ hkm⟩
      have hstep : stepD P N ops o s E.st fun s' st' => s' = putS o.dst d s ∧ st' = sts k' := by
        rw [hst]
        rcases key.2 with ⟨hw, hy⟩ | ⟨hw, rfl, e⟩
        · simp only [stepD, hw]
          exact ⟨hd, hy _ ⟨rfl, rfl⟩⟩
        · simp only [stepD, hw]
          exact ⟨hd, by first | exact ⟨rfl, e.symm⟩ | exact e.symm | exact ⟨trivial, e.symm⟩ | (simp; exact e.symm)⟩
      exact step_ok (P := P) (Q := Q) (ops := ops) (next := wpAny P .any ops Q (fuel + 1) (listed.setIfInBounds i true)) hc hs o hstep fun s' a' E' hk h1 h2 h3 => by
        obtain ⟨rfl, hk2⟩ := hk
        exact anyIZ_ok hz fuel _ _ k' E' a' key.1 h1 hk2 h3 hK fun s2 a2 E2 k1 k2 k3 k4 k5 => hn s2 a2 E2 k1 k2 (Ext.trans hc.len h1.len h2 k3) k4 k5
/-- A region in any order that calls functions that turn boxes; its last operation waits for all others. -/
theorem regionBZ (ids : List FuncId) {P : Program} {T : Unit → Tab} (hT : TabOk P (T ())) {H : Unit → Kn} (hH : SoundK P (H ())) {B : Unit → KnB} (hB : SoundB P (B ())) (hm : P.follows .mixedOrders = true) {N : Nat} {Q : Exit → SL → Store → Prop} {s : SL} {st : Store} {id : Nat} {ops : Array Oper} {A : Ar} {X : Cps} (hA : A = A0) (hX : X = X0 P N)
    (hz : lastB ops = true) (ht : turnsI ids ops = true) (h : mixB ids T A H B N ops (fun sp st' => lastC T A X H N (theLast ops.toList) sp st' (Q .normal)) (butLast ops.toList) s st [] []) : X.st (.region id ops true) Q s st := by
  subst hA; subst hX
  obtain ⟨l⟩ := ops
  show wpD P N (.region id l.toArray true) (lessQ Q) (getS s) st
  obtain ⟨later, h1, _⟩ := mixB_ok hT hH hB (butLast l) s st [] [] h
  cases hlast : theLast l with
  | none =>
    exfalso
    have : l = [] := by
      clear h h1 hz ht
      induction l with
      | nil => rfl
      | cons a l ih =>
        cases l with
        | nil => cases hlast
        | cons b l => exact absurd (ih hlast) (by simp)
    subst this
    simp [lastB, waitsB] at hz
  | some oz =>
    have hl := butLast_spec hlast
    have hsz : l.length = (butLast l).length + 1 := by conv => lhs; rw [hl]; simp
    simp only [lastB, Bool.and_eq_true, List.size_toArray, hsz, Nat.add_sub_cancel] at hz
    have hoz : l.toArray[(butLast l).length]? = some oz := by
      rw [List.getElem?_toArray, hl, List.getElem?_append_right (by simp [← hl])]
      simp [← hl]
    intro E a hc hst hs
    subst hst
    obtain ⟨c1, c2⟩ := newNone hc { E.w with drawn := E.w.drawn + 1 } (Nat.le_refl _) (fun _ _ => rfl) rfl rfl rfl
    refine wp_region_any hm ?_
    rw [show l.toArray.size = (butLast l).length + 1 from by simp [hsz]]
    have hpre : ∀ j, j < (butLast l).length → (butLast l)[j]? = l.toArray[0 + j]? := fun j hj => by
      rw [List.getElem?_toArray, Nat.zero_add]
      conv => rhs; rw [hl]
      rw [List.getElem?_append_left hj]
    refine anyIZ_ok (sts := rowSt [] E.st later) (m := ([] : List Store).length + later.length) hoz _ _ (getS s) ([] : List Store).length ⟨{ E.w with drawn := E.w.drawn + 1 }, E.S, E.σ, E.st⟩ a (Nat.le_add_right _ _) c1 (by rw [rowSt_at]) (hs.ext hc c2) (anyIZ_lex ht hz.1 (butLast l) 0 _ _ _ (fun j o hj => by simp [Array.getElem?_replicate] at hj; split at hj <;> simp at hj) hpre hz.2 h1) ?_
    rintro s' a' E' ⟨sp, hsp, hq⟩ k1 k2 k3 k4 next hnext
    have k5 := k4.less (s' := getS sp) (fun k => .inl (congrFun hsp k))
    rw [hlast] at hq
    unfold lastC at hq
    simp only at hq
    split at hq
    · rename_i hd hg
      have hop := opC_D hT hH hq
      have e : (fun d st' => Q .normal (putL oz.dst d sp) st') = fun d st' => Q .normal (againL oz.dst (putS oz.dst d (getS sp)) sp) st' ∧ getS (againL oz.dst (putS oz.dst d (getS sp)) sp) = putS oz.dst d (getS sp) := by
        funext d st'
        rw [againL_put, getS_putL]
        simp
      rw [e] at hop
      have hst : stepD P N l.toArray oz (getS sp) E'.st fun s2 st' => Q .normal (againL oz.dst s2 sp) st' ∧ getS (againL oz.dst s2 sp) = s2 := by
        rw [k3]
        unfold stepD
        have : wantedD l.toArray oz.guard (getS sp) = some true := by rw [hg]; rfl
        simp only [this]
        exact ⟨dstB_ok hd, hop⟩
      refine step_ok (P := P) (Q := _) (ops := l.toArray) (next := next) k1 k5 oz hst fun s2 a2 E2 hk q1 q2 q3 => hnext _ _ ?_
      refine ⟨s2, E2, rfl, ⟨againL oz.dst s2 sp, fun k => .inl (by rw [hk.2]), hk.1⟩, q1, ?_, q3⟩
      exact Ext.trans hc.len c1.len c2 (Ext.trans c1.len k1.len k2 q2)
    · exact hq.elim
end Go.Proofs.Ytmjmbfcfnhnpmaa
