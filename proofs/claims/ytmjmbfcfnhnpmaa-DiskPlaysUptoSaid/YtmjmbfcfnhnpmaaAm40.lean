/- The program logic, fortieth part: regions in any order whose last operation alone turns something, and waits for all others. No condition: lemmas of any program. -/
import Derived.Test.YtmjmbfcfnhnpmaaAm39
namespace Go.Proofs.Ytmjmbfcfnhnpmaa
open Go.RowKit
set_option linter.all false
def anyZ (P : Program) (N : Nat) (ops : Array Oper) (st : Store) (z : Nat) (K : Slots → Prop) : Nat → Array Bool → Slots → Prop
  | 0, listed, s => Region.ready .any ops listed = [z] ∧ Region.ready .any ops (listed.setIfInBounds z true) = [] ∧ K s
  | fuel + 1, listed, s => Region.ready .any ops listed ≠ [] ∧ ∀ i ∈ Region.ready .any ops listed, ∀ o, ops[i]? = some o → ∃ d, Yld P ops o s st d ∧ dstOk N o.dst ∧ anyZ P N ops st z K fuel (listed.setIfInBounds i true) (putS o.dst d s)
/-- What is done has all done that it waits for. -/
def Clo (ops : Array Oper) (listed : Array Bool) : Prop := ∀ j o, listed.getD j false = true → ops[j]? = some o → ∀ e ∈ o.after, Region.binds .any e = true → listed.getD e.on false = true
theorem Clo.set {ops : Array Oper} {listed : Array Bool} (h : Clo ops listed) {i : Nat} (hr : i ∈ Region.ready .any ops listed) : Clo ops (listed.setIfInBounds i true) := by
  intro j o hj ho e he hb
  by_cases hji : j = i
  · subst hji
    obtain ⟨_, o', ho', hall⟩ := mem_ready.1 hr
    rw [ho] at ho'; cases ho'
    exact getD_set_true (hall e he hb)
  · rw [getD_set_ne false (Ne.symm hji)] at hj
    exact getD_set_true (h j o hj ho e he hb)
def edgeB (o : Oper) (i : Nat) : Bool := o.after.any fun e => Region.binds .any e && e.on == i
/-- The last one waits for each. -/
def waitsB (ops : Array Oper) (z : Nat) : Bool := match ops[z]? with
  | some oz => (List.range z).all fun i => edgeB oz i || oz.after.any fun e => Region.binds .any e && match ops[e.on]? with
    | some o => edgeB o i
    | none => false
  | none => false
theorem edgeB_spec {o : Oper} {i : Nat} (h : edgeB o i = true) : ∃ e ∈ o.after, Region.binds .any e = true ∧ e.on = i := by
  obtain ⟨e, he, hb⟩ := Array.any_eq_true'.1 h
  simp only [Bool.and_eq_true, beq_iff_eq] at hb
  exact ⟨e, he, hb.1, hb.2⟩
theorem waitsB_spec {ops : Array Oper} {z : Nat} (h : waitsB ops z = true) {i : Nat} (hi : i < z) {listed : Array Bool} (hcl : Clo ops listed) (hl : listed.getD i false = false) : z ∉ Region.ready .any ops listed := by
  unfold waitsB at h
  intro hz
  obtain ⟨_, o, ho, hall⟩ := mem_ready.1 hz
  rw [ho] at h
  simp only [List.all_eq_true, List.mem_range, Bool.or_eq_true] at h
  rcases h i hi with h1 | h1
  · obtain ⟨e, he, hb, rfl⟩ := edgeB_spec h1
    rw [hall e he hb] at hl
    cases hl
  · obtain ⟨e, he, hb⟩ := Array.any_eq_true'.1 h1
    simp only [Bool.and_eq_true] at hb
    obtain ⟨hb, hq⟩ := hb
    split at hq
    · rename_i o1 ho1
      obtain ⟨e1, he1, hb1, rfl⟩ := edgeB_spec hq
      rw [hcl _ o1 (hall e he hb) ho1 e1 he1 hb1] at hl
      cases hl
    · cases hq
theorem anyZ_first {P : Program} {N : Nat} {ops : Array Oper} {st : Store} {z : Nat} {K : Slots → Prop} (hw : waitsB ops z = true) {i : Nat} (hiz : i < z) {oi : Oper} {d : DV} (hi : ops[i]? = some oi) : ∀ (fuel : Nat) (listed : Array Bool) (s : Slots), Clo ops listed →
    (∀ j oj, ops[j]? = some oj → j ≠ i → listed.getD j true = false → (∀ e ∈ oj.after, Region.binds .any e = true → e.on ≠ i) → oi.apart ops oj = true) →
    i ∈ Region.ready .any ops listed → Yld P ops oi s st d → dstOk N oi.dst → anyZ P N ops st z K fuel (listed.setIfInBounds i true) (putS oi.dst d s) → anyZ P N ops st z K (fuel + 1) listed s := by
  intro fuel
  induction fuel with
  | zero =>
    intro listed s hcl _ hr hy hd H
    refine ⟨fun h => (by rw [h] at hr; cases hr), fun j hj oj hoj => ?_⟩
    by_cases hji : j = i
    · subst hji
      rw [hi] at hoj; cases hoj
      exact ⟨d, hy, hd, H⟩
    · have h1 := ready_mono hj hji
      rw [H.1] at h1
      have hjz : j = z := by simpa using h1
      subst hjz
      have hl : listed.getD i false = false := by
        have := (mem_ready.1 hr).1
        rcases Nat.lt_or_ge i listed.size with h' | h'
        · simpa [h'] using this
        · simp [Array.getElem?_eq_none h']
      exact absurd hj (waitsB_spec hw hiz hcl hl)
  | succ fuel ih =>
    intro listed s hcl hfree hr hy hd H
    refine ⟨fun h => (by rw [h] at hr; cases hr), fun j hj oj hoj => ?_⟩
    by_cases hji : j = i
    · subst hji
      rw [hi] at hoj; cases hoj
      exact ⟨d, hy, hd, H⟩
    · obtain ⟨dj, hyj, hdj, hK⟩ := H.2 j (ready_mono hj hji) oj hoj
      obtain ⟨hjun, oj', hoj', hall⟩ := mem_ready.1 hj
      rw [hoj] at hoj'; cases hoj'
      have hnot : ∀ e ∈ oj.after, Region.binds .any e = true → e.on ≠ i := fun e he hb heq => by
        have h1 := hall e he hb
        have h0 := (mem_ready.1 hr).1
        rw [heq] at h1
        rcases Nat.lt_or_ge i listed.size with h' | h'
        · simp [h'] at h0 h1; rw [h0] at h1; cases h1
        · simp [Array.getElem?_eq_none h'] at h1
      obtain ⟨a1, a2, a3⟩ := Oper.apart_spec (hfree j oj hoj hji hjun hnot)
      have hfree' : ∀ k ok, ops[k]? = some ok → k ≠ i → (listed.setIfInBounds j true).getD k true = false →
          (∀ e ∈ ok.after, Region.binds .any e = true → e.on ≠ i) → oi.apart ops ok = true := fun k ok hk hki hun hno => by
        refine hfree k ok hk hki ?_ hno
        by_cases hjk : j = k
        · subst hjk; exact hjun
        · rw [getD_set_ne true hjk] at hun; exact hun
      refine ⟨dj, (Yld.put a1).1 hyj, hdj, ih (listed.setIfInBounds j true) _ (hcl.set hj) hfree' (ready_mono hr (Ne.symm hji)) ((Yld.put a3).2 hy) hd ?_⟩
      rw [Array.setIfInBounds_comm _ _ hji, ← putS_comm a2]
      exact hK
def lexZ (ops : Array Oper) (z : Nat) : Nat → Nat → Array Bool → Bool
  | 0, _, listed => (Region.ready .any ops listed == [z]) && (Region.ready .any ops (listed.setIfInBounds z true)).isEmpty
  | fuel + 1, k, listed => decide (k < z) && (Region.ready .any ops listed).contains k && Region.free .any ops listed k && lexZ ops z fuel (k + 1) (listed.setIfInBounds k true)
theorem anyZ_lex {P : Program} {N : Nat} {ops : Array Oper} {st : Store} {z : Nat} {K : Slots → Prop} (hw : waitsB ops z = true) : ∀ (l : List Oper) (k : Nat) (listed : Array Bool) (s : Slots), Clo ops listed → (∀ j, j < l.length → l[j]? = ops[k + j]?) →
    lexZ ops z l.length k listed = true → pureL P N ops st K l s → anyZ P N ops st z K l.length listed s
  | [], k, listed, s, _, _, hB, h => by
      simp only [List.length_nil, lexZ, Bool.and_eq_true, beq_iff_eq, List.isEmpty_iff] at hB
      exact ⟨hB.1, hB.2, h⟩
  | o :: l, k, listed, s, hcl, hl, hB, h => by
    have h0 : ops[k]? = some o := by simpa using (hl 0 (by simp)).symm
    simp only [List.length_cons, lexZ, Bool.and_eq_true, decide_eq_true_eq] at hB
    obtain ⟨⟨⟨hk, hr⟩, hf⟩, hB'⟩ := hB
    obtain ⟨d, hy, hd, hK⟩ := h
    exact anyZ_first hw hk h0 l.length listed s hcl (Region.free_spec h0 hf) (by simpa using hr) hy hd
      (anyZ_lex hw l (k + 1) _ _ (hcl.set (by simpa using hr)) (fun j hj => by have := hl (j + 1) (by simpa using hj); simpa [Nat.add_assoc, Nat.add_comm 1 j] using this) hB' hK)
theorem anyZ_ok {P : Program} {N : Nat} {ops : Array Oper} {Q : Exit → Act → World → Prop} {K : Slots → Prop} {z : Nat} {oz : Oper} (hz : ops[z]? = some oz) {st : Store} : ∀ (fuel : Nat) (listed : Array Bool) (s : Slots) (E : Env) (a : Act), Conc E → E.st = st → SlotsOk E N s a → anyZ P N ops st z K fuel listed s →
    (∀ (s' : Slots) (a' : Act) (E' : Env), K s' → Conc E' → Ext E E' → E'.st = st → SlotsOk E' N s' a' → ∀ next : Act → World → Prop, (∀ a w, Q .normal a w → next a w) →
      if Region.wanted oz (yielded ops a'.tmps) then oz.wp P a' E'.w next Q ∨ (oz.asks P a' E'.w ∧ LetsOut Q) else next (a'.put oz.dst undef) E'.w) → wpAny P .any ops Q (fuel + 1) listed a E.w
  | 0, listed, s, E, a, hc, hst, hs, h, hn => by
      refine ⟨fun h0 => (by rw [h.1] at h0; cases h0), fun i hi => ?_⟩
      rw [h.1] at hi
      have : i = z := by simpa using hi
      subst this
      unfold wpOp
      simp only [hz]
      exact hn s a E h.2.2 hc (Ext.refl E) hst hs _ fun a w hq => ⟨h.2.1, hq⟩
  | fuel + 1, listed, s, E, a, hc, hst, hs, h, hn => by
      refine ⟨fun h0 => absurd h0 h.1, fun i hi => ?_⟩
      obtain ⟨o, ho⟩ := ready_some hi
      obtain ⟨d, hy, hd, hK⟩ := h.2 i hi o ho
      unfold wpOp
      simp only [ho]
      have hstep : stepD P N ops o s E.st fun s' st' => s' = putS o.dst d s ∧ st' = st := by
        rw [hst]
        rcases hy with ⟨hw, hy⟩ | ⟨hw, rfl⟩
        · simp only [stepD, hw]
          exact ⟨hd, hy _ ⟨rfl, rfl⟩⟩
        · simp only [stepD, hw]
          exact ⟨hd, by first | exact ⟨rfl, rfl⟩ | trivial | simp⟩
      exact step_ok (P := P) (Q := Q) (ops := ops) (next := wpAny P .any ops Q (fuel + 1) (listed.setIfInBounds i true)) hc hs o hstep fun s' a' E' hk h1 h2 h3 => by
        obtain ⟨rfl, hk2⟩ := hk
        exact anyZ_ok hz fuel _ _ E' a' h1 hk2 h3 hK fun s2 a2 E2 k1 k2 k3 k4 k5 => hn s2 a2 E2 k1 k2 (Ext.trans hc.len h1.len h2 k3) k4 k5
def lastC (T : Unit → Tab) (A : Ar) (X : Cps) (H : Unit → Kn) (N : Nat) (o : Option Oper) (s : SL) (st : Store) (Q : SL → Store → Prop) : Prop := match o with
  | some o => (match dstB N o.dst, o.guard with
    | true, none => opC T A X H o.op s st fun d st' => Q (putL o.dst d s) st'
    | _, _ => False)
  | none => False
/-- All but the last. -/
def butLast {α : Type} : List α → List α
  | [] => []
  | o :: l => match l with
    | [] => []
    | p :: l => o :: butLast (p :: l)
def theLast {α : Type} : List α → Option α
  | [] => none
  | o :: l => match l with
    | [] => some o
    | p :: l => theLast (p :: l)
theorem butLast_spec {α : Type} {o : α} {l : List α} (h : theLast l = some o) : l = butLast l ++ [o] := by
  induction l with
  | nil => cases h
  | cons a l ih =>
    cases l with
    | nil => cases h; rfl
    | cons b l =>
      have := ih h
      show a :: b :: l = a :: (butLast (b :: l) ++ [o])
      rw [← this]
def lastB (ops : Array Oper) : Bool := waitsB ops (ops.size - 1) && lexZ ops (ops.size - 1) (ops.size - 1) 0 (Array.replicate ops.size false)
theorem regionZ {P : Program} {T : Unit → Tab} (hT : TabOk P (T ())) {H : Unit → Kn} (hH : SoundK P (H ())) (hm : P.follows .mixedOrders = true) {N : Nat} {Q : Exit → SL → Store → Prop} {s : SL} {st : Store} {id : Nat} {ops : Array Oper} {A : Ar} {X : Cps} (hA : A = A0) (hX : X = X0 P N)
    (hz : lastB ops = true) (h : spM T A H N ops (butLast ops.toList) s [] st fun sp => lastC T A X H N (theLast ops.toList) sp st (Q .normal)) : X.st (.region id ops true) Q s st := by
  subst hA; subst hX
  obtain ⟨l⟩ := ops
  show wpD P N (.region id l.toArray true) (lessQ Q) (getS s) st
  have h1 := spM_pure hT hH (butLast l) (getS s) s [] (fun k => by simp [wOf, getW]) h
  cases hlast : theLast l with
  | none =>
    exfalso
    have : l = [] := by
      clear h h1 hz
      induction l with
      | nil => rfl
      | cons a l ih =>
        cases l with
        | nil => cases hlast
        | cons b l => exact absurd (ih hlast) (by simp)
    subst this
    simp [lastB, waitsB] at hz
  | some oz =>
    have hl := butLast_spec hlast
    have hsz : l.length = (butLast l).length + 1 := by conv => lhs; rw [hl]; simp
    simp only [lastB, Bool.and_eq_true, List.size_toArray, hsz, Nat.add_sub_cancel] at hz
    have hoz : l.toArray[(butLast l).length]? = some oz := by
      rw [List.getElem?_toArray, hl, List.getElem?_append_right (by simp [← hl])]
      simp [← hl]
    intro E a hc hst hs
    subst hst
    obtain ⟨c1, c2⟩ := newNone hc { E.w with drawn := E.w.drawn + 1 } (Nat.le_refl _) (fun _ _ => rfl) rfl rfl rfl
    refine wp_region_any hm ?_
    rw [show l.toArray.size = (butLast l).length + 1 from by simp [hsz]]
    have hpre : ∀ j, j < (butLast l).length → (butLast l)[j]? = l.toArray[0 + j]? := fun j hj => by
      rw [List.getElem?_toArray, Nat.zero_add]
      conv => rhs; rw [hl]
      rw [List.getElem?_append_left hj]
    refine anyZ_ok hoz _ _ (getS s) ⟨{ E.w with drawn := E.w.drawn + 1 }, E.S, E.σ, E.st⟩ a c1 rfl (hs.ext hc c2) (anyZ_lex hz.1 (butLast l) 0 _ _ (fun j o hj => by simp [Array.getElem?_replicate] at hj; split at hj <;> simp at hj) hpre hz.2 h1) ?_
    rintro s' a' E' ⟨sp, hsp, hq⟩ k1 k2 k3 k4 next hnext
    have k5 := k4.less hsp
    rw [hlast] at hq
    unfold lastC at hq
    simp only at hq
    split at hq
    · rename_i hd hg
      have hop := opC_D hT hH hq
      have e : (fun d st' => Q .normal (putL oz.dst d sp) st') = fun d st' => Q .normal (againL oz.dst (putS oz.dst d (getS sp)) sp) st' ∧ getS (againL oz.dst (putS oz.dst d (getS sp)) sp) = putS oz.dst d (getS sp) := by
        funext d st'
        rw [againL_put, getS_putL]
        simp
      rw [e] at hop
      have hst : stepD P N l.toArray oz (getS sp) E'.st fun s2 st' => Q .normal (againL oz.dst s2 sp) st' ∧ getS (againL oz.dst s2 sp) = s2 := by
        rw [k3]
        unfold stepD
        have : wantedD l.toArray oz.guard (getS sp) = some true := by rw [hg]; rfl
        simp only [this]
        exact ⟨dstB_ok hd, hop⟩
      refine step_ok (P := P) (Q := _) (ops := l.toArray) (next := next) k1 k5 oz hst fun s2 a2 E2 hk q1 q2 q3 => hnext _ _ ?_
      refine ⟨s2, E2, rfl, ⟨againL oz.dst s2 sp, fun k => .inl (by rw [hk.2]), hk.1⟩, q1, ?_, q3⟩
      exact Ext.trans hc.len c1.len c2 (Ext.trans c1.len k1.len k2 q2)
    · exact hq.elim
end Go.Proofs.Ytmjmbfcfnhnpmaa
