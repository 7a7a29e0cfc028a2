/- The program logic, forty-third part: regions in any order whose last operation alone turns something, with slices that are settled as they are built, and known calls that read. No condition: lemmas of any program. -/
import Derived.Test.YtmjmbfcfnhnpmaaAm42
namespace Go.Proofs.Ytmjmbfcfnhnpmaa
open Go.RowKit
set_option linter.all false
def spZ (T : Unit → Tab) (A : Ar) (H : Unit → Kn) (R : Unit → KnR) (N : Nat) : List Oper → SL → Store → (SL → Prop) → Prop
  | [], s, _, Q => Q s
  | o :: rest, s, st, Q => match dstB N o.dst, o.guard with
    | true, none => (match pvL T A H R o.op s st with
      | some (cs, d) => allP cs (spZ T A H R N rest (putL o.dst d s) st Q)
      | none => False)
    | _, _ => False
theorem spZ_pure {P : Program} {T : Unit → Tab} (hT : TabOk P (T ())) {H : Unit → Kn} (hH : SoundK P (H ())) {R : Unit → KnR} (hR : SoundR P (R ())) {N : Nat} {ops : Array Oper} {st : Store} {Q : SL → Prop} : ∀ (l : List Oper) (s : SL), spZ T A0 H R N l s st Q →
    pureL P N ops st (fun s' => ∃ l, (∀ k, getS l k = s' k ∨ getS l k = .any) ∧ Q l) l (getS s)
  | [], s, h => ⟨s, fun _ => .inl rfl, h⟩
  | o :: rest, s, h => by
      unfold spZ at h
      split at h
      · rename_i hd hg
        split at h
        · rename_i cs d hv
          rw [allP_iff] at h
          obtain ⟨hc, h⟩ := h
          refine ⟨d, .inl ⟨by rw [hg]; rfl, fun K hK => pvL_D hT hH hR hv hc hK⟩, dstB_ok hd, ?_⟩
          have := spZ_pure hT hH hR (ops := ops) rest _ h
          rw [getS_putL] at this
          exact this
        · exact h.elim
      · exact h.elim
theorem regionY {P : Program} {T : Unit → Tab} (hT : TabOk P (T ())) {H : Unit → Kn} (hH : SoundK P (H ())) {R : Unit → KnR} (hR : SoundR P (R ())) (hm : P.follows .mixedOrders = true) {N : Nat} {Q : Exit → SL → Store → Prop} {s : SL} {st : Store} {id : Nat} {ops : Array Oper} {A : Ar} {X : Cps} (hA : A = A0) (hX : X = X0 P N)
    (hz : lastB ops = true) (h : spZ T A H R N (butLast ops.toList) s st fun sp => lastC T A X H N (theLast ops.toList) sp st (Q .normal)) : X.st (.region id ops true) Q s st := by
  subst hA; subst hX
  obtain ⟨l⟩ := ops
  show wpD P N (.region id l.toArray true) (lessQ Q) (getS s) st
  have h1 := spZ_pure (ops := l.toArray) hT hH hR (butLast l) s h
  cases hlast : theLast l with
  | none =>
    exfalso
    have : l = [] := by
      clear h h1 hz
      induction l with
      | nil => rfl
      | cons a l ih =>
        cases l with
        | nil => cases hlast
        | cons b l => exact absurd (ih hlast) (by simp)
    subst this
    simp [lastB, waitsB] at hz
  | some oz =>
    have hl := butLast_spec hlast
    have hsz : l.length = (butLast l).length + 1 := by conv => lhs; rw [hl]; simp
    simp only [lastB, Bool.and_eq_true, List.size_toArray, hsz, Nat.add_sub_cancel] at hz
    have hoz : l.toArray[(butLast l).length]? = some oz := by
      rw [List.getElem?_toArray, hl, List.getElem?_append_right (by simp [← hl])]
      simp [← hl]
    intro E a hc hst hs
    subst hst
    obtain ⟨c1, c2⟩ := newNone hc { E.w with drawn := E.w.drawn + 1 } (Nat.le_refl _) (fun _ _ => rfl) rfl rfl rfl
    refine wp_region_any hm ?_
    rw [show l.toArray.size = (butLast l).length + 1 from by simp [hsz]]
    have hpre : ∀ j, j < (butLast l).length → (butLast l)[j]? = l.toArray[0 + j]? := fun j hj => by
      rw [List.getElem?_toArray, Nat.zero_add]
      conv => rhs; rw [hl]
      rw [List.getElem?_append_left hj]
    refine anyZ_ok hoz _ _ (getS s) ⟨{ E.w with drawn := E.w.drawn + 1 }, E.S, E.σ, E.st⟩ a c1 rfl (hs.ext hc c2) (anyZ_lex hz.1 (butLast l) 0 _ _ (fun j o hj => by simp [Array.getElem?_replicate] at hj; split at hj <;> simp at hj) hpre hz.2 h1) ?_
    rintro s' a' E' ⟨sp, hsp, hq⟩ k1 k2 k3 k4 next hnext
    have k5 := k4.less hsp
    rw [hlast] at hq
    unfold lastC at hq
    simp only at hq
    split at hq
    · rename_i hd hg
      have hop := opC_D hT hH hq
      have e : (fun d st' => Q .normal (putL oz.dst d sp) st') = fun d st' => Q .normal (againL oz.dst (putS oz.dst d (getS sp)) sp) st' ∧ getS (againL oz.dst (putS oz.dst d (getS sp)) sp) = putS oz.dst d (getS sp) := by
        funext d st'
        rw [againL_put, getS_putL]
        simp
      rw [e] at hop
      have hst : stepD P N l.toArray oz (getS sp) E'.st fun s2 st' => Q .normal (againL oz.dst s2 sp) st' ∧ getS (againL oz.dst s2 sp) = s2 := by
        rw [k3]
        unfold stepD
        have : wantedD l.toArray oz.guard (getS sp) = some true := by rw [hg]; rfl
        simp only [this]
        exact ⟨dstB_ok hd, hop⟩
      refine step_ok (P := P) (Q := _) (ops := l.toArray) (next := next) k1 k5 oz hst fun s2 a2 E2 hk q1 q2 q3 => hnext _ _ ?_
      refine ⟨s2, E2, rfl, ⟨againL oz.dst s2 sp, fun k => .inl (by rw [hk.2]), hk.1⟩, q1, ?_, q3⟩
      exact Ext.trans hc.len c1.len c2 (Ext.trans c1.len k1.len k2 q2)
    · exact hq.elim
end Go.Proofs.Ytmjmbfcfnhnpmaa
