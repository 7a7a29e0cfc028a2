/- The program logic, twenty-fifth part: guarded rows for 'cbv'. No condition: lemmas of any program. -/
import Derived.Test.YtmjmbfcfnhnpmaaAm24
namespace Go.Proofs.Ytmjmbfcfnhnpmaa
open Go.RowKit
set_option linter.all false
theorem SlotsOk.less {E : Env} {N : Nat} {s s' : Slots} {a : Act} (h : SlotsOk E N s a) (hs : ∀ i, s' i = s i ∨ s' i = .any) : SlotsOk E N s' a :=
  ⟨h.size, fun i => by
    rcases hs i with e | e
    · rw [e]; exact h.rep i
    · rw [e]; trivial, h.defers⟩
def spG (T : Unit → Tab) (A : Ar) (X : Cps) (H : Unit → Kn) (N : Nat) (ops : Array Oper) : List Oper → SL → WL → Store → (SL → Store → Prop) → Prop
  | [], sp, wl, st, Q => Q (killW wl sp) st
  | o :: rest, sp, wl, st, Q => match dstB N o.dst, o.guard with
    | true, none => (match readsC A none wl sp o.op with
      | some cs => allP cs (opC T A X H o.op sp st fun d st' => spG T A X H N ops rest (putL o.dst d sp) (dropW o.dst wl) st' Q)
      | none => False)
    | true, some (j, w) => (match slotOf ops j with
      | some k => (match getS sp k with
        | .d (.sc (.bool t)) => (match readsC A (some (andW A (getW wl k) (A.is t w))) wl sp o.op, spV T A H o.op sp st with
          | some cs, some (ds, d) => allP cs (allP (whenL A (andW A (getW wl k) (A.is t w)) ds) (spG T A X H N ops rest (putL o.dst d sp) (setW o.dst (andW A (getW wl k) (A.is t w)) wl) st Q))
          | _, _ => False)
        | _ => False)
      | none => False)
    | false, _ => False
theorem spG_ok {P : Program} {T : Unit → Tab} (hT : TabOk P (T ())) {H : Unit → Kn} (hH : SoundK P (H ())) {N : Nat} {ops : Array Oper} {Q : Exit → Act → World → Prop} : ∀ (l : List Oper) (s : Slots) (sp : SL) (wl : WL) (E : Env) (a : Act) (K : SL → Store → Prop), Spec s (getS sp) (wOf wl) → Conc E → SlotsOk E N s a → spG T A0 (X0 P N) H N ops l sp wl E.st K →
    (∀ (s' : SL) (a' : Act) (E' : Env), K s' E'.st → Conc E' → Ext E E' → SlotsOk E' N (getS s') a' → Q .normal a' E'.w) → wpList P ops Q l a E.w
  | [], s, sp, wl, E, a, K, hI, hc, hs, h, hn => hn (killW wl sp) a E h hc (Ext.refl E) (hs.less (killW_ok hI))
  | o :: rest, s, sp, wl, E, a, K, hI, hc, hs, h, hn => by
      have go : ∀ KK : Slots → Store → Prop, stepD P N ops o s E.st KK → (∀ s' st', KK s' st' → ∃ sp' wl', Spec s' (getS sp') (wOf wl') ∧ spG T A0 (X0 P N) H N ops rest sp' wl' st' K) → wpList P ops Q (o :: rest) a E.w := fun KK h1 h2 => by
        have := step_ok (P := P) (Q := Q) (ops := ops) (next := wpList P ops Q rest) hc hs o h1 fun s' a' E' hk h1 hx h3 => by
          obtain ⟨sp', wl', q1, q2⟩ := h2 s' E'.st hk
          exact spG_ok hT hH rest s' sp' wl' E' a' K q1 h1 h3 q2 fun s2 a2 E2 k1 k2 k3 k4 => hn s2 a2 E2 k1 k2 (Ext.trans hc.len h1.len hx k3) k4
        unfold wpList
        exact this
      unfold spG at h
      split at h
      · rename_i hd hg
        split at h
        · rename_i cs hr
          rw [allP_iff] at h
          have hro := readsC_ok hr h.1
          refine go (fun s' st' => spG T A0 (X0 P N) H N ops rest (againL o.dst s' sp) (dropW o.dst wl) st' K ∧ Spec s' (getS (againL o.dst s' sp)) (wOf (dropW o.dst wl))) ?_ fun s' st' hq => ⟨_, _, hq.2, hq.1⟩
          unfold stepD
          have : wantedD ops o.guard s = some true := by rw [hg]; rfl
          simp only [this]
          refine ⟨dstB_ok hd, ?_⟩
          have e : (fun d st' => spG T A0 (X0 P N) H N ops rest (putL o.dst d sp) (dropW o.dst wl) st' K) = fun d st' => spG T A0 (X0 P N) H N ops rest (againL o.dst (putS o.dst d s) sp) (dropW o.dst wl) st' K ∧ Spec (putS o.dst d s) (getS (againL o.dst (putS o.dst d s) sp)) (wOf (dropW o.dst wl)) := by
            funext d st'
            have q := hI.put o.dst d true
            rw [if_pos rfl] at q
            rw [againL_put, getS_putL, wOf_drop]
            simp only [q, and_true]
          have h2 := h.2
          rw [e] at h2
          exact readsOk_D hI rfl hro (opC_D hT hH h2)
        · exact h.elim
      · rename_i j w hd hg
        split at h
        · rename_i k hk
          split at h
          · rename_i t ht
            split at h
            · rename_i cs ds d hr hv
              rw [allP_iff] at h
              obtain ⟨hc1, h⟩ := h
              rw [allP_iff] at h
              obtain ⟨hc2, h⟩ := h
              have hro := readsC_ok hr hc1
              simp only [Option.getD_some] at hro
              have hWe : andW A0 (getW wl k) (A0.is t w) = (wOf wl k && (t == w)) := by rw [andW_ok]; rfl
              rw [hWe] at hro h hc2
              refine go (fun s' st' => s' = putS o.dst (if (wOf wl k && (t == w)) = true then d else .d (.sc undef)) s ∧ st' = E.st) ?_ ?_
              · unfold stepD
                have hIk := hI k
                by_cases hW : (wOf wl k && (t == w)) = true
                · have hw : wantedD ops o.guard s = some true := by
                    simp only [Bool.and_eq_true] at hW
                    rw [if_pos hW.1, ht] at hIk
                    rw [hg]
                    simp only [wantedD, hk, hIk, hW.2]
                  simp only [hw]
                  refine ⟨dstB_ok hd, readsOk_D hI hW hro (spV_D hT hH hv (whenL_ok hW hc2) ?_)⟩
                  rw [if_pos hW]
                  exact ⟨rfl, rfl⟩
                · have hw : wantedD ops o.guard s = some false := by
                    rw [hg]
                    by_cases hwk : wOf wl k = true
                    · rw [if_pos hwk, ht] at hIk
                      simp only [wantedD, hk, hIk]
                      simp only [hwk, Bool.true_and] at hW
                      simpa using hW
                    · rw [if_neg hwk] at hIk
                      simp only [wantedD, hk, hIk]
                      rfl
                  simp only [hw]
                  refine ⟨dstB_ok hd, ?_⟩
                  rw [if_neg hW]
                  exact ⟨rfl, trivial⟩
              · rintro s' st' ⟨rfl, rfl⟩
                refine ⟨_, _, ?_, h⟩
                have q := hI.put o.dst d (wOf wl k && (t == w))
                rw [getS_putL, wOf_set]
                exact q
            · exact h.elim
          · exact h.elim
        · exact h.elim
      · exact h.elim
/-- Where the ways part. -/
@[reducible] def brC (t : Bool) (x y : Unit → Prop) : Prop := match t with
  | true => x ()
  | false => y ()
theorem part {t : Bool} {x y : Prop} (hx : t = true → x) (hy : t = false → y) : brC t (fun _ => x) (fun _ => y) := by
  cases t
  · exact hy rfl
  · exact hx rfl
/-- Guarded rows with parting ways. -/
def genG (T : Unit → Tab) (A : Ar) (X : Cps) (H : Unit → Kn) (N : Nat) (ops : Array Oper) : List Oper → SL → Store → (SL → Store → Prop) → Prop
  | [], s, st, Q => Q s st
  | o :: rest, s, st, Q => match dstB N o.dst, o.guard with
    | true, none => opC T A X H o.op s st fun d st' => genG T A X H N ops rest (putL o.dst d s) st' Q
    | true, some (j, w) => (match slotOf ops j with
      | some k => (match getS s k with
        | .d (.sc (.bool t)) => brC t
          (fun _ => match w with
            | true => opC T A X H o.op (setS s k (.d (.sc (.bool true)))) st fun d st' => genG T A X H N ops rest (putL o.dst d (setS s k (.d (.sc (.bool true))))) st' Q
            | false => genG T A X H N ops rest (putL o.dst (.d (.sc (.tuple #[]))) (setS s k (.d (.sc (.bool true))))) st Q)
          (fun _ => match w with
            | false => opC T A X H o.op (setS s k (.d (.sc (.bool false)))) st fun d st' => genG T A X H N ops rest (putL o.dst d (setS s k (.d (.sc (.bool false))))) st' Q
            | true => genG T A X H N ops rest (putL o.dst (.d (.sc (.tuple #[]))) (setS s k (.d (.sc (.bool false))))) st Q)
        | .d (.sc (.tuple _)) => genG T A X H N ops rest (putL o.dst (.d (.sc (.tuple #[]))) s) st Q
        | _ => False)
      | none => False)
    | false, _ => False
theorem getS_same {s : SL} {k : Nat} {d : DV} (h : getS s k = d) : getS (setS s k d) = getS s := by
  funext i
  rw [getS_setS]
  split
  · rename_i e; rw [e, h]
  · rfl
theorem genG_ok {P : Program} {T : Unit → Tab} (hT : TabOk P (T ())) {H : Unit → Kn} (hH : SoundK P (H ())) {N : Nat} {ops : Array Oper} {Q : Exit → Act → World → Prop} : ∀ (l : List Oper) (s : SL) (E : Env) (a : Act) (K : SL → Store → Prop), Conc E → SlotsOk E N (getS s) a → genG T A0 (X0 P N) H N ops l s E.st K →
    (∀ (s' : SL) (a' : Act) (E' : Env), K s' E'.st → Conc E' → Ext E E' → SlotsOk E' N (getS s') a' → Q .normal a' E'.w) → wpList P ops Q l a E.w
  | [], s, E, a, K, hc, hs, h, hn => hn s a E h hc (Ext.refl E) hs
  | o :: rest, s, E, a, K, hc, hs, h, hn => by
      have run : ∀ s2 : SL, getS s2 = getS s → dstB N o.dst = true → wantedD ops o.guard (getS s) = some true → (opC T A0 (X0 P N) H o.op s2 E.st fun d st' => genG T A0 (X0 P N) H N ops rest (putL o.dst d s2) st' K) → wpList P ops Q (o :: rest) a E.w := fun s2 h2 hd hw h => by
        have h1 := opC_D hT hH h
        have e : (fun d st' => genG T A0 (X0 P N) H N ops rest (putL o.dst d s2) st' K) = fun d st' => genG T A0 (X0 P N) H N ops rest (againL o.dst (putS o.dst d (getS s)) s2) st' K ∧ getS (againL o.dst (putS o.dst d (getS s)) s2) = putS o.dst d (getS s) := by
          funext d st'
          rw [againL_put, getS_putL, h2]
          simp
        rw [e, h2] at h1
        have hst : stepD P N ops o (getS s) E.st fun s' st' => genG T A0 (X0 P N) H N ops rest (againL o.dst s' s2) st' K ∧ getS (againL o.dst s' s2) = s' := by
          unfold stepD
          simp only [hw]
          exact ⟨dstB_ok hd, h1⟩
        have := step_ok (P := P) (Q := Q) (ops := ops) (next := wpList P ops Q rest) hc hs o hst fun s' a' E' hk h1 hx h3 => by
          rw [← hk.2] at h3
          exact genG_ok hT hH rest _ E' a' K h1 h3 hk.1 fun s2 a2 E2 k1 k2 k3 k4 => hn s2 a2 E2 k1 k2 (Ext.trans hc.len h1.len hx k3) k4
        unfold wpList
        exact this
      have skip : ∀ s2 : SL, getS s2 = getS s → dstB N o.dst = true → wantedD ops o.guard (getS s) = some false → genG T A0 (X0 P N) H N ops rest (putL o.dst (.d (.sc (.tuple #[]))) s2) E.st K → wpList P ops Q (o :: rest) a E.w := fun s2 h2 hd hw h => by
        have hst : stepD P N ops o (getS s) E.st fun s' st' => st' = E.st ∧ s' = putS o.dst (.d (.sc undef)) (getS s) := by
          unfold stepD
          simp only [hw]
          exact ⟨dstB_ok hd, trivial, trivial⟩
        have := step_ok (P := P) (Q := Q) (ops := ops) (next := wpList P ops Q rest) hc hs o hst fun s' a' E' hk h1 hx h3 => by
          obtain ⟨k1, rfl⟩ := hk
          have h4 : genG T A0 (X0 P N) H N ops rest (putL o.dst (.d (.sc (.tuple #[]))) s2) E'.st K := by rw [k1]; exact h
          refine genG_ok hT hH rest _ E' a' K h1 ?_ h4 fun s2 a2 E2 k1 k2 k3 k4 => hn s2 a2 E2 k1 k2 (Ext.trans hc.len h1.len hx k3) k4
          rw [getS_putL, h2]
          exact h3
        unfold wpList
        exact this
      unfold genG at h
      split at h
      · rename_i hd hg
        exact run s rfl hd (by rw [hg]; rfl) h
      · rename_i j w hd hg
        split at h
        · rename_i k hk
          split at h
          · rename_i t ht
            have hwant : wantedD ops o.guard (getS s) = some (t == w) := by
              rw [hg]
              simp only [wantedD, hk, ht]
            cases t <;> cases w <;> simp only [brC] at h
            · exact run _ (getS_same ht) hd hwant h
            · exact skip _ (getS_same ht) hd hwant h
            · exact skip _ (getS_same ht) hd hwant h
            · exact run _ (getS_same ht) hd hwant h
          · rename_i vs ht
            exact skip s rfl hd (by rw [hg]; simp only [wantedD, hk, ht]) h
          · exact h.elim
        · exact h.elim
      · exact h.elim
end Go.Proofs.Ytmjmbfcfnhnpmaa
