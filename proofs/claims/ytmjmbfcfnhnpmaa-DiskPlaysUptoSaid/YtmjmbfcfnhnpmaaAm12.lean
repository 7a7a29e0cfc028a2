/- The program logic, twelfth part: one order stands for all; statements, loops, functions. No condition: lemmas of any program. -/
import Derived.Test.YtmjmbfcfnhnpmaaAm11
namespace Go.Proofs.Ytmjmbfcfnhnpmaa
open Go.RowKit
set_option linter.all false
theorem mem_looks {ops : Array Oper} {o : Oper} {t : Nat} (h : Operand.tmp t ∈ o.op.operands) : t ∈ o.looksAt ops := by
  unfold Oper.looksAt
  refine List.mem_append.2 (.inl ?_)
  rw [List.mem_filterMap]
  exact ⟨.tmp t, Array.mem_toList_iff.2 h, rfl⟩
theorem wantedD_put {ops : Array Oper} {o : Oper} {s : Slots} {dst : Option Nat} {d : DV} (h : ∀ t, dst = some t → t ∉ o.looksAt ops) : wantedD ops o.guard (putS dst d s) = wantedD ops o.guard s := by
  unfold wantedD
  cases hg : o.guard with
  | none => rfl
  | some jw =>
    obtain ⟨j, w⟩ := jw
    simp only
    cases hk : slotOf ops j with
    | none => rfl
    | some k =>
      simp only
      cases dst with
      | none => rfl
      | some i =>
        have : k ≠ i := fun e => h i rfl (by
          unfold Oper.looksAt
          rw [hg]
          refine List.mem_append.2 (.inr ?_)
          unfold slotOf at hk
          simp [hk, e])
        simp only [putS, upd_eq, this, ↓reduceIte]
theorem Yld.put {P : Program} {ops : Array Oper} {o : Oper} {s : Slots} {st : Store} {d e : DV} {dst : Option Nat} (hap : ∀ t, dst = some t → t ∉ o.looksAt ops) : Yld P ops o (putS dst e s) st d ↔ Yld P ops o s st d := by
  unfold Yld
  rw [wantedD_put hap]
  have : ∀ K, opD P o.op (putS dst e s) st K = opD P o.op s st K := fun K => opD_congr fun x hx => ev_put fun t ht hxt => by
    subst hxt
    exact hap t ht (mem_looks hx)
  simp only [this]
theorem putS_comm {s : Slots} {x y : Option Nat} {d e : DV} (h : ∀ t, x = some t → y ≠ some t) : putS y e (putS x d s) = putS x d (putS y e s) := by
  cases x with
  | none => rfl
  | some i =>
    cases y with
    | none => rfl
    | some j =>
      have : j ≠ i := fun q => h i rfl (by rw [q])
      funext k
      simp only [putS, upd_eq]
      split <;> split <;> first | rfl | omega
theorem anyP_first {P : Program} {N : Nat} {ops : Array Oper} {st : Store} {Q : Slots → Prop} {i : Nat} {oi : Oper} {d : DV} (hi : ops[i]? = some oi) : ∀ (fuel : Nat) (listed : Array Bool) (s : Slots),
    (∀ j oj, ops[j]? = some oj → j ≠ i → listed.getD j true = false → (∀ e ∈ oj.after, Region.binds .any e = true → e.on ≠ i) → oi.apart ops oj = true) →
    i ∈ Region.ready .any ops listed → Yld P ops oi s st d → dstOk N oi.dst → anyP P N ops st Q fuel (listed.setIfInBounds i true) (putS oi.dst d s) → anyP P N ops st Q (fuel + 1) listed s := by
  intro fuel
  induction fuel with
  | zero =>
    intro listed s _ hr hy hd H
    refine ⟨fun h => (by rw [h] at hr; cases hr), fun j hj oj hoj => ?_⟩
    by_cases hji : j = i
    · subst hji
      rw [hi] at hoj; cases hoj
      exact ⟨d, hy, hd, H⟩
    · have := ready_mono hj hji
      rw [H.1] at this
      cases this
  | succ fuel ih =>
    intro listed s hfree hr hy hd H
    refine ⟨fun h => (by rw [h] at hr; cases hr), fun j hj oj hoj => ?_⟩
    by_cases hji : j = i
    · subst hji
      rw [hi] at hoj; cases hoj
      exact ⟨d, hy, hd, H⟩
    · obtain ⟨dj, hyj, hdj, hK⟩ := H.2 j (ready_mono hj hji) oj hoj
      obtain ⟨hjun, oj', hoj', hall⟩ := mem_ready.1 hj
      rw [hoj] at hoj'; cases hoj'
      have hnot : ∀ e ∈ oj.after, Region.binds .any e = true → e.on ≠ i := fun e he hb heq => by
        have h1 := hall e he hb
        have h0 := (mem_ready.1 hr).1
        rw [heq] at h1
        rcases Nat.lt_or_ge i listed.size with h' | h'
        · simp [h'] at h0 h1; rw [h0] at h1; cases h1
        · simp [Array.getElem?_eq_none h'] at h1
      obtain ⟨a1, a2, a3⟩ := Oper.apart_spec (hfree j oj hoj hji hjun hnot)
      have hfree' : ∀ k ok, ops[k]? = some ok → k ≠ i → (listed.setIfInBounds j true).getD k true = false →
          (∀ e ∈ ok.after, Region.binds .any e = true → e.on ≠ i) → oi.apart ops ok = true := fun k ok hk hki hun hno => by
        refine hfree k ok hk hki ?_ hno
        by_cases hjk : j = k
        · subst hjk; exact hjun
        · rw [getD_set_ne true hjk] at hun; exact hun
      refine ⟨dj, (Yld.put a1).1 hyj, hdj, ih (listed.setIfInBounds j true) _ hfree' (ready_mono hr (Ne.symm hji)) ((Yld.put a3).2 hy) hd ?_⟩
      rw [Array.setIfInBounds_comm _ _ hji, ← putS_comm a2]
      exact hK
/-- The text's order, each operation yielding something and turning nothing. -/
def pureL (P : Program) (N : Nat) (ops : Array Oper) (st : Store) (Q : Slots → Prop) : List Oper → Slots → Prop
  | [], s => Q s
  | o :: rest, s => ∃ d, Yld P ops o s st d ∧ dstOk N o.dst ∧ pureL P N ops st Q rest (putS o.dst d s)
theorem anyP_lex {P : Program} {N : Nat} {ops : Array Oper} {st : Store} {Q : Slots → Prop} : ∀ (l : List Oper) (k : Nat) (listed : Array Bool) (s : Slots), (∀ j, l[j]? = ops[k + j]?) →
    Region.lexFrom .any ops l.length k listed = true → pureL P N ops st Q l s → anyP P N ops st Q l.length listed s
  | [], _, _, _, _, hB, h => ⟨by simpa [Region.lexFrom] using hB, h⟩
  | o :: l, k, listed, s, hl, hB, h => by
    have h0 : ops[k]? = some o := by simpa using (hl 0).symm
    simp only [List.length_cons, Region.lexFrom, Bool.and_eq_true] at hB
    obtain ⟨⟨hr, hf⟩, hB'⟩ := hB
    obtain ⟨d, hy, hd, hK⟩ := h
    exact anyP_first h0 l.length listed s (Region.free_spec h0 hf) (by simpa using hr) hy hd
      (anyP_lex l (k + 1) _ _ (fun j => by have := hl (j + 1); simpa [Nat.add_assoc, Nat.add_comm 1 j] using this) hB' hK)
/-- What a statement comes to. -/
def wpD (P : Program) (N : Nat) (c : Code) (Q : Exit → Slots → Store → Prop) (s : Slots) (st : Store) : Prop :=
  ∀ (E : Env) (a : Act), Conc E → E.st = st → SlotsOk E N s a → c.wp P (fun e a' w' => ∃ (s' : Slots) (E' : Env), E'.w = w' ∧ Q e s' E'.st ∧ Conc E' ∧ Ext E E' ∧ SlotsOk E' N s' a') a E.w
section rules
variable {P : Program} {N : Nat} {Q : Exit → Slots → Store → Prop} {s : Slots} {st : Store}
theorem wpD_mono {c : Code} {Q' : Exit → Slots → Store → Prop} (h : wpD P N c Q s st) (hq : ∀ e s st, Q e s st → Q' e s st) : wpD P N c Q' s st :=
  fun E a h1 h2 h3 => wp_mono (h E a h1 h2 h3) fun _ _ _ ⟨s', E', k1, k2, k3⟩ => ⟨s', E', k1, hq _ _ _ k2, k3⟩
theorem wpD_any {id : Nat} {l : List Oper} (hm : P.follows .mixedOrders = true) (h : anyD P N l.toArray (fun s' st' => Q .normal s' st') l.length (Array.replicate l.length false) s st) : wpD P N (.region id l.toArray true) Q s st := by
  intro E a hc hst hs
  subst hst
  obtain ⟨c1, c2⟩ := newNone hc { E.w with drawn := E.w.drawn + 1 } (Nat.le_refl _) (fun _ _ => rfl) rfl rfl rfl
  refine wp_region_any hm ?_
  have := any_ok (P := P) (Q := fun e a' w' => ∃ (s' : Slots) (E' : Env), E'.w = w' ∧ Q e s' E'.st ∧ Conc E' ∧ Ext E E' ∧ SlotsOk E' N s' a') l.length (Array.replicate l.length false) s ⟨{ E.w with drawn := E.w.drawn + 1 }, E.S, E.σ, E.st⟩ a c1 (hs.ext hc c2) h
    fun s' a' E' hk h1 h2 h3 => ⟨s', E', rfl, hk, h1, Ext.trans hc.len c1.len c2 h2, h3⟩
  simpa using this
theorem wpD_pure {id : Nat} {l : List Oper} (hm : P.follows .mixedOrders = true) (hB : Region.lexB .any l.toArray = true) (h : pureL P N l.toArray st (fun s' => Q .normal s' st) l s) : wpD P N (.region id l.toArray true) Q s st := by
  refine wpD_any hm (anyD_of_pure _ _ _ ?_)
  simp only [Region.lexB, Bool.and_eq_true] at hB
  exact anyP_lex l 0 (Array.replicate l.length false) s (by simp) (by simpa using hB.2) h
theorem wpD_skip (h : Q .normal s st) : wpD P N .skip Q s st := fun E a hc hst hs => wp_skip ⟨s, E, rfl, by rw [hst]; exact h, hc, Ext.refl E, hs⟩
theorem wpD_exit {id : Nat} (h : Q (.exit id) s st) : wpD P N (.exit id) Q s st := fun E a hc hst hs => wp_exit ⟨s, E, rfl, by rw [hst]; exact h, hc, Ext.refl E, hs⟩
theorem wpD_ret (h : Q .ret s st) : wpD P N .ret Q s st := fun E a hc hst hs => wp_ret ⟨s, E, rfl, by rw [hst]; exact h, hc, Ext.refl E, hs⟩
def thenD (next : Slots → Store → Prop) (Q : Exit → Slots → Store → Prop) : Exit → Slots → Store → Prop
  | .normal, s, st => next s st
  | e, s, st => Q e s st
theorem wpD_seq {x y : Code} (h : wpD P N x (thenD (wpD P N y Q) Q) s st) : wpD P N (.seq x y) Q s st := by
  intro E a hc hst hs
  refine wp_seq (wp_mono (h E a hc hst hs) ?_)
  rintro e a' w' ⟨s', E', rfl, hq, h1, h2, h3⟩
  cases e <;> first
    | exact wp_mono (hq E' a' h1 rfl h3) fun _ _ _ ⟨s2, E2, k1, k2, k3, k4, k5⟩ => ⟨s2, E2, k1, k2, k3, Ext.trans hc.len h1.len h2 k4, k5⟩
    | exact ⟨s', E', rfl, hq, h1, h2, h3⟩
def blockD (id : Nat) (Q : Exit → Slots → Store → Prop) : Exit → Slots → Store → Prop
  | .exit id', s, st => if id' = id then Q .normal s st else Q (.exit id') s st
  | e, s, st => Q e s st
theorem wpD_block {id : Nat} {c : Code} (h : wpD P N c (blockD id Q) s st) : wpD P N (.block id c) Q s st := by
  intro E a hc hst hs
  refine wp_block (wp_mono (h E a hc hst hs) ?_)
  rintro e a' w' ⟨s', E', rfl, hq, h1, h2, h3⟩
  cases e <;> first
    | exact ⟨s', E', rfl, hq, h1, h2, h3⟩
    | (simp only [blockD] at hq
       simp only [Exit.inBlock]
       split
       · rename_i e; rw [if_pos e] at hq; exact ⟨s', E', rfl, hq, h1, h2, h3⟩
       · rename_i e; rw [if_neg e] at hq; exact ⟨s', E', rfl, hq, h1, h2, h3⟩)
theorem wpD_cond {c : Operand} {x y : Code} (t : Bool) (hc : ev s c = boolD t) (h1 : t = true → wpD P N x Q s st) (h2 : t = false → wpD P N y Q s st) : wpD P N (.cond c x y) Q s st := by
  intro E a hcc hst hs
  have := ev_rep hs c
  rw [hc] at this
  cases t
  · exact wp_cond_false this (h2 rfl E a hcc hst hs)
  · exact wp_cond_true this (h1 rfl E a hcc hst hs)
end rules
/-- The same state, told otherwise: fewer boxes, other names, less known. 'k': so many boxes are others', too. -/
def Tells (k : Nat) (s : Slots) (st : Store) (s' : Slots) (st' : Store) : Prop :=
  ∀ (E : Env) (N : Nat) (a : Act), Conc E → E.st = st → SlotsOk E N s a → ∃ E' : Env, E'.w = E.w ∧ E'.st = st' ∧ Conc E' ∧ SlotsOk E' N s' a ∧ ∀ F : Env, F.σ.length = F.st.length → F.st.length ≤ k → Ext F E → Ext F E'
theorem Tells.refl (k : Nat) (s : Slots) (st : Store) : Tells k s st s st := fun E _ _ h1 h2 h3 => ⟨E, rfl, h2, h1, h3, fun _ _ _ h => h⟩
theorem Tells.trans {k : Nat} {s s' s2 : Slots} {st st' st2 : Store} (h : Tells k s st s' st') (g : Tells k s' st' s2 st2) : Tells k s st s2 st2 := fun E N a h1 h2 h3 => by
  obtain ⟨E', a1, a2, a3, a4, a5⟩ := h E N a h1 h2 h3
  obtain ⟨E2, b1, b2, b3, b4, b5⟩ := g E' N a a3 a2 a4
  exact ⟨E2, b1.trans a1, b2, b3, b4, fun F q1 q2 q3 => b5 F q1 q2 (a5 F q1 q2 q3)⟩
theorem Tells.any (k : Nat) (s s' : Slots) (st : Store) (h : ∀ i, s' i = s i ∨ s' i = .any) : Tells k s st s' st := fun E N a h1 h2 h3 =>
  ⟨E, rfl, h2, h1, ⟨h3.size, fun i => by
    rcases h i with e | e
    · rw [e]; exact h3.rep i
    · rw [e]; trivial, h3.defers⟩, fun _ _ _ h => h⟩
theorem Tells.nil (k : Nat) (s : Slots) (st : Store) (i sz : Nat) (h : s i = nilS) : Tells k s st (upd s i (.d (.slc sz []))) st := fun E N a h1 h2 h3 =>
  ⟨E, rfl, h2, h1, ⟨h3.size, fun j => by
    by_cases hj : j = i
    · subst hj
      rw [upd_same]
      have := h3.rep j
      rw [h] at this
      exact .inl ⟨rfl, this⟩
    · rw [upd_ne _ _ _ _ (by simpa using hj)]
      exact h3.rep j, h3.defers⟩, fun _ _ _ h => h⟩
theorem wpD_tells {P : Program} {N : Nat} {c : Code} {Q : Exit → Slots → Store → Prop} {s s' : Slots} {st st' : Store} (h : Tells st.length s st s' st') (hw : wpD P N c Q s' st') : wpD P N c Q s st := by
  intro E a hc hst hs
  subst hst
  obtain ⟨E', a1, a2, a3, a4, a5⟩ := h E N a hc rfl hs
  rw [← a1]
  exact wp_mono (hw E' a a3 a2 a4) fun _ _ _ ⟨s2, E2, k1, k2, k3, k4, k5⟩ => ⟨s2, E2, k1, k2, k3, Ext.trans hc.len a3.len (a5 E hc.len (Nat.le_refl _) (Ext.refl E)) k4, k5⟩
theorem least (p : Nat → Prop) (h : ∃ n, p n) : ∃ n, p n ∧ ∀ m, p m → n ≤ m := by
  obtain ⟨n, hn⟩ := h
  induction n using Nat.strongRecOn with
  | _ n ih =>
    by_cases hm : ∃ m, m < n ∧ p m
    · obtain ⟨m, h1, h2⟩ := hm
      exact ih m h1 h2
    · exact ⟨n, hn, fun m hp => Nat.le_of_not_lt fun h => hm ⟨m, h, hp⟩⟩
/-- A loop. -/
theorem wpD_loop {P : Program} {N : Nat} {c : Code} {Q : Exit → Slots → Store → Prop} {s : Slots} {st : Store} (I : Nat → Slots → Store → Prop) (n0 : Nat) (h0 : I n0 s st)
    (round : ∀ n s1 st1, I n s1 st1 → wpD P N c (thenD (fun s' st' => ∃ m s2 st2, m < n ∧ Tells st.length s' st' s2 st2 ∧ I m s2 st2) Q) s1 st1) : wpD P N (.loop c) Q s st := by
  intro E a hc hst hs
  subst hst
  let R : Nat → Act → World → Prop := fun n a w => ∃ (s1 : Slots) (E1 : Env), E1.w = w ∧ I n s1 E1.st ∧ Conc E1 ∧ Ext E E1 ∧ SlotsOk E1 N s1 a
  classical
  refine wp_loop (fun a w => ∃ n, R n a w) (fun a w => if h : ∃ n, R n a w then Classical.choose (least _ h) else 0) ⟨n0, s, E, rfl, h0, hc, Ext.refl E, hs⟩ ?_
  intro a1 w1 hR
  have hspec := (Classical.choose_spec (least _ hR)).1
  rw [dif_pos hR]
  generalize Classical.choose (least _ hR) = n at hspec ⊢
  obtain ⟨s1, E1, rfl, hI, hc1, hx1, hs1⟩ := hspec
  refine wp_mono (round n s1 E1.st hI E1 a1 hc1 rfl hs1) ?_
  rintro e a' w' ⟨s', E', rfl, hq, h1, h2, h3⟩
  have hx : Ext E E' := Ext.trans hc.len hc1.len hx1 h2
  cases e
  case normal =>
    obtain ⟨m, s2, st2, hm, ht, hI2⟩ := hq
    obtain ⟨E2, b1, b2, b3, b4, b5⟩ := ht E' N a' h1 rfl h3
    have hRm : R m a' E'.w := ⟨s2, E2, b1, by rw [b2]; exact hI2, b3, b5 E hc.len (Nat.le_refl _) hx, b4⟩
    have hex : ∃ n, R n a' E'.w := ⟨m, hRm⟩
    refine ⟨hex, ?_⟩
    rw [dif_pos hex]
    exact Nat.lt_of_le_of_lt ((Classical.choose_spec (least _ hex)).2 m hRm) hm
  all_goals exact ⟨s', E', rfl, hq, h1, hx, h3⟩
end Go.Proofs.Ytmjmbfcfnhnpmaa
