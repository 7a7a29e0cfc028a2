/- The program logic, eleventh part: rows of operations, regions in the text's order and in any order. No condition: lemmas of any program. -/
import Derived.Test.YtadnpgkddgbhkaaZX6
namespace Go.Proofs.Ytadnpgkddgbhkaa
open Go.RowKit
set_option linter.all false
noncomputable def putS (dst : Option Nat) (d : DV) (s : Slots) : Slots := match dst with
 | none => s
 | some i => upd s i d
def slotOf (ops : Array Oper) (j : Nat) : Option Nat := (ops[j]?).bind (·.dst)
def wantedD (ops : Array Oper) (g : Option (Nat × Bool)) (s : Slots) : Option Bool :=
 match g with
 | none => some true
 | some (j, w) => match slotOf ops j with
   | none => some false
   | some k => match s k with
     | .d (.sc (.bool t)) => some (t == w)
     | .d (.sc (.tuple _)) => some false
     | _ => none
def dstOk (N : Nat) (dst : Option Nat) : Prop := match dst with
 | none => True
 | some i => i < N
def stepD (P : Program) (N : Nat) (ops : Array Oper) (o : Oper) (s : Slots) (st : Store) (K : Slots → Store → Prop) : Prop :=
 match wantedD ops o.guard s with
 | some true => dstOk N o.dst ∧ opD P o.op s st fun d st' => K (putS o.dst d s) st'
 | some false => dstOk N o.dst ∧ K (putS o.dst (.d (.sc undef)) s) st
 | none => False
theorem SlotsOk.putS {E : Env} {N : Nat} {s : Slots} {a : Act} (h : SlotsOk E N s a) {dst : Option Nat} (hd : dstOk N dst) {d : DV} {v : Value} (hv : Rep E d v) : SlotsOk E N (Go.Proofs.Ytadnpgkddgbhkaa.putS dst d s) (a.put dst v) := by
 cases dst with
 | none => exact h.put' v
 | some i => exact h.put hd hv
theorem wantedD_spec {E : Env} {N : Nat} {s : Slots} {a : Act} (h : SlotsOk E N s a) {ops : Array Oper} {o : Oper} {b : Bool} (hw : wantedD ops o.guard s = some b) : Region.wanted o (yielded ops a.tmps) = b := by
 unfold wantedD at hw
 unfold Region.wanted yielded
 split at hw
 ·rename_i hg
  rw [hg]
  cases hw
  rfl
 ·rename_i j w hg
  rw [hg]
  simp only
  unfold slotOf at hw
  split at hw
  ·rename_i hs
   rw [hs]
   cases hw
   rfl
  ·rename_i k hs
   rw [hs]
   simp only [Option.bind_some]
   have hk := h.rep k
   split at hw
   ·rename_i t ht
    rw [ht] at hk
    simp only [Rep, RepP] at hk
    cases hw
    rw [Array.getD_eq_getD_getElem?] at hk
    cases hq : a.tmps[k]? with
    | none => rw [hq] at hk; cases hk
    | some u =>
      rw [hq] at hk
      simp only [Option.getD_some] at hk
      subst hk
      cases t <;> cases w <;> rfl
   ·rename_i vs ht
    rw [ht] at hk
    simp only [Rep, RepP] at hk
    cases hw
    rw [Array.getD_eq_getD_getElem?] at hk
    cases hq : a.tmps[k]? with
    | none => rfl
    | some u =>
      rw [hq] at hk
      simp only [Option.getD_some] at hk
      subst hk
      rfl
   ·cases hw
theorem step_ok {P : Program} {E : Env} {N : Nat} {s : Slots} {a : Act} {ops : Array Oper} (hc : Conc E) (hs : SlotsOk E N s a) (o : Oper) {K : Slots → Store → Prop} (h : stepD P N ops o s E.st K) {next : Act → World → Prop} {Q : Exit → Act → World → Prop}
  (hn : ∀ (s' : Slots) (a' : Act) (E' : Env), K s' E'.st → Conc E' → Ext E E' → SlotsOk E' N s' a' → next a' E'.w) :
  if Region.wanted o (yielded ops a.tmps) then o.wp P a E.w next Q ∨ (o.asks P a E.w ∧ LetsOut Q) else next (a.put o.dst undef) E.w := by
 unfold stepD at h
 split at h
 ·rename_i hw
  rw [wantedD_spec hs hw, if_pos rfl]
  refine .inl (op_ok hc hs o h.2 fun d v E' hk h1 h2 h3 => hn _ _ E' hk h1 h2 ((hs.ext hc h2).putS h.1 h3))
 ·rename_i hw
  rw [wantedD_spec hs hw, if_neg (by simp)]
  exact hn _ _ E h.2 hc (Ext.refl E) (hs.putS h.1 rfl)
 ·exact h.elim
def anyD (P : Program) (N : Nat) (ops : Array Oper) (Q : Slots → Store → Prop) : Nat → Array Bool → Slots → Store → Prop
 | 0, listed, s, st => Region.ready .any ops listed = [] ∧ Q s st
 | fuel + 1, listed, s, st => (Region.ready .any ops listed = [] → Q s st) ∧
    ∀ i ∈ Region.ready .any ops listed, match ops[i]? with
      | none => anyD P N ops Q fuel (listed.setIfInBounds i true) s st
      | some o => stepD P N ops o s st (anyD P N ops Q fuel (listed.setIfInBounds i true))
theorem any_ok {P : Program} {N : Nat} {ops : Array Oper} {Q : Exit → Act → World → Prop} {K : Slots → Store → Prop} : ∀ (fuel : Nat) (listed : Array Bool) (s : Slots) (E : Env) (a : Act), Conc E → SlotsOk E N s a → anyD P N ops K fuel listed s E.st →
  (∀ (s' : Slots) (a' : Act) (E' : Env), K s' E'.st → Conc E' → Ext E E' → SlotsOk E' N s' a' → Q .normal a' E'.w) → wpAny P .any ops Q fuel listed a E.w
 | 0, listed, s, E, a, hc, hs, h, hn => ⟨h.1, hn s a E h.2 hc (Ext.refl E) hs⟩
 | fuel + 1, listed, s, E, a, hc, hs, h, hn => by
    refine ⟨fun h0 => hn s a E (h.1 h0) hc (Ext.refl E) hs, fun i hi => ?_⟩
    have hstep := h.2 i hi
    unfold wpOp
    cases ho : ops[i]? with
    | none =>
      rw [ho] at hstep
      exact any_ok fuel _ s E a hc hs hstep hn
    | some o =>
      rw [ho] at hstep
      exact step_ok (P := P) (Q := Q) (ops := ops) (next := wpAny P .any ops Q fuel (listed.setIfInBounds i true)) hc hs o hstep fun s' a' E' hk h1 h2 h3 =>
       any_ok fuel _ s' E' a' h1 h3 hk fun s2 a2 E2 k1 k2 k3 k4 => hn s2 a2 E2 k1 k2 (Ext.trans hc.len h1.len h2 k3) k4
def Yld (P : Program) (ops : Array Oper) (o : Oper) (s : Slots) (st : Store) (d : DV) : Prop :=
 (wantedD ops o.guard s = some true ∧ ∀ K : DV → Store → Prop, K d st → opD P o.op s st K) ∨ (wantedD ops o.guard s = some false ∧ d = .d (.sc undef))
def anyP (P : Program) (N : Nat) (ops : Array Oper) (st : Store) (Q : Slots → Prop) : Nat → Array Bool → Slots → Prop
 | 0, listed, s => Region.ready .any ops listed = [] ∧ Q s
 | fuel + 1, listed, s => (Region.ready .any ops listed = [] → Q s) ∧
    ∀ i ∈ Region.ready .any ops listed, ∀ o, ops[i]? = some o → ∃ d, Yld P ops o s st d ∧ dstOk N o.dst ∧ anyP P N ops st Q fuel (listed.setIfInBounds i true) (putS o.dst d s)
theorem ready_some {ops : Array Oper} {listed : Array Bool} {i : Nat} (h : i ∈ Region.ready .any ops listed) : ∃ o, ops[i]? = some o := by
 obtain ⟨_, o, ho, _⟩ := mem_ready.1 h
 exact ⟨o, ho⟩
theorem anyD_of_pure {P : Program} {N : Nat} {ops : Array Oper} {st : Store} {Q : Slots → Store → Prop} : ∀ (fuel : Nat) (listed : Array Bool) (s : Slots), anyP P N ops st (fun s => Q s st) fuel listed s → anyD P N ops Q fuel listed s st
 | 0, _, _, h => h
 | fuel + 1, listed, s, h => by
    refine ⟨h.1, fun i hi => ?_⟩
    obtain ⟨o, ho⟩ := ready_some hi
    obtain ⟨d, hy, hd, hK⟩ := h.2 i hi o ho
    rw [ho]
    have ih := anyD_of_pure fuel _ _ hK
    rcases hy with ⟨hw, hy⟩ | ⟨hw, rfl⟩
    ·simp only [stepD, hw]
     exact ⟨hd, hy _ ih⟩
    ·simp only [stepD, hw]
     exact ⟨hd, ih⟩
theorem ev_put {s : Slots} {dst : Option Nat} {d : DV} {x : Operand} (h : ∀ t, dst = some t → x ≠ .tmp t) : ev (putS dst d s) x = ev s x := by
 cases dst with
 | none => rfl
 | some i =>
   cases x with
   | tmp t =>
     have : t ≠ i := fun e => h i rfl (by rw [e])
     simp [ev, putS, upd_eq, this]
   | const v => rfl
   | global g => rfl
   | func f => rfl
theorem callD_congr {P : Program} {c : Call} {s s' : Slots} {st : Store} {K : DV → Store → Prop} (h : ∀ x ∈ c.operands, ev s x = ev s' x) : callD P c s st K = callD P c s' st K := by
 have hargs : ∀ x ∈ c.args.toList, ev s x = ev s' x := fun x hx => h x (by simp only [Call.operands]; exact Array.mem_append.2 (.inr (Array.mem_toList_iff.1 hx)))
 have hmap : c.args.toList.map (ev s) = c.args.toList.map (ev s') := List.map_congr_left hargs
 obtain ⟨callee, args, tys⟩ := c
 cases callee with
 | invoke r m => rfl
 | value f =>
   cases f with
   | func f => simp only [callD, hmap]
   | const v => rfl
   | global g => rfl
   | tmp t =>
     have ht : s t = s' t := h (.tmp t) (by simp [Call.operands])
     simp only [callD, hmap, ht]
 | builtin b =>
   obtain ⟨l⟩ := args
   obtain ⟨ts⟩ := tys
   simp only at hargs
   clear h hmap
   rcases l with _ | ⟨x, _ | ⟨y, _ | ⟨z, l⟩⟩⟩
   ·cases b <;> rfl
   ·have hx := hargs x (by simp)
    rcases ts with _ | ⟨t, _ | ⟨u, ts⟩⟩ <;> cases b <;> first | rfl | simp only [callD, hx]
   ·have hx := hargs x (by simp)
    have hy := hargs y (by simp)
    rcases ts with _ | ⟨t, _ | ⟨u, _ | ⟨v, ts⟩⟩⟩ <;> cases b <;> first | rfl | simp only [callD, hx, hy]
   ·cases b <;> rfl
theorem opD_congr {P : Program} {o : Op} {s s' : Slots} {st : Store} {K : DV → Store → Prop} (h : ∀ x ∈ o.operands, ev s x = ev s' x) : opD P o s st K = opD P o s' st K := by
 cases o
 case call c => exact callD_congr h
 case slice t x lo hi mx =>
  simp only [Op.operands, Array.mem_append, Array.mem_singleton, List.mem_toArray] at h
  have hx := h x (by simp)
  have hlo : lo.map (ev s) = lo.map (ev s') := by
   cases lo with
   | none => rfl
   | some l => simp only [Option.map_some, Option.some.injEq]; exact h l (by simp)
  have hhi : hi.map (ev s) = hi.map (ev s') := by
   cases hi with
   | none => rfl
   | some l => simp only [Option.map_some, Option.some.injEq]; exact h l (by simp)
  cases mx with
  | none => simp only [opD, hx, hlo, hhi]
  | some m =>
    have hm := h m (by simp)
    cases hi with
    | none => rfl
    | some hi =>
      have hh := h hi (by simp)
      simp only [opD, hx, hlo, hm, hh]
 case build t parts =>
  have : (parts.toList.map fun p => (p.1, ev s p.2)) = parts.toList.map fun p => (p.1, ev s' p.2) := List.map_congr_left fun p hp => by
   rw [h p.2 (by simp only [Op.operands, List.mem_toArray, List.mem_map]; exact ⟨p, hp, rfl⟩)]
  simp only [opD, this]
 case buildSlice t len parts =>
  have : (parts.toList.map fun p => (p.1, ev s p.2)) = parts.toList.map fun p => (p.1, ev s' p.2) := List.map_congr_left fun p hp => by
   rw [h p.2 (by simp only [Op.operands, List.mem_toArray, List.mem_map]; exact ⟨p, hp, rfl⟩)]
  simp only [opD, this]
 case makeFunc fn first captured =>
  have : captured.toList.map (ev s) = captured.toList.map (ev s') := List.map_congr_left fun p hp => h p (by simp only [Op.operands, Array.mem_append]; exact .inr (Array.mem_toList_iff.1 hp))
  cases fn <;> simp only [opD, this]
 all_goals first
  | rfl
  | (simp only [Op.operands, List.mem_toArray, List.mem_cons, List.not_mem_nil, or_false, forall_eq_or_imp, forall_eq] at h; simp only [opD, h])
end Go.Proofs.Ytadnpgkddgbhkaa
namespace Go.Proofs.Ytadnpgkddgbhkaa
open Go.RowKit
set_option linter.all false
theorem mem_looks {ops : Array Oper} {o : Oper} {t : Nat} (h : Operand.tmp t ∈ o.op.operands) : t ∈ o.looksAt ops := by
 unfold Oper.looksAt
 refine List.mem_append.2 (.inl ?_)
 rw [List.mem_filterMap]
 exact ⟨.tmp t, Array.mem_toList_iff.2 h, rfl⟩
theorem wantedD_put {ops : Array Oper} {o : Oper} {s : Slots} {dst : Option Nat} {d : DV} (h : ∀ t, dst = some t → t ∉ o.looksAt ops) : wantedD ops o.guard (putS dst d s) = wantedD ops o.guard s := by
 unfold wantedD
 cases hg : o.guard with
 | none => rfl
 | some jw =>
   obtain ⟨j, w⟩ := jw
   simp only
   cases hk : slotOf ops j with
   | none => rfl
   | some k =>
     simp only
     cases dst with
     | none => rfl
     | some i =>
       have : k ≠ i := fun e => h i rfl (by
        unfold Oper.looksAt
        rw [hg]
        refine List.mem_append.2 (.inr ?_)
        unfold slotOf at hk
        simp [hk, e])
       simp only [putS, upd_eq, this, ↓reduceIte]
theorem Yld.put {P : Program} {ops : Array Oper} {o : Oper} {s : Slots} {st : Store} {d e : DV} {dst : Option Nat} (hap : ∀ t, dst = some t → t ∉ o.looksAt ops) : Yld P ops o (putS dst e s) st d ↔ Yld P ops o s st d := by
 unfold Yld
 rw [wantedD_put hap]
 have : ∀ K, opD P o.op (putS dst e s) st K = opD P o.op s st K := fun K => opD_congr fun x hx => ev_put fun t ht hxt => by
  subst hxt
  exact hap t ht (mem_looks hx)
 simp only [this]
theorem putS_comm {s : Slots} {x y : Option Nat} {d e : DV} (h : ∀ t, x = some t → y ≠ some t) : putS y e (putS x d s) = putS x d (putS y e s) := by
 cases x with
 | none => rfl
 | some i =>
   cases y with
   | none => rfl
   | some j =>
     have : j ≠ i := fun q => h i rfl (by rw [q])
     funext k
     simp only [putS, upd_eq]
     split <;> split <;> first | rfl | omega
theorem anyP_first {P : Program} {N : Nat} {ops : Array Oper} {st : Store} {Q : Slots → Prop} {i : Nat} {oi : Oper} {d : DV} (hi : ops[i]? = some oi) : ∀ (fuel : Nat) (listed : Array Bool) (s : Slots),
  (∀ j oj, ops[j]? = some oj → j ≠ i → listed.getD j true = false → (∀ e ∈ oj.after, Region.binds .any e = true → e.on ≠ i) → oi.apart ops oj = true) →
  i ∈ Region.ready .any ops listed → Yld P ops oi s st d → dstOk N oi.dst → anyP P N ops st Q fuel (listed.setIfInBounds i true) (putS oi.dst d s) → anyP P N ops st Q (fuel + 1) listed s := by
 intro fuel
 induction fuel with
 | zero =>
   intro listed s _ hr hy hd H
   refine ⟨fun h => (by rw [h] at hr; cases hr), fun j hj oj hoj => ?_⟩
   by_cases hji : j = i
   ·subst hji
    rw [hi] at hoj; cases hoj
    exact ⟨d, hy, hd, H⟩
   ·have := ready_mono hj hji
    rw [H.1] at this
    cases this
 | succ fuel ih =>
   intro listed s hfree hr hy hd H
   refine ⟨fun h => (by rw [h] at hr; cases hr), fun j hj oj hoj => ?_⟩
   by_cases hji : j = i
   ·subst hji
    rw [hi] at hoj; cases hoj
    exact ⟨d, hy, hd, H⟩
   ·obtain ⟨dj, hyj, hdj, hK⟩ := H.2 j (ready_mono hj hji) oj hoj
    obtain ⟨hjun, oj', hoj', hall⟩ := mem_ready.1 hj
    rw [hoj] at hoj'; cases hoj'
    have hnot : ∀ e ∈ oj.after, Region.binds .any e = true → e.on ≠ i := fun e he hb heq => by
     have h1 := hall e he hb
     have h0 := (mem_ready.1 hr).1
     rw [heq] at h1
     rcases Nat.lt_or_ge i listed.size with h' | h'
     ·simp [h'] at h0 h1; rw [h0] at h1; cases h1
     ·simp [Array.getElem?_eq_none h'] at h1
    obtain ⟨a1, a2, a3⟩ := Oper.apart_spec (hfree j oj hoj hji hjun hnot)
    have hfree' : ∀ k ok, ops[k]? = some ok → k ≠ i → (listed.setIfInBounds j true).getD k true = false →
      (∀ e ∈ ok.after, Region.binds .any e = true → e.on ≠ i) → oi.apart ops ok = true := fun k ok hk hki hun hno => by
     refine hfree k ok hk hki ?_ hno
     by_cases hjk : j = k
     ·subst hjk; exact hjun
     ·rw [getD_set_ne true hjk] at hun; exact hun
    refine ⟨dj, (Yld.put a1).1 hyj, hdj, ih (listed.setIfInBounds j true) _ hfree' (ready_mono hr (Ne.symm hji)) ((Yld.put a3).2 hy) hd ?_⟩
    rw [Array.setIfInBounds_comm _ _ hji, ← putS_comm a2]
    exact hK
def pureL (P : Program) (N : Nat) (ops : Array Oper) (st : Store) (Q : Slots → Prop) : List Oper → Slots → Prop
 | [], s => Q s
 | o :: rest, s => ∃ d, Yld P ops o s st d ∧ dstOk N o.dst ∧ pureL P N ops st Q rest (putS o.dst d s)
theorem anyP_lex {P : Program} {N : Nat} {ops : Array Oper} {st : Store} {Q : Slots → Prop} : ∀ (l : List Oper) (k : Nat) (listed : Array Bool) (s : Slots), (∀ j, l[j]? = ops[k + j]?) →
  Region.lexFrom .any ops l.length k listed = true → pureL P N ops st Q l s → anyP P N ops st Q l.length listed s
 | [], _, _, _, _, hB, h => ⟨by simpa [Region.lexFrom] using hB, h⟩
 | o :: l, k, listed, s, hl, hB, h => by
   have h0 : ops[k]? = some o := by simpa using (hl 0).symm
   simp only [List.length_cons, Region.lexFrom, Bool.and_eq_true] at hB
   obtain ⟨⟨hr, hf⟩, hB'⟩ := hB
   obtain ⟨d, hy, hd, hK⟩ := h
   exact anyP_first h0 l.length listed s (Region.free_spec h0 hf) (by simpa using hr) hy hd
    (anyP_lex l (k + 1) _ _ (fun j => by have := hl (j + 1); simpa [Nat.add_assoc, Nat.add_comm 1 j] using this) hB' hK)
def wpD (P : Program) (N : Nat) (c : Code) (Q : Exit → Slots → Store → Prop) (s : Slots) (st : Store) : Prop :=
 ∀ (E : Env) (a : Act), Conc E → E.st = st → SlotsOk E N s a → c.wp P (fun e a' w' => ∃ (s' : Slots) (E' : Env), E'.w = w' ∧ Q e s' E'.st ∧ Conc E' ∧ Ext E E' ∧ SlotsOk E' N s' a') a E.w
section rules
variable {P : Program} {N : Nat} {Q : Exit → Slots → Store → Prop} {s : Slots} {st : Store}
theorem wpD_mono {c : Code} {Q' : Exit → Slots → Store → Prop} (h : wpD P N c Q s st) (hq : ∀ e s st, Q e s st → Q' e s st) : wpD P N c Q' s st :=
 fun E a h1 h2 h3 => wp_mono (h E a h1 h2 h3) fun _ _ _ ⟨s', E', k1, k2, k3⟩ => ⟨s', E', k1, hq _ _ _ k2, k3⟩
theorem wpD_any {id : Nat} {l : List Oper} (hm : P.follows .mixedOrders = true) (h : anyD P N l.toArray (fun s' st' => Q .normal s' st') l.length (Array.replicate l.length false) s st) : wpD P N (.region id l.toArray true) Q s st := by
 intro E a hc hst hs
 subst hst
 obtain ⟨c1, c2⟩ := newNone hc { E.w with drawn := E.w.drawn + 1 } (Nat.le_refl _) (fun _ _ => rfl) rfl rfl rfl
 refine wp_region_any hm ?_
 have := any_ok (P := P) (Q := fun e a' w' => ∃ (s' : Slots) (E' : Env), E'.w = w' ∧ Q e s' E'.st ∧ Conc E' ∧ Ext E E' ∧ SlotsOk E' N s' a') l.length (Array.replicate l.length false) s ⟨{ E.w with drawn := E.w.drawn + 1 }, E.S, E.σ, E.st⟩ a c1 (hs.ext hc c2) h
  fun s' a' E' hk h1 h2 h3 => ⟨s', E', rfl, hk, h1, Ext.trans hc.len c1.len c2 h2, h3⟩
 simpa using this
theorem wpD_pure {id : Nat} {l : List Oper} (hm : P.follows .mixedOrders = true) (hB : Region.lexB .any l.toArray = true) (h : pureL P N l.toArray st (fun s' => Q .normal s' st) l s) : wpD P N (.region id l.toArray true) Q s st := by
 refine wpD_any hm (anyD_of_pure _ _ _ ?_)
 simp only [Region.lexB, Bool.and_eq_true] at hB
 exact anyP_lex l 0 (Array.replicate l.length false) s (by simp) (by simpa using hB.2) h
theorem wpD_skip (h : Q .normal s st) : wpD P N .skip Q s st := fun E a hc hst hs => wp_skip ⟨s, E, rfl, by rw [hst]; exact h, hc, Ext.refl E, hs⟩
theorem wpD_exit {id : Nat} (h : Q (.exit id) s st) : wpD P N (.exit id) Q s st := fun E a hc hst hs => wp_exit ⟨s, E, rfl, by rw [hst]; exact h, hc, Ext.refl E, hs⟩
theorem wpD_ret (h : Q .ret s st) : wpD P N .ret Q s st := fun E a hc hst hs => wp_ret ⟨s, E, rfl, by rw [hst]; exact h, hc, Ext.refl E, hs⟩
def thenD (next : Slots → Store → Prop) (Q : Exit → Slots → Store → Prop) : Exit → Slots → Store → Prop
 | .normal, s, st => next s st
 | e, s, st => Q e s st
theorem wpD_seq {x y : Code} (h : wpD P N x (thenD (wpD P N y Q) Q) s st) : wpD P N (.seq x y) Q s st := by
 intro E a hc hst hs
 refine wp_seq (wp_mono (h E a hc hst hs) ?_)
 rintro e a' w' ⟨s', E', rfl, hq, h1, h2, h3⟩
 cases e <;> first
  | exact wp_mono (hq E' a' h1 rfl h3) fun _ _ _ ⟨s2, E2, k1, k2, k3, k4, k5⟩ => ⟨s2, E2, k1, k2, k3, Ext.trans hc.len h1.len h2 k4, k5⟩
  | exact ⟨s', E', rfl, hq, h1, h2, h3⟩
def blockD (id : Nat) (Q : Exit → Slots → Store → Prop) : Exit → Slots → Store → Prop
 | .exit id', s, st => if id' = id then Q .normal s st else Q (.exit id') s st
 | e, s, st => Q e s st
theorem wpD_block {id : Nat} {c : Code} (h : wpD P N c (blockD id Q) s st) : wpD P N (.block id c) Q s st := by
 intro E a hc hst hs
 refine wp_block (wp_mono (h E a hc hst hs) ?_)
 rintro e a' w' ⟨s', E', rfl, hq, h1, h2, h3⟩
 cases e <;> first
  | exact ⟨s', E', rfl, hq, h1, h2, h3⟩
  | (simp only [blockD] at hq
     simp only [Exit.inBlock]
     split
     ·rename_i e; rw [if_pos e] at hq; exact ⟨s', E', rfl, hq, h1, h2, h3⟩
     ·rename_i e; rw [if_neg e] at hq; exact ⟨s', E', rfl, hq, h1, h2, h3⟩)
theorem wpD_cond {c : Operand} {x y : Code} (t : Bool) (hc : ev s c = boolD t) (h1 : t = true → wpD P N x Q s st) (h2 : t = false → wpD P N y Q s st) : wpD P N (.cond c x y) Q s st := by
 intro E a hcc hst hs
 have := ev_rep hs c
 rw [hc] at this
 cases t
 ·exact wp_cond_false this (h2 rfl E a hcc hst hs)
 ·exact wp_cond_true this (h1 rfl E a hcc hst hs)
end rules
def Tells (k : Nat) (s : Slots) (st : Store) (s' : Slots) (st' : Store) : Prop :=
 ∀ (E : Env) (N : Nat) (a : Act), Conc E → E.st = st → SlotsOk E N s a → ∃ E' : Env, E'.w = E.w ∧ E'.st = st' ∧ Conc E' ∧ SlotsOk E' N s' a ∧ ∀ F : Env, F.σ.length = F.st.length → F.st.length ≤ k → Ext F E → Ext F E'
theorem Tells.trans {k : Nat} {s s' s2 : Slots} {st st' st2 : Store} (h : Tells k s st s' st') (g : Tells k s' st' s2 st2) : Tells k s st s2 st2 := fun E N a h1 h2 h3 => by
 obtain ⟨E', a1, a2, a3, a4, a5⟩ := h E N a h1 h2 h3
 obtain ⟨E2, b1, b2, b3, b4, b5⟩ := g E' N a a3 a2 a4
 exact ⟨E2, b1.trans a1, b2, b3, b4, fun F q1 q2 q3 => b5 F q1 q2 (a5 F q1 q2 q3)⟩
theorem Tells.any (k : Nat) (s s' : Slots) (st : Store) (h : ∀ i, s' i = s i ∨ s' i = .any) : Tells k s st s' st := fun E N a h1 h2 h3 =>
 ⟨E, rfl, h2, h1, ⟨h3.size, fun i => by
   rcases h i with e | e
   ·rw [e]; exact h3.rep i
   ·rw [e]; trivial, h3.defers⟩, fun _ _ _ h => h⟩
theorem wpD_tells {P : Program} {N : Nat} {c : Code} {Q : Exit → Slots → Store → Prop} {s s' : Slots} {st st' : Store} (h : Tells st.length s st s' st') (hw : wpD P N c Q s' st') : wpD P N c Q s st := by
 intro E a hc hst hs
 subst hst
 obtain ⟨E', a1, a2, a3, a4, a5⟩ := h E N a hc rfl hs
 rw [← a1]
 exact wp_mono (hw E' a a3 a2 a4) fun _ _ _ ⟨s2, E2, k1, k2, k3, k4, k5⟩ => ⟨s2, E2, k1, k2, k3, Ext.trans hc.len a3.len (a5 E hc.len (Nat.le_refl _) (Ext.refl E)) k4, k5⟩
theorem least (p : Nat → Prop) (h : ∃ n, p n) : ∃ n, p n ∧ ∀ m, p m → n ≤ m := by
 obtain ⟨n, hn⟩ := h
 induction n using Nat.strongRecOn with
 | _ n ih =>
   by_cases hm : ∃ m, m < n ∧ p m
   ·obtain ⟨m, h1, h2⟩ := hm
    exact ih m h1 h2
   ·exact ⟨n, hn, fun m hp => Nat.le_of_not_lt fun h => hm ⟨m, h, hp⟩⟩
theorem wpD_loop {P : Program} {N : Nat} {c : Code} {Q : Exit → Slots → Store → Prop} {s : Slots} {st : Store} (I : Nat → Slots → Store → Prop) (n0 : Nat) (h0 : I n0 s st)
  (round : ∀ n s1 st1, I n s1 st1 → wpD P N c (thenD (fun s' st' => ∃ m s2 st2, m < n ∧ Tells st.length s' st' s2 st2 ∧ I m s2 st2) Q) s1 st1) : wpD P N (.loop c) Q s st := by
 intro E a hc hst hs
 subst hst
 let R : Nat → Act → World → Prop := fun n a w => ∃ (s1 : Slots) (E1 : Env), E1.w = w ∧ I n s1 E1.st ∧ Conc E1 ∧ Ext E E1 ∧ SlotsOk E1 N s1 a
 classical
 refine wp_loop (fun a w => ∃ n, R n a w) (fun a w => if h : ∃ n, R n a w then Classical.choose (least _ h) else 0) ⟨n0, s, E, rfl, h0, hc, Ext.refl E, hs⟩ ?_
 intro a1 w1 hR
 have hspec := (Classical.choose_spec (least _ hR)).1
 rw [dif_pos hR]
 generalize Classical.choose (least _ hR) = n at hspec ⊢
 obtain ⟨s1, E1, rfl, hI, hc1, hx1, hs1⟩ := hspec
 refine wp_mono (round n s1 E1.st hI E1 a1 hc1 rfl hs1) ?_
 rintro e a' w' ⟨s', E', rfl, hq, h1, h2, h3⟩
 have hx : Ext E E' := Ext.trans hc.len hc1.len hx1 h2
 cases e
 case normal =>
  obtain ⟨m, s2, st2, hm, ht, hI2⟩ := hq
  obtain ⟨E2, b1, b2, b3, b4, b5⟩ := ht E' N a' h1 rfl h3
  have hRm : R m a' E'.w := ⟨s2, E2, b1, by rw [b2]; exact hI2, b3, b5 E hc.len (Nat.le_refl _) hx, b4⟩
  have hex : ∃ n, R n a' E'.w := ⟨m, hRm⟩
  refine ⟨hex, ?_⟩
  rw [dif_pos hex]
  exact Nat.lt_of_le_of_lt ((Classical.choose_spec (least _ hex)).2 m hRm) hm
 all_goals exact ⟨s', E', rfl, hq, h1, hx, h3⟩
end Go.Proofs.Ytadnpgkddgbhkaa
namespace Go.Proofs.Ytadnpgkddgbhkaa
open Go.RowKit
set_option linter.all false
def Turn (k : Nat) (st st' : Store) (T : DV → DV → Prop) : Prop :=
 ∀ E : Env, Conc E → E.st = st → ∃ E' : Env, E'.w = E.w ∧ E'.st = st' ∧ Conc E' ∧ (∀ d d' v, T d d' → Rep E d v → Rep E' d' v) ∧ ∀ F : Env, F.σ.length = F.st.length → F.st.length ≤ k → Ext F E → Ext F E'
theorem Tells.turn {k : Nat} {st st' : Store} {T : DV → DV → Prop} (h : Turn k st st' T) {s s' : Slots} (hs : ∀ i, T (s i) (s' i)) : Tells k s st s' st' := fun E N a h1 h2 h3 => by
 obtain ⟨E', a1, a2, a3, a4, a5⟩ := h E h1 h2
 exact ⟨E', a1, a2, a3, ⟨h3.size, fun i => a4 _ _ _ (hs i) (h3.rep i), h3.defers⟩, a5⟩
def TellsV (k : Nat) (d : DV) (st : Store) (d' : DV) (st' : Store) : Prop :=
 ∀ (E : Env) (v : Value), Conc E → E.st = st → Rep E d v → ∃ E' : Env, E'.w = E.w ∧ E'.st = st' ∧ Conc E' ∧ Rep E' d' v ∧ ∀ F : Env, F.σ.length = F.st.length → F.st.length ≤ k → Ext F E → Ext F E'
theorem TellsV.refl (k : Nat) (d : DV) (st : Store) : TellsV k d st d st := fun E _ h1 h2 h3 => ⟨E, rfl, h2, h1, h3, fun _ _ _ h => h⟩
theorem TellsV.trans {k : Nat} {d d' d2 : DV} {st st' st2 : Store} (h : TellsV k d st d' st') (g : TellsV k d' st' d2 st2) : TellsV k d st d2 st2 := fun E v h1 h2 h3 => by
 obtain ⟨E', a1, a2, a3, a4, a5⟩ := h E v h1 h2 h3
 obtain ⟨E2, b1, b2, b3, b4, b5⟩ := g E' v a3 a2 a4
 exact ⟨E2, b1.trans a1, b2, b3, b4, fun F q1 q2 q3 => b5 F q1 q2 (a5 F q1 q2 q3)⟩
theorem TellsV.turn {k : Nat} {st st' : Store} {T : DV → DV → Prop} (h : Turn k st st' T) {d d' : DV} (hs : T d d') : TellsV k d st d' st' := fun E v h1 h2 h3 => by
 obtain ⟨E', a1, a2, a3, a4, a5⟩ := h E h1 h2
 exact ⟨E', a1, a2, a3, a4 _ _ _ hs h3, a5⟩
theorem TellsV.nil (k : Nat) (st : Store) (sz : Nat) : TellsV k nilS st (.d (.slc sz [])) st := fun E v h1 h2 h3 => ⟨E, rfl, h2, h1, .inl ⟨rfl, h3⟩, fun _ _ _ h => h⟩
mutual
def pullD (κ : List Nat) : DV → DV
 | .any => .any
 | .d p => .d p
 | .agg cs => .agg (pullL κ cs)
 | .tup cs => .tup (pullL κ cs)
 | .ref b ver o => match κ.idxOf? b with
   | some j => .ref j ver o
   | none => .any
 | .cref cs => .cref cs
 | .view sz b ver o n => match κ.idxOf? b with
   | some j => .view sz j ver o n
   | none => .any
 | .fn f cs => .fn f (pullL κ cs)
def pullL (κ : List Nat) : List DV → List DV
 | [] => []
 | d :: ds => pullD κ d :: pullL κ ds
end
theorem pullL_eq (κ : List Nat) : ∀ ds : List DV, pullL κ ds = ds.map (pullD κ)
 | [] => rfl
 | d :: ds => by simp [pullL, pullL_eq κ ds]
def pullBox (κ : List Nat) (bx : Box) : Box := { bx with cells := pullL κ bx.cells }
def noBox : Box := ⟨0, [], false, 0, false⟩
def keepSt (κ : List Nat) (st : Store) : Store := κ.map fun b => pullBox κ (st.getD b noBox)
structure Pulled (E E' : Env) (κ : List Nat) : Prop where
 w : E'.w = E.w
 S : E'.S = E.S
 at_ : ∀ (b j : Nat), κ.idxOf? b = some j → (∀ bx, E.st[b]? = some bx → E'.st[j]? = some (pullBox κ bx)) ∧ ∀ gz, E.σ[b]? = some gz → E'.σ[j]? = some gz
mutual
theorem Rep.pull {E E' : Env} {κ : List Nat} (h : Pulled E E' κ) : ∀ (d : DV) (u : Value), Rep E d u → Rep E' (pullD κ d) u
 | .any, _, _ => trivial
 | .d p, u, hr => by simp only [pullD, Rep] at hr ⊢; rw [h.w, h.S]; exact hr
 | .agg cs, _, ⟨vs, h1, h3, h2⟩ => ⟨vs, h1, h3, Reps.pull h cs vs h2⟩
 | .tup cs, _, ⟨vs, h1, h2⟩ => ⟨vs, h1, Reps.pull h cs vs h2⟩
 | .fn _ cs, _, ⟨vs, h1, h2⟩ => ⟨vs, h1, Reps.pull h cs vs h2⟩
 | .ref b ver o, u, ⟨bx, gz, h1, h2, h0, h3, h4⟩ => by
    simp only [pullD]
    cases hk : κ.idxOf? b with
    | none => trivial
    | some j => exact ⟨_, gz, (h.at_ b j hk).1 bx h1, (h.at_ b j hk).2 gz h2, h0, h3, h4⟩
 | .cref cs, u, hr => by simp only [pullD, Rep] at hr ⊢; rw [h.w, h.S]; exact hr
 | .view sz b ver o n, u, ⟨bx, gz, h1, h2, h0, h3, h4⟩ => by
    simp only [pullD]
    cases hk : κ.idxOf? b with
    | none => trivial
    | some j => exact ⟨_, gz, (h.at_ b j hk).1 bx h1, (h.at_ b j hk).2 gz h2, h0, h3, h4⟩
theorem Reps.pull {E E' : Env} {κ : List Nat} (h : Pulled E E' κ) : ∀ (ds : List DV) (vs : List Value), Reps E ds vs → Reps E' (pullL κ ds) vs
 | [], [], _ => trivial
 | d :: ds, v :: vs, ⟨h1, h2⟩ => ⟨Rep.pull h d v h1, Reps.pull h ds vs h2⟩
 | [], _ :: _, h => h.elim
 | _ :: _, [], h => h.elim
end
theorem Turn.keep {k : Nat} {st : Store} (κ : List Nat) (hn : κ.Nodup) (hv : ∀ b ∈ κ, b < st.length) (hk : ∀ b, b < k → κ[b]? = some b) (hkl : k ≤ κ.length) : Turn k st (keepSt κ st) fun d d' => d' = pullD κ d := by
 intro E hc hst
 subst hst
 have hlen := hc.len
 let E' : Env := ⟨E.w, E.S, κ.map fun b => E.σ.getD b (0, 0), keepSt κ E.st⟩
 have hget : ∀ (j b : Nat), κ[j]? = some b → ∃ bx gz, E.st[b]? = some bx ∧ E.σ[b]? = some gz ∧ E'.st[j]? = some (pullBox κ bx) ∧ E'.σ[j]? = some gz := by
  intro j b hj
  have hb := hv b (List.mem_of_getElem? hj)
  refine ⟨E.st[b], E.σ[b]'(by omega), List.getElem?_eq_getElem _, List.getElem?_eq_getElem _, ?_, ?_⟩
  ·simp [E', keepSt, hj, List.getD_eq_getElem?_getD, List.getElem?_eq_getElem hb]
  ·simp [E', hj, List.getD_eq_getElem?_getD, List.getElem?_eq_getElem (show b < E.σ.length by omega)]
 have hidx : ∀ (b j : Nat), κ.idxOf? b = some j → κ[j]? = some b := by
  intro b j h
  obtain ⟨h1, h2, _⟩ := List.idxOf?_eq_some_iff.1 h
  rw [List.getElem?_eq_getElem h1]
  simpa using h2
 have hpull : Pulled E E' κ := ⟨rfl, rfl, fun b j h => by
  obtain ⟨bx, gz, a1, a2, a3, a4⟩ := hget j b (hidx b j h)
  exact ⟨fun bx' h1 => by rw [a1] at h1; cases h1; exact a3, fun gz' h1 => by rw [a2] at h1; cases h1; exact a4⟩⟩
 have hsrc : ∀ (j : Nat) (gz : Nat × Nat), E'.σ[j]? = some gz → ∃ b, κ[j]? = some b ∧ E.σ[b]? = some gz := by
  intro j gz h
  have hj : j < κ.length := by
   have := (List.getElem?_eq_some_iff.1 h).1
   simpa [E'] using this
  obtain ⟨bx, gz', a1, a2, a3, a4⟩ := hget j _ (List.getElem?_eq_getElem hj)
  rw [a4] at h
  cases h
  exact ⟨_, List.getElem?_eq_getElem hj, a2⟩
 have hinj : ∀ (j j' b : Nat), κ[j]? = some b → κ[j']? = some b → j = j' := by
  intro j j' r h1 h2
  obtain ⟨l1, e1⟩ := List.getElem?_eq_some_iff.1 h1
  obtain ⟨l2, e2⟩ := List.getElem?_eq_some_iff.1 h2
  rcases Nat.lt_trichotomy j j' with hlt | heq | hgt
  ·exact absurd (e1.trans e2.symm) (List.pairwise_iff_getElem.1 hn j j' l1 l2 hlt)
  ·exact heq
  ·exact absurd (e2.trans e1.symm) (List.pairwise_iff_getElem.1 hn j' j l2 l1 hgt)
 refine ⟨E', rfl, rfl, ⟨by simp [E', keepSt], fun j bx g z h1 h2 hl => ?_, fun j j' g z g' z' h1 h2 he => ?_, hc.old, fun j g z h => ?_⟩, fun d d' v ht hr => by subst ht; exact Rep.pull hpull d v hr, fun F hF hFk hx => ?_⟩
 ·obtain ⟨b, e1, e2⟩ := hsrc j _ h2
  obtain ⟨bx', gz', a1, a2, a3, a4⟩ := hget j b e1
  rw [h1] at a3
  cases a3
  obtain ⟨cur, c1, c2, c3, c4, c5, c6, c7, c8⟩ := hc.box b bx' g z a1 e2 hl
  refine ⟨cur, c1, c2, by simpa [pullBox, pullL_eq] using c3, fun he => by simpa [pullBox, pullL_eq] using c4 he, c5, c6, fun i d hi => ?_, c8⟩
  simp only [pullBox, pullL_eq, List.getElem?_map] at hi
  cases hd : bx'.cells[i]? with
  | none => rw [hd] at hi; cases hi
  | some d0 =>
    rw [hd] at hi
    simp only [Option.map_some, Option.some.injEq] at hi
    subst hi
    obtain ⟨u, q1, q2, q3⟩ := c7 i d0 hd
    exact ⟨u, q1, q2, Rep.pull hpull d0 u q3⟩
 ·obtain ⟨b, e1, e2⟩ := hsrc j _ h1
  obtain ⟨b', e3, e4⟩ := hsrc j' _ h2
  have := hc.inj b b' g z g' z' e2 e4 he
  subst this
  exact hinj j j' b e1 e3
 ·obtain ⟨b, e1, e2⟩ := hsrc j _ h
  exact hc.lt b g z e2
 ·refine ⟨hx.size, hx.os, hx.tape, hx.output, hx.set, hx.fresh, hx.heap, fun b bx gz h1 h2 => ?_, fun j gz h1 h2 => ?_⟩
  ·have hb := (List.getElem?_eq_some_iff.1 h1).1
   obtain ⟨bx', gz', a1, a2, a3, a4, a5, a6⟩ := hx.box b bx gz h1 h2
   obtain ⟨bx2, gz2, b1, b2, b3, b4⟩ := hget b b (hk b (by omega))
   rw [a1] at b1; cases b1
   rw [a2] at b2; cases b2
   exact ⟨_, _, b3, b4, a3, a4, a5, a6⟩
  ·obtain ⟨b, e1, e2⟩ := hsrc j _ h2
   have hj := List.getElem?_eq_none_iff.1 h1
   refine hx.new b gz ?_ e2
   rw [List.getElem?_eq_none_iff]
   rcases Nat.lt_or_ge b F.σ.length with hlt | hge
   ·have := hinj j b b e1 (hk b (by omega))
    omega
   ·exact hge
mutual
def fzD (b ver sz : Nat) (xs : List (List PD)) : DV → DV
 | .any => .any
 | .d p => .d p
 | .agg cs => .agg (fzL b ver sz xs cs)
 | .tup cs => .tup (fzL b ver sz xs cs)
 | .ref b' ver' o => .ref b' ver' o
 | .cref cs => .cref cs
 | .view sz' b' ver' o n => if b' = b ∧ ver' = ver ∧ sz' = sz ∧ o = 0 ∧ n = xs.length then .d (.slc sz xs) else .view sz' b' ver' o n
 | .fn f cs => .fn f (fzL b ver sz xs cs)
def fzL (b ver sz : Nat) (xs : List (List PD)) : List DV → List DV
 | [] => []
 | d :: ds => fzD b ver sz xs d :: fzL b ver sz xs ds
end
theorem fzL_eq (b ver sz : Nat) (xs : List (List PD)) : ∀ ds : List DV, fzL b ver sz xs ds = ds.map (fzD b ver sz xs)
 | [] => rfl
 | d :: ds => by simp [fzL, fzL_eq b ver sz xs ds]
def fzBox (b ver sz : Nat) (xs : List (List PD)) (bx : Box) : Box := { bx with cells := fzL b ver sz xs bx.cells }
def fzSt (b sz : Nat) (xs : List (List PD)) (st : Store) : Store := match st[b]? with
 | some bx => (st.map (fzBox b bx.ver sz xs)).set b ⟨bx.ty, [], false, bx.ver + 1, false⟩
 | none => st
theorem freeze_env {st : Store} (b sz : Nat) (xs : List (List PD)) (bx : Box) (hb : st[b]? = some bx) (hl : bx.live = true) (hcells : bx.cells = rowsD xs) (hsz : ∀ x ∈ xs, x.length = sz) (E : Env) (hc : Conc E) (hst : E.st = st) :
  ∃ E' : Env, E'.w = E.w ∧ E'.st = fzSt b sz xs st ∧ Conc E' ∧ (∀ d v, Rep E d v → Rep E' (fzD b bx.ver sz xs d) v) ∧ Ext E E' ∧ ∀ k, k ≤ b → ∀ F : Env, F.σ.length = F.st.length → F.st.length ≤ k → Ext F E → Ext F E' := by
 subst hst
 have hbl := (List.getElem?_eq_some_iff.1 hb).1
 have hlen := hc.len
 obtain ⟨⟨g, z⟩, hg⟩ : ∃ gz, E.σ[b]? = some gz := ⟨E.σ[b]'(by omega), List.getElem?_eq_getElem _⟩
 obtain ⟨cur, a1, a2, a3, a4, a5, a6, a7, a8⟩ := hc.box b bx g z hb hg hl
 let S' : Nat → Prop := fun g' => E.S g' ∨ g' = g
 let E' : Env := ⟨E.w, S', E.σ, fzSt b sz xs E.st⟩
 have hkept : Kept E.w E.w E.S S' := fun g' h => ⟨.inl h, rfl⟩
 have hrows : RowsP E.w S' sz xs ⟨g, 0, none⟩ := by
  refine RowsP.of_flat xs _ hsz (CellsP.of_get _ _ fun j p hj => ?_)
  obtain ⟨u, c1, c2, c3⟩ := a7 j (.d p) (by rw [hcells, rowsD_get, hj]; rfl)
  refine ⟨u, ?_, c2, RepP.keep hkept p u c3⟩
  have hadd : (⟨g, 0, none⟩ : Addr).add j = ⟨g, j, none⟩ := by unfold Addr.add; split <;> simp_all
  rw [hadd]
  simp [World.cell?, a1, c1]
 have hst' : ∀ i, i ≠ b → E'.st[i]? = (E.st[i]?).map (fzBox b bx.ver sz xs) := fun i hi => by rw [show E'.st = (E.st.map (fzBox b bx.ver sz xs)).set b ⟨bx.ty, [], false, bx.ver + 1, false⟩ by simp only [E', fzSt, hb]]; simp [Ne.symm hi]
 have hstb : E'.st[b]? = some ⟨bx.ty, [], false, bx.ver + 1, false⟩ := by
  rw [show E'.st = (E.st.map (fzBox b bx.ver sz xs)).set b ⟨bx.ty, [], false, bx.ver + 1, false⟩ by simp only [E', fzSt, hb]]
  simp [hbl]
 have hbox : ∀ (i : Nat) (bi : Box), E.st[i]? = some bi → ∃ bi', E'.st[i]? = some bi' ∧ bi.ver ≤ bi'.ver ∧ (i ≠ b → bi'.ver = bi.ver) ∧ (i = b → bi'.ver = bi.ver + 1) := by
  intro i bi hi
  by_cases e : i = b
  ·subst e
   rw [hb] at hi; cases hi
   exact ⟨_, hstb, by simp, fun h => absurd rfl h, fun _ => rfl⟩
  ·exact ⟨fzBox b bx.ver sz xs bi, by rw [hst' i e, hi]; rfl, Nat.le_refl _, fun _ => rfl, fun h => absurd h e⟩
 have key : (∀ (d : DV) (u : Value), Rep E d u → Rep E' (fzD b bx.ver sz xs d) u) := by
  intro d
  refine DV.rec (motive_1 := fun d => ∀ u, Rep E d u → Rep E' (fzD b bx.ver sz xs d) u) (motive_2 := fun ds => ∀ vs, Reps E ds vs → Reps E' (fzL b bx.ver sz xs ds) vs) ?_ ?_ ?_ ?_ ?_ ?_ ?_ ?_ ?_ ?_ d
  ·intro u _; trivial
  ·intro p u h; exact RepP.keep hkept p u h
  ·intro cs ih u ⟨vs, h1, h3, h2⟩; exact ⟨vs, h1, h3, ih vs h2⟩
  ·intro cs ih u ⟨vs, h1, h2⟩; exact ⟨vs, h1, ih vs h2⟩
  ·intro b' ver o u ⟨bi, gz, h1, h2, h0, h3, h4⟩
   obtain ⟨bi', q1, q2, q3, q4⟩ := hbox b' bi h1
   refine ⟨bi', gz, q1, h2, h0, by omega, fun e => ?_⟩
   by_cases eb : b' = b
   ·have := q4 eb; omega
   ·exact h4 (by have := q3 eb; omega)
  ·intro cs u ⟨a, h1, h2, h3⟩
   refine ⟨a, h1, fun hx => .inl (h2 hx), ?_⟩
   cases cs with
   | nil => trivial
   | cons c cs => exact CellsP.keep hkept (c :: cs) a (h2 (by simp)) h3
  ·intro sz' b' ver o n u ⟨bi, gz, h1, h2, h0, h3, h4⟩
   simp only [fzD]
   split
   ·rename_i hq
    obtain ⟨rfl, rfl, rfl, rfl, rfl⟩ := hq
    rw [hb] at h1; cases h1
    rw [hg] at h2; cases h2
    obtain ⟨c, rfl, c1, c2, c3⟩ := h4 rfl
    exact .inr ⟨_, c, rfl, c1, c2, fun _ => .inr rfl, hrows⟩
   ·obtain ⟨bi', q1, q2, q3, q4⟩ := hbox b' bi h1
    refine ⟨bi', gz, q1, h2, h0, by omega, fun e => ?_⟩
    by_cases eb : b' = b
    ·have := q4 eb; omega
    ·exact h4 (by have := q3 eb; omega)
  ·intro f cs ih u ⟨vs, h1, h2⟩; exact ⟨vs, h1, ih vs h2⟩
  ·intro vs h; cases vs <;> first | trivial | exact h.elim
  ·intro d ds ih1 ih2 vs h
   cases vs with
   | nil => exact h.elim
   | cons v vs => exact ⟨ih1 v h.1, ih2 vs h.2⟩
 refine ⟨E', rfl, rfl, ⟨by simp [E', fzSt, hb, hlen], fun i bi g' z' h1 h2 hli => ?_, hc.inj, fun g' h => ?_, hc.lt⟩, fun d v hr => key d v hr, ⟨Nat.le_refl _, rfl, rfl, rfl, fun _ h => .inl h, fun g' h => ?_, fun _ _ _ => rfl, fun i bi gz h1 h2 => ?_, fun i gz h1 h2 => by rw [show E'.σ = E.σ from rfl, h1] at h2; cases h2⟩, fun k hkb F hF hFk hx => ?_⟩
 ·by_cases e : i = b
  ·subst e
   rw [hstb] at h1
   cases h1
   cases hli
  ·rw [hst' i e] at h1
   cases hi : E.st[i]? with
   | none => rw [hi] at h1; cases h1
   | some bi0 =>
     rw [hi] at h1
     simp only [Option.map_some, Option.some.injEq] at h1
     subst h1
     obtain ⟨cur', c1, c2, c3, c4, c5, c6, c7, c8⟩ := hc.box i bi0 g' z' hi h2 hli
     refine ⟨cur', c1, c2, by simpa [fzBox, fzL_eq] using c3, fun he => by simpa [fzBox, fzL_eq] using c4 he, c5, fun hS => ?_, fun j d hj => ?_, c8⟩
     ·rcases hS with hS | hS
      ·exact c6 hS
      ·exact e (hc.inj i b g' z' g z h2 hg hS)
     ·simp only [fzBox, fzL_eq, List.getElem?_map] at hj
      cases hd : bi0.cells[j]? with
      | none => rw [hd] at hj; cases hj
      | some d0 =>
        rw [hd] at hj
        simp only [Option.map_some, Option.some.injEq] at hj
        subst hj
        obtain ⟨u, q1, q2, q3⟩ := c7 j d0 hd
        exact ⟨u, q1, q2, key d0 u q3⟩
 ·rcases h with h | h
  ·exact hc.old g' h
  ·subst h; exact hc.lt b _ z hg
 ·rcases h with h | h
  ·exact .inl h
  ·subst h; exact .inr (.inr ⟨b, z, hg⟩)
 ·by_cases e : i = b
  ·subst e
   rw [hb] at h1; cases h1
   exact ⟨_, gz, hstb, h2, Nat.le_succ _, fun e => absurd e (by simp), fun _ => rfl, .inl rfl⟩
  ·exact ⟨fzBox b bx.ver sz xs bi, gz, by rw [hst' i e, h1]; rfl, h2, Nat.le_refl _, fun _ => rfl, id, .inl rfl⟩
 ·refine ⟨hx.size, hx.os, hx.tape, hx.output, fun g' h => .inl (hx.set g' h), fun g' h => ?_, hx.heap, fun i bi gz h1 h2 => ?_, hx.new⟩
  ·rcases h with h | h
   ·exact hx.fresh g' h
   ·subst h
    exact .inr (.inl (hx.new b (_, z) (List.getElem?_eq_none_iff.2 (by omega)) hg))
  ·have hi := (List.getElem?_eq_some_iff.1 h1).1
   obtain ⟨bi', gz', q1, q2, q3, q4, q5, q6⟩ := hx.box i bi gz h1 h2
   exact ⟨fzBox b bx.ver sz xs bi', gz', by rw [hst' i (by omega), q1]; rfl, q2, q3, q4, q5, q6⟩
theorem Turn.freeze {k : Nat} {st : Store} (b sz : Nat) (xs : List (List PD)) (bx : Box) (hb : st[b]? = some bx) (hl : bx.live = true) (hkb : k ≤ b) (hcells : bx.cells = rowsD xs) (hsz : ∀ x ∈ xs, x.length = sz) :
  Turn k st (fzSt b sz xs st) fun d d' => d' = fzD b bx.ver sz xs d := by
 intro E hc hst
 obtain ⟨E', a1, a2, a3, a4, _, a5⟩ := freeze_env b sz xs bx hb hl hcells hsz E hc hst
 exact ⟨E', a1, a2, a3, fun d d' v ht hr => by subst ht; exact a4 d v hr, a5 k hkb⟩
end Go.Proofs.Ytadnpgkddgbhkaa
namespace Go.Proofs.Ytadnpgkddgbhkaa
open Go.RowKit
set_option linter.all false
def initS (args : List DV) : Slots := fun i => match args[i]? with
 | some d => d
 | none => .d (.sc undef)
def resD (P : Program) (s : Slots) (st : Store) : List ResultVar → (List DV → Prop) → Prop
 | [], K => K []
 | .tmp t :: rs, K => resD P s st rs fun ds => K (s t :: ds)
 | .cell p ty :: rs, K => loadD P st ty (s p) fun d => resD P s st rs fun ds => K (d :: ds)
def oneD : List DV → DV
 | [d] => d
 | ds => .tup ds
def RetW (k : Nat) (R : DV → Store → Prop) (d : DV) (st : Store) : Prop := ∃ d' st', TellsV k d st d' st' ∧ R d' st'
theorem RetW.refl {k : Nat} {R : DV → Store → Prop} {d : DV} {st : Store} (h : R d st) : RetW k R d st := ⟨d, st, TellsV.refl k d st, h⟩
def retQ (P : Program) (rs : List ResultVar) (k : Nat) (R : DV → Store → Prop) : Exit → Slots → Store → Prop
 | .ret, s, st => resD P s st rs fun ds => RetW k R (oneD ds) st
 | .normal, s, st => resD P s st rs fun ds => RetW k R (oneD ds) st
 | _, _, _ => False
def resF (tmps : Array Value) : ResultVar → Sem Value
 | .tmp t => pure (tmps.getD t undef)
 | .cell p t => do loadVar t (← asAddr (tmps.getD p undef))
theorem res_ok {P : Program} {E : Env} {N : Nat} {s : Slots} {a : Act} (hc : Conc E) (hs : SlotsOk E N s a) : ∀ (rs : List ResultVar) (K : List DV → Prop), resD P s E.st rs K →
  ∃ (vs : List Value) (ds : List DV), (rs.mapM (resF a.tmps)).run P E.w = Result.ok vs E.w ∧ Reps E ds vs ∧ K ds
 | [], K, h => ⟨[], [], by simp, trivial, h⟩
 | .tmp t :: rs, K, h => by
    obtain ⟨vs, ds, h1, h2, h3⟩ := res_ok hc hs rs _ h
    exact ⟨a.tmps.getD t undef :: vs, s t :: ds, by simp only [List.mapM_cons, resF, Sem.run_bind, Sem.run_pure, Result.andThen_ok, h1], ⟨hs.rep t, h2⟩, h3⟩
 | .cell p ty :: rs, K, h => by
    obtain ⟨u, d, h0, h1, h2⟩ := load_ok hc (hs.rep p) h
    obtain ⟨vs, ds, h3, h4, h5⟩ := res_ok hc hs rs _ h1
    refine ⟨u :: vs, d :: ds, ?_, ⟨h2, h4⟩, h5⟩
    generalize hp : a.tmps.getD p undef = q at h0
    have key : (do loadVar ty (← asAddr q) : Sem Value).run P E.w = .ok u E.w := by
     unfold Instr.loadAt Instr.sureAddr at h0
     cases q <;> try (simp at h0; done)
     rename_i o
     cases o
     ·simp at h0
     ·simpa [asAddr] using h0
    rw [← hp] at key
    simp only [List.mapM_cons, resF, Sem.run_bind] at key ⊢
    rw [key]
    simp only [Result.andThen_ok, h3, Sem.run_pure]
theorem FnD_intro {P : Program} {f : FuncId} {fn : Func} {c : Code} {N : Nat} {args : List DV} {st : Store} {R : DV → Store → Prop} (hf : P.funcs[f]? = some fn) (hb : fn.body = some c) (hN : fn.ntmps = N) (ha : args.length ≤ N)
  (h : wpD P N c (retQ P fn.results.toList st.length R) (initS args) st) : FnD P f args st R := by
 intro E vs hc hst hr
 subst hst
 have hlen := hr.length
 have hs : SlotsOk E N (initS args) { tmps := vs.toArray ++ Array.replicate (fn.ntmps - vs.toArray.size) undef, defers := [] } := by
  refine ⟨by simp; omega, fun i => ?_, rfl⟩
  simp only [initS]
  rw [Array.getD_eq_getD_getElem?]
  by_cases hi : i < vs.length
  ·rw [Array.getElem?_append_left (by simpa using hi), List.getElem?_toArray]
   rw [List.getElem?_eq_getElem (show i < args.length by omega)]
   obtain ⟨v, e1, e2⟩ := hr.get _ _ i _ (List.getElem?_eq_getElem (show i < args.length by omega))
   rw [e1]
   exact e2
  ·rw [List.getElem?_eq_none (show args.length ≤ i by omega)]
   rw [Array.getElem?_append_right (by simp; omega)]
   show _ = undef
   rw [Array.getElem?_replicate]
   split <;> rfl
 refine calls_of_wp hf hb (wp_mono (h E _ hc rfl hs) ?_)
 rintro e a' w' ⟨s', E', rfl, hq, h1, h2, h3⟩
 have fin : resD P s' E'.st fn.results.toList (fun ds => RetW E.st.length R (oneD ds) E'.st) → a'.defers = [] ∧ ∃ v, (results fn a'.tmps).run P E'.w = .ok v E'.w ∧ ∃ (v' : Value) (E2 : Env) (r : DV), Ending.returned v = .returned v' ∧ E2.w = E'.w ∧ R r E2.st ∧ Conc E2 ∧ Ext E E2 ∧ Rep E2 r v' := by
  intro hq
  obtain ⟨us, ds, k1, k2, d', st', k3, k4⟩ := res_ok h1 h3 _ _ hq
  have hrep : Rep E' (oneD ds) (if h : us.toArray.size = 1 then us.toArray[0] else .tuple us.toArray) := by
   match ds, us, k2 with
   | [], [], _ => exact ⟨[], rfl, trivial⟩
   | [d], [u], ⟨q1, _⟩ => exact q1
   | d :: d2 :: ds, u :: u2 :: us, q => exact ⟨u :: u2 :: us, by simp, q⟩
  obtain ⟨E2, m1, m2, m3, m4, m5⟩ := k3 E' _ h1 rfl hrep
  refine ⟨h3.defers, _, ?_, _, E2, d', rfl, m1, by rw [m2]; exact k4, m3, m5 E hc.len (Nat.le_refl _) h2, m4⟩
  have hfun : (results fn a'.tmps) = (do let vs ← fn.results.mapM (resF a'.tmps); pure (if h : vs.size = 1 then vs[0] else .tuple vs)) := by
   unfold results
   congr 2
  rw [hfun, Array.mapM_eq_mapM_toList]
  simp only [Sem.run_bind, Sem.run_map, k1, Result.andThen_ok, Sem.run_pure]
 cases e <;> first
  | exact hq.elim
  | exact fin hq
def pureD (d : DV) : Bool := closedD 0 d
mutual
theorem renD_pure (φ : Nat → Nat) : ∀ d : DV, closedD 0 d = true → renD φ d = d
 | .any, _ => rfl
 | .d _, _ => rfl
 | .agg cs, h => by simp only [renD, renL_pure φ cs h]
 | .tup cs, h => by simp only [renD, renL_pure φ cs h]
 | .fn _ cs, h => by simp only [renD, renL_pure φ cs h]
 | .ref _ _ _, h => by simp [closedD] at h
 | .cref _, _ => rfl
 | .view _ _ _ _ _, h => by simp [closedD] at h
theorem renL_pure (φ : Nat → Nat) : ∀ ds : List DV, closedL 0 ds = true → renL φ ds = ds
 | [], _ => rfl
 | d :: ds, h => by
     simp only [closedL, Bool.and_eq_true] at h
     simp only [renL, renD_pure φ d h.1, renL_pure φ ds h.2]
end
mutual
theorem closedD_mono {n m : Nat} (hm : n ≤ m) : ∀ d : DV, closedD n d = true → closedD m d = true
 | .any, _ => rfl
 | .d _, _ => rfl
 | .agg cs, h => closedL_mono hm cs h
 | .tup cs, h => closedL_mono hm cs h
 | .fn _ cs, h => closedL_mono hm cs h
 | .ref b _ _, h => by simp only [closedD, decide_eq_true_eq] at h ⊢; omega
 | .cref _, _ => rfl
 | .view _ b _ _ _, h => by simp only [closedD, decide_eq_true_eq] at h ⊢; omega
theorem closedL_mono {n m : Nat} (hm : n ≤ m) : ∀ ds : List DV, closedL n ds = true → closedL m ds = true
 | [], _ => rfl
 | d :: ds, h => by
     simp only [closedL, Bool.and_eq_true] at h ⊢
     exact ⟨closedD_mono hm d h.1, closedL_mono hm ds h.2⟩
end
def FnP (P : Program) (f : FuncId) (args : List DV) (Q : DV → Prop) : Prop := FnD P f args [] fun r st => st = [] ∧ pureD r = true ∧ Q r
theorem FnP.use {P : Program} {f : FuncId} {args : List DV} {Q : DV → Prop} (h : FnP P f args Q) {st : Store} (ha : closedL 0 args = true) {K : DV → Store → Prop} (hk : ∀ r, Q r → pureD r = true → K r st) : FnD P f args st K := by
 have := FnD.frame (st := st) h [] List.nodup_nil (by simp) rfl (by simp) ha
 rw [renL_pure _ args ha] at this
 refine this.mono ?_
 rintro r st' ⟨r0, stc, ⟨rfl, hp, hq⟩, _, rfl, rfl⟩
 rw [renD_pure _ r0 hp]
 have hm : mergeL st [] (([] : Store).map (Box.ren (place [] st.length))) = st := by
  apply List.ext_getElem?
  intro i
  simp [mergeL]
 rw [hm]
 exact hk r0 hq hp
abbrev FnV (P : Program) (f : FuncId) (args : List DV) (r : DV) : Prop := FnP P f args fun d => d = r
theorem FnV.use {P : Program} {f : FuncId} {args : List DV} {r : DV} (h : FnV P f args r) {st : Store} (ha : closedL 0 args = true) {K : DV → Store → Prop} (hk : K r st) : FnD P f args st K :=
 FnP.use h ha fun _ e _ => by subst e; exact hk
theorem RetW.drop {Q : DV → Prop} {d : DV} {st : Store} (hp : pureD d = true) (h : Q d) : RetW 0 (fun r st => st = [] ∧ pureD r = true ∧ Q r) d st := by
 refine ⟨d, [], ?_, rfl, hp, h⟩
 have := TellsV.turn (k := 0) (st := st) (d := d) (d' := pullD [] d) (Turn.keep [] List.nodup_nil (by simp) (fun b hb => by omega) (Nat.le_refl _)) rfl
 have e : pullD [] d = d := pullD_pure [] d hp
 rw [e] at this
 exact this
where
 pullD_pure (κ : List Nat) : ∀ d : DV, closedD 0 d = true → pullD κ d = d := by
  intro d
  refine DV.rec (motive_1 := fun d => closedD 0 d = true → pullD κ d = d) (motive_2 := fun ds => closedL 0 ds = true → pullL κ ds = ds) ?_ ?_ ?_ ?_ ?_ ?_ ?_ ?_ ?_ ?_ d
  ·intro _; rfl
  ·intro _ _; rfl
  ·intro cs ih h; simp only [pullD, ih h]
  ·intro cs ih h; simp only [pullD, ih h]
  ·intro b v o h; simp [closedD] at h
  ·intro _ _; rfl
  ·intro a b c d e h; simp [closedD] at h
  ·intro f cs ih h; simp only [pullD, ih h]
  ·intro _; rfl
  ·intro d ds h1 h2 h
   simp only [closedL, Bool.and_eq_true] at h
   simp only [pullL, h1 h.1, h2 h.2]
end Go.Proofs.Ytadnpgkddgbhkaa
namespace Go.Proofs.Ytadnpgkddgbhkaa
open Go.RowKit
set_option linter.all false
abbrev Known := List (FuncId × (List DV → Option DV))
def findH : Known → FuncId → List DV → Option DV
 | [], _, _ => none
 | (g, h) :: H, f, args => if f = g then h args else findH H f args
def knowsH : Known → FuncId → Bool
 | [], _ => false
 | (g, _) :: H, f => if f = g then true else knowsH H f
def Sound (P : Program) (H : Known) : Prop := ∀ f args r, findH H f args = some r → FnV P f args r
def knownD (P : Program) (H : Known) (f : FuncId) (args : List DV) (st : Store) (K : DV → Store → Prop) : Prop :=
 match findH H f args with
 | some r => closedL 0 args = true ∧ K r st
 | none => FnD P f args st K
def callE (P : Program) (H : Known) (c : Call) (s : Slots) (st : Store) (K : DV → Store → Prop) : Prop :=
 match c.callee with
 | .value (.func f) => (hasBody P f = true ∧ knownD P H f (c.args.toList.map (ev s)) st K) ∨ ovlD P f (c.args.toList.map (ev s)) st K
 | _ => callD P c s st K
theorem callE_ok {P : Program} {H : Known} (hH : Sound P H) {c : Call} {s : Slots} {st : Store} {K : DV → Store → Prop} (h : callE P H c s st K) : callD P c s st K := by
 unfold callE at h
 split at h
 ·rename_i f hf
  unfold callD
  rw [hf]
  rcases h with ⟨hb, h⟩ | h
  rotate_left
  ·exact .inr h
  refine .inl ⟨hb, ?_⟩
  unfold knownD at h
  split at h
  ·rename_i r hr
   exact FnV.use (hH f _ r hr) h.1 h.2
  ·exact h
 ·exact h
def opE (P : Program) (H : Known) (o : Op) (s : Slots) (st : Store) (K : DV → Store → Prop) : Prop :=
 match o with
 | .call c => callE P H c s st K
 | o => opD P o s st K
theorem opE_ok {P : Program} {H : Known} (hH : Sound P H) {o : Op} {s : Slots} {st : Store} {K : DV → Store → Prop} (h : opE P H o s st K) : opD P o s st K := by
 unfold opE at h
 split at h
 ·exact callE_ok hH h
 ·exact h
def runG (P : Program) (H : Known) (N : Nat) (o : Oper) (s : Slots) (st : Store) (K : Slots → Store → Prop) : Prop := dstOk N o.dst ∧ opE P H o.op s st fun d st' => K (putS o.dst d s) st'
def skipG (N : Nat) (o : Oper) (s : Slots) (st : Store) (K : Slots → Store → Prop) : Prop := dstOk N o.dst ∧ K (putS o.dst (.d (.sc (.tuple #[]))) s) st
def stepG (P : Program) (H : Known) (N : Nat) (ops : Array Oper) (o : Oper) (s : Slots) (st : Store) (K : Slots → Store → Prop) : Prop :=
 match o.guard with
 | none => runG P H N o s st K
 | some (j, w) => match slotOf ops j with
   | none => skipG N o s st K
   | some k => match s k with
     | .d (.sc (.bool t)) => if t = w then runG P H N o (upd s k (.d (.sc (.bool w)))) st K else skipG N o (upd s k (.d (.sc (.bool (!w))))) st K
     | .d (.sc (.tuple _)) => skipG N o s st K
     | _ => False
theorem upd_self {s : Slots} {k : Nat} {d : DV} (h : s k = d) : upd s k d = s := by
 funext i
 simp only [upd_eq]
 split
 ·rename_i e; rw [e, h]
 ·rfl
def opsG (P : Program) (H : Known) (N : Nat) (ops : Array Oper) : List Oper → Slots → Store → (Slots → Store → Prop) → Prop
 | [], s, st, Q => Q s st
 | o :: rest, s, st, Q => stepG P H N ops o s st fun s' st' => opsG P H N ops rest s' st' Q
end Go.Proofs.Ytadnpgkddgbhkaa
namespace Go.Proofs.Ytadnpgkddgbhkaa
open Go.RowKit
set_option linter.all false
def turns : Op → Bool
 | .store .. => true
 | .alloc _ => true
 | .box .. => true
 | .buildSlice .. => true
 | .makeSlice .. => true
 | .call c => match c.callee with
   | .builtin .append => true
   | .builtin .copy => true
   | .builtin .clear => true
   | _ => false
 | _ => false
def turnsB (ops : Array Oper) : Bool := (List.range ops.size).all fun j => (List.range j).all fun i => match ops[i]?, ops[j]? with
 | some a, some b => !(turns a.op && turns b.op) || b.after.any fun e => Region.binds .any e && e.on == i
 | _, _ => true
theorem turnsB_spec {ops : Array Oper} (h : turnsB ops = true) {i j : Nat} {a b : Oper} (hi : ops[i]? = some a) (hj : ops[j]? = some b) (hij : i < j) (ha : turns a.op = true) (hb : turns b.op = true) : ∃ e ∈ b.after, Region.binds .any e = true ∧ e.on = i := by
 unfold turnsB at h
 rw [List.all_eq_true] at h
 have hjs : j < ops.size := by
  rcases Nat.lt_or_ge j ops.size with h' | h'
  ·exact h'
  ·rw [Array.getElem?_eq_none h'] at hj; cases hj
 have h1 := h j (by simpa using hjs)
 rw [List.all_eq_true] at h1
 have h2 := h1 i (by simpa using hij)
 rw [hi, hj] at h2
 simp only [ha, hb, Bool.and_self, Bool.not_true, Bool.false_or, Array.any_eq_true, Bool.and_eq_true, beq_iff_eq] at h2
 obtain ⟨q, hq, h3, h4⟩ := h2
 exact ⟨_, Array.getElem_mem hq, h3, h4⟩
def Stp (P : Program) (ops : Array Oper) (o : Oper) (s : Slots) (st : Store) (d : DV) (st' : Store) : Prop :=
 (wantedD ops o.guard s = some true ∧ ∀ K : DV → Store → Prop, K d st' → opD P o.op s st K) ∨ (wantedD ops o.guard s = some false ∧ d = .d (.sc undef) ∧ st' = st)
theorem Stp.put {P : Program} {ops : Array Oper} {o : Oper} {s : Slots} {st st' : Store} {d e : DV} {dst : Option Nat} (hap : ∀ t, dst = some t → t ∉ o.looksAt ops) : Stp P ops o (putS dst e s) st d st' ↔ Stp P ops o s st d st' := by
 unfold Stp
 rw [wantedD_put hap]
 have : ∀ K, opD P o.op (putS dst e s) st K = opD P o.op s st K := fun K => opD_congr fun x hx => ev_put fun t ht hxt => by
  subst hxt
  exact hap t ht (mem_looks hx)
 simp only [this]
def StepS (P : Program) (ops : Array Oper) (sts : Nat → Store) (m : Nat) (o : Oper) (s : Slots) (k : Nat) (d : DV) (k' : Nat) : Prop :=
 if turns o.op = true then Stp P ops o s (sts k) d (sts k') ∧ k' = k + 1 ∧ k < m else (∀ q, q ≤ m → Stp P ops o s (sts q) d (sts q)) ∧ k' = k
theorem StepS.put {P : Program} {ops : Array Oper} {sts : Nat → Store} {m : Nat} {o : Oper} {s : Slots} {k k' : Nat} {d e : DV} {dst : Option Nat} (hap : ∀ t, dst = some t → t ∉ o.looksAt ops) : StepS P ops sts m o (putS dst e s) k d k' ↔ StepS P ops sts m o s k d k' := by
 unfold StepS
 simp only [Stp.put hap]
def anyS (P : Program) (N : Nat) (ops : Array Oper) (sts : Nat → Store) (m : Nat) (Q : Slots → Prop) : Nat → Array Bool → Slots → Nat → Prop
 | 0, listed, s, k => Region.ready .any ops listed = [] ∧ k = m ∧ Q s
 | fuel + 1, listed, s, k => (Region.ready .any ops listed = [] → k = m ∧ Q s) ∧
    ∀ i ∈ Region.ready .any ops listed, ∀ o, ops[i]? = some o → ∃ d k', StepS P ops sts m o s k d k' ∧ dstOk N o.dst ∧ anyS P N ops sts m Q fuel (listed.setIfInBounds i true) (putS o.dst d s) k'
theorem anyD_of_S {P : Program} {N : Nat} {ops : Array Oper} {sts : Nat → Store} {m : Nat} {Q : Slots → Store → Prop} : ∀ (fuel : Nat) (listed : Array Bool) (s : Slots) (k : Nat), k ≤ m → anyS P N ops sts m (fun s => Q s (sts m)) fuel listed s k → anyD P N ops Q fuel listed s (sts k)
 | 0, _, _, k, _, ⟨h1, h2, h3⟩ => ⟨h1, by subst h2; exact h3⟩
 | fuel + 1, listed, s, k, hm, h => by
    refine ⟨fun h0 => by obtain ⟨h2, h3⟩ := h.1 h0; subst h2; exact h3, fun i hi => ?_⟩
    obtain ⟨o, ho⟩ := ready_some hi
    obtain ⟨d, k', hs, hd, hK⟩ := h.2 i hi o ho
    rw [ho]
    have key : k' ≤ m ∧ Stp P ops o s (sts k) d (sts k') := by
     unfold StepS at hs
     split at hs
     ·exact ⟨by omega, hs.1⟩
     ·obtain ⟨h1, rfl⟩ := hs
      exact ⟨hm, h1 _ hm⟩
    have ih := anyD_of_S fuel _ _ k' key.1 hK
    rcases key.2 with ⟨hw, hy⟩ | ⟨hw, rfl, hst⟩
    ·simp only [stepD, hw]
     exact ⟨hd, hy _ ih⟩
    ·simp only [stepD, hw]
     rw [hst] at ih
     exact ⟨hd, ih⟩
theorem anyS_first {P : Program} {N : Nat} {ops : Array Oper} {sts : Nat → Store} {m : Nat} {Q : Slots → Prop} (hT : turnsB ops = true) {i : Nat} {oi : Oper} {d : DV} (hi : ops[i]? = some oi) : ∀ (fuel : Nat) (listed : Array Bool) (s : Slots) (k k' : Nat),
  (∀ j oj, ops[j]? = some oj → j ≠ i → listed.getD j true = false → (∀ e ∈ oj.after, Region.binds .any e = true → e.on ≠ i) → oi.apart ops oj = true) →
  i ∈ Region.ready .any ops listed → StepS P ops sts m oi s k d k' → dstOk N oi.dst → anyS P N ops sts m Q fuel (listed.setIfInBounds i true) (putS oi.dst d s) k' → anyS P N ops sts m Q (fuel + 1) listed s k := by
 intro fuel
 induction fuel with
 | zero =>
   intro listed s k k' _ hr hy hd H
   refine ⟨fun h => (by rw [h] at hr; cases hr), fun j hj oj hoj => ?_⟩
   by_cases hji : j = i
   ·subst hji
    rw [hi] at hoj; cases hoj
    exact ⟨d, k', hy, hd, H⟩
   ·have := ready_mono hj hji
    rw [H.1] at this
    cases this
 | succ fuel ih =>
   intro listed s k k' hfree hr hy hd H
   refine ⟨fun h => (by rw [h] at hr; cases hr), fun j hj oj hoj => ?_⟩
   by_cases hji : j = i
   ·subst hji
    rw [hi] at hoj; cases hoj
    exact ⟨d, k', hy, hd, H⟩
   ·obtain ⟨dj, kj, hyj, hdj, hK⟩ := H.2 j (ready_mono hj hji) oj hoj
    obtain ⟨hjun, oj', hoj', hall⟩ := mem_ready.1 hj
    rw [hoj] at hoj'; cases hoj'
    obtain ⟨hiun, oi', hoi', halli⟩ := mem_ready.1 hr
    rw [hi] at hoi'; cases hoi'
    have unl : ∀ q, listed.getD q true = false → listed.getD q false = true → False := fun q h0 h1 => by
     rcases Nat.lt_or_ge q listed.size with h' | h'
     ·simp [h'] at h0 h1; rw [h0] at h1; cases h1
     ·simp [Array.getElem?_eq_none h'] at h1
    have hnot : ∀ e ∈ oj.after, Region.binds .any e = true → e.on ≠ i := fun e he hb heq => by
     have h1 := hall e he hb
     rw [heq] at h1
     exact unl i hiun h1
    have hnoti : ∀ e ∈ oi.after, Region.binds .any e = true → e.on ≠ j := fun e he hb heq => by
     have h1 := halli e he hb
     rw [heq] at h1
     exact unl j hjun h1
    have hboth : turns oi.op = true → turns oj.op = true → False := fun h1 h2 => by
     rcases Nat.lt_or_gt_of_ne hji with h | h
     ·obtain ⟨e, e1, e2, e3⟩ := turnsB_spec hT hoj hi h h2 h1
      exact hnoti e e1 e2 e3
     ·obtain ⟨e, e1, e2, e3⟩ := turnsB_spec hT hi hoj h h1 h2
      exact hnot e e1 e2 e3
    obtain ⟨a1, a2, a3⟩ := Oper.apart_spec (hfree j oj hoj hji hjun hnot)
    have hfree' : ∀ k ok, ops[k]? = some ok → k ≠ i → (listed.setIfInBounds j true).getD k true = false →
      (∀ e ∈ ok.after, Region.binds .any e = true → e.on ≠ i) → oi.apart ops ok = true := fun k ok hk hki hun hno => by
     refine hfree k ok hk hki ?_ hno
     by_cases hjk : j = k
     ·subst hjk; exact hjun
     ·rw [getD_set_ne true hjk] at hun; exact hun
    have hyj' := (StepS.put a1).1 hyj
    have swap : ∃ k1, StepS P ops sts m oj s k dj k1 ∧ StepS P ops sts m oi s k1 d kj := by
     unfold StepS at hy hyj' ⊢
     by_cases h1 : turns oi.op = true
     ·by_cases h2 : turns oj.op = true
      ·exact (hboth h1 h2).elim
      ·rw [if_pos h1] at hy
       rw [if_neg h2] at hyj'
       obtain ⟨q1, rfl⟩ := hyj'
       refine ⟨k, ?_, ?_⟩
       ·rw [if_neg h2]; exact ⟨q1, rfl⟩
       ·rw [if_pos h1]; exact hy
     ·rw [if_neg h1] at hy
      obtain ⟨q1, rfl⟩ := hy
      refine ⟨kj, hyj', ?_⟩
      rw [if_neg h1]
      exact ⟨q1, rfl⟩
    obtain ⟨k1, w1, w2⟩ := swap
    refine ⟨dj, k1, w1, hdj, ih (listed.setIfInBounds j true) _ k1 kj hfree' (ready_mono hr (Ne.symm hji)) ((StepS.put a3).2 w2) hd ?_⟩
    rw [Array.setIfInBounds_comm _ _ hji, ← putS_comm a2]
    exact hK
def lexS (P : Program) (N : Nat) (ops : Array Oper) (sts : Nat → Store) (m : Nat) (Q : Slots → Prop) : List Oper → Slots → Nat → Prop
 | [], s, k => k = m ∧ Q s
 | o :: rest, s, k => ∃ d k', StepS P ops sts m o s k d k' ∧ dstOk N o.dst ∧ lexS P N ops sts m Q rest (putS o.dst d s) k'
theorem anyS_lex {P : Program} {N : Nat} {ops : Array Oper} {sts : Nat → Store} {m : Nat} {Q : Slots → Prop} (hT : turnsB ops = true) : ∀ (l : List Oper) (k : Nat) (listed : Array Bool) (s : Slots) (n : Nat), (∀ j, l[j]? = ops[k + j]?) →
  Region.lexFrom .any ops l.length k listed = true → lexS P N ops sts m Q l s n → anyS P N ops sts m Q l.length listed s n
 | [], _, _, _, _, _, hB, h => ⟨by simpa [Region.lexFrom] using hB, h⟩
 | o :: l, k, listed, s, n, hl, hB, h => by
   have h0 : ops[k]? = some o := by simpa using (hl 0).symm
   simp only [List.length_cons, Region.lexFrom, Bool.and_eq_true] at hB
   obtain ⟨⟨hr, hf⟩, hB'⟩ := hB
   obtain ⟨d, k', hy, hd, hK⟩ := h
   exact anyS_first hT h0 l.length listed s n k' (Region.free_spec h0 hf) (by simpa using hr) hy hd
    (anyS_lex hT l (k + 1) _ _ k' (fun j => by have := hl (j + 1); simpa [Nat.add_assoc, Nat.add_comm 1 j] using this) hB' hK)
theorem wpD_S {P : Program} {N : Nat} {Q : Exit → Slots → Store → Prop} {s : Slots} {id : Nat} {l : List Oper} (sts : Nat → Store) (m : Nat) (hm : P.follows .mixedOrders = true) (hB : Region.lexB .any l.toArray = true) (hT : turnsB l.toArray = true)
  (h : lexS P N l.toArray sts m (fun s' => Q .normal s' (sts m)) l s 0) : wpD P N (.region id l.toArray true) Q s (sts 0) := by
 refine wpD_any hm (anyD_of_S (sts := sts) (m := m) _ _ _ 0 (Nat.zero_le m) ?_)
 simp only [Region.lexB, Bool.and_eq_true] at hB
 exact anyS_lex hT l 0 (Array.replicate l.length false) s 0 (by simp) (by simpa using hB.2) h
end Go.Proofs.Ytadnpgkddgbhkaa
namespace Go.Proofs.Ytadnpgkddgbhkaa
open Go.RowKit
set_option linter.all false
def yieldE (A X : DV → Prop) : Prop := ∃ d, A d ∧ X d
theorem yieldE_eq (v : DV) (X : DV → Prop) : yieldE (fun d => d = v) X ↔ X v := ⟨fun ⟨_, e, h⟩ => e ▸ h, fun h => ⟨v, rfl, h⟩⟩
theorem yieldE_and (c : Prop) (A X : DV → Prop) : yieldE (fun d => c ∧ A d) X ↔ c ∧ yieldE A X := ⟨fun ⟨d, ⟨h1, h2⟩, h3⟩ => ⟨h1, d, h2, h3⟩, fun ⟨h1, d, h2, h3⟩ => ⟨d, ⟨h1, h2⟩, h3⟩⟩
theorem pureK (d v : DV) (st w : Store) : (∀ K : DV → Store → Prop, K d st → K v w) ↔ d = v ∧ st = w :=
 ⟨fun h => h (fun x y => d = x ∧ st = y) ⟨rfl, rfl⟩, fun ⟨e, g⟩ _ h => e ▸ g ▸ h⟩
theorem pureKc (d : DV) (st : Store) (c : Prop) (X : (DV → Store → Prop) → Prop) : (∀ K : DV → Store → Prop, K d st → c ∧ X K) ↔ c ∧ ∀ K : DV → Store → Prop, K d st → X K :=
 ⟨fun h => ⟨(h (fun _ _ => True) trivial).1, fun K hK => (h K hK).2⟩, fun h _ hK => ⟨h.1, h.2 _ hK⟩⟩
theorem updW_is : ∃ f : (Nat → Bool) → Nat → Bool → Nat → Bool, ∀ s k v i, f s k v i = if i = k then v else s i := ⟨fun s k v i => if i = k then v else s i, fun _ _ _ _ => rfl⟩
noncomputable def updW : (Nat → Bool) → Nat → Bool → Nat → Bool := Classical.choose updW_is
theorem updW_eq (s : Nat → Bool) (k : Nat) (v : Bool) (i : Nat) : updW s k v i = if i = k then v else s i := Classical.choose_spec updW_is s k v i
noncomputable def putW (dst : Option Nat) (b : Bool) (wt : Nat → Bool) : Nat → Bool := match dst with
 | none => wt
 | some i => updW wt i b
def specOk (H : Known) : Op → Bool
 | .move _ => true
 | .assign _ => true
 | .pick .. => true
 | .load .. => true
 | .unOp .. => true
 | .convert .. => true
 | .field .. => true
 | .fieldAddr .. => true
 | .extract .. => true
 | .binOp op .. => match op with
   | .quo => false
   | .rem => false
   | .shl => false
   | .shr => false
   | _ => true
 | .call c => match c.callee with
   | .builtin .len => true
   | .value (.func f) => knowsH H f
   | _ => false
 | _ => false
def opnd (W : Bool) (wt : Nat → Bool) : Operand → Prop
 | .tmp t => W = true → wt t = true
 | _ => True
def wtOk (W : Bool) (wt : Nat → Bool) : List Operand → Prop
 | [] => True
 | x :: l => opnd W wt x ∧ wtOk W wt l
def readsOk (W : Bool) (wt : Nat → Bool) (sp : Slots) (o : Op) : Prop :=
 match o with
 | .pick c a b => opnd W wt c ∧ (match ev sp c with
   | .d (.sc (.bool t)) => opnd (W && t) wt a ∧ opnd (W && !t) wt b
   | _ => False)
 | o => wtOk W wt o.operands.toList
def Spec (s sp : Slots) (wt : Nat → Bool) : Prop := ∀ k, s k = if wt k = true then sp k else .d (.sc undef)
theorem opnd_ev {s sp : Slots} {wt : Nat → Bool} (hI : Spec s sp wt) {W : Bool} {x : Operand} (h : opnd W wt x) (hW : W = true) : ev s x = ev sp x := by
 cases x with
 | tmp t =>
   have := hI t
   rw [if_pos (h hW)] at this
   exact this
 | const v => rfl
 | global g => rfl
 | func f => rfl
theorem wtOk_ev {s sp : Slots} {wt : Nat → Bool} (hI : Spec s sp wt) {W : Bool} (hW : W = true) : ∀ {l : List Operand}, wtOk W wt l → ∀ x ∈ l, ev s x = ev sp x
 | [], _, _, hx => by cases hx
 | y :: l, h, x, hx => by
     rcases List.mem_cons.1 hx with rfl | hx
     ·exact opnd_ev hI h.1 hW
     ·exact wtOk_ev hI hW h.2 x hx
theorem pickD_turn {t : Bool} {a b a' b' : DV} {K : DV → Prop} (ha : t = true → a' = a) (hb : t = false → b' = b) (h : pickD (.d (.sc (.bool t))) a b K) : pickD (.d (.sc (.bool t))) a' b' K := by
 have two : (t = true → K a) ∧ (t = false → K b) := by
  unfold pickD at h
  simp only at h
  split at h
  ·cases t
   ·exact ⟨fun e => (by cases e), fun _ => h⟩
   ·exact ⟨fun _ => h, fun e => (by cases e)⟩
  ·exact h
 have two' : (t = true → K a') ∧ (t = false → K b') := ⟨fun e => by rw [ha e]; exact two.1 e, fun e => by rw [hb e]; exact two.2 e⟩
 unfold pickD
 simp only
 split
 ·cases t
  ·exact two'.2 rfl
  ·exact two'.1 rfl
 ·exact two'
theorem readsOk_D {P : Program} {s sp : Slots} {wt : Nat → Bool} (hI : Spec s sp wt) {W : Bool} (hW : W = true) {o : Op} (h : readsOk W wt sp o) {st : Store} {K : DV → Store → Prop} (ho : opD P o sp st K) : opD P o s st K := by
 unfold readsOk at h
 split at h
 ·rename_i c a b
  obtain ⟨h1, h2⟩ := h
  split at h2
  ·rename_i t ht
   simp only [opD] at ho ⊢
   rw [opnd_ev hI h1 hW, ht]
   rw [ht] at ho
   exact pickD_turn (fun e => opnd_ev hI h2.1 (by simp [hW, e])) (fun e => opnd_ev hI h2.2 (by simp [hW, e])) ho
  ·exact h2.elim
 ·rw [opD_congr (s' := sp)]
  ·exact ho
  ·intro x hx
   exact wtOk_ev hI hW h x (by simpa using hx)
theorem Spec.put {s sp : Slots} {wt : Nat → Bool} (h : Spec s sp wt) (dst : Option Nat) (d : DV) (W : Bool) : Spec (putS dst (if W = true then d else .d (.sc undef)) s) (putS dst d sp) (putW dst W wt) := by
 cases dst with
 | none => exact h
 | some i =>
   intro k
   simp only [putS, putW, upd_eq, updW_eq]
   by_cases hk : k = i
   ·simp [hk]
   ·simp only [hk, ↓reduceIte]
    exact h k
def specG (P : Program) (H : Known) (N : Nat) (ops : Array Oper) : List Oper → Slots → Slots → (Nat → Bool) → Store → (Slots → Store → Prop) → Prop
 | [], s, _, _, st, Q => Q s st
 | o :: rest, s, sp, wt, st, Q => dstOk N o.dst ∧ match o.guard with
   | none => readsOk true wt sp o.op ∧ opE P H o.op sp st fun d st' => specG P H N ops rest (putS o.dst d s) (putS o.dst d sp) (putW o.dst true wt) st' Q
   | some (j, w) => match slotOf ops j with
     | none => False
     | some k => match sp k with
       | .d (.sc (.bool t)) => readsOk (wt k && (t == w)) wt sp o.op ∧ yieldE (fun d => ∀ K : DV → Store → Prop, K d st → opE P H o.op sp st K)
          fun d => specG P H N ops rest (putS o.dst (if (wt k && (t == w)) = true then d else .d (.sc (.tuple #[]))) s) (putS o.dst d sp) (putW o.dst (wt k && (t == w)) wt) st Q
       | _ => False
def useSpec (H : Known) (ops : Array Oper) : Bool := (ops.toList.any fun o => o.guard.isSome) && ops.toList.all fun o => o.guard.isNone || specOk H o.op
end Go.Proofs.Ytadnpgkddgbhkaa
namespace Go.Proofs.Ytadnpgkddgbhkaa
open Go.RowKit
set_option linter.all false
def turnE (A X : DV → Store → Prop) : Prop := ∃ d st, A d st ∧ X d st
theorem turnE_eq (v : DV) (w : Store) (X : DV → Store → Prop) : turnE (fun d st => d = v ∧ st = w) X ↔ X v w := ⟨fun ⟨_, _, ⟨e, g⟩, h⟩ => e ▸ g ▸ h, fun h => ⟨v, w, ⟨rfl, rfl⟩, h⟩⟩
theorem turnE_and (c : Prop) (A X : DV → Store → Prop) : turnE (fun d st => c ∧ A d st) X ↔ c ∧ turnE A X := ⟨fun ⟨d, st, ⟨h1, h2⟩, h3⟩ => ⟨h1, d, st, h2, h3⟩, fun ⟨h1, d, st, h2, h3⟩ => ⟨d, st, ⟨h1, h2⟩, h3⟩⟩
def staysE (P : Program) (H : Known) (st : Store) : List (Op × Slots × DV) → Prop
 | [] => True
 | (o, s, d) :: l => (∀ K : DV → Store → Prop, K d st → opE P H o s st K) ∧ staysE P H st l
def stoodE (P : Program) (H : Known) (o : Op) (s : Slots) (d : DV) : List Store → Prop
 | [] => True
 | st :: l => (∀ K : DV → Store → Prop, K d st → opE P H o s st K) ∧ stoodE P H o s d l
abbrev After := DV → Store → List Store → List (Op × Slots × DV) → Prop
def mixRun (P : Program) (H : Known) (o : Op) (s : Slots) (st : Store) (olds : List Store) (done : List (Op × Slots × DV)) (X : After) : Prop :=
 if turns o = true then turnE (fun d st1 => ∀ K : DV → Store → Prop, K d st1 → opE P H o s st K) fun d st1 => staysE P H st1 done ∧ X d st1 (st :: olds) done
 else yieldE (fun d => ∀ K : DV → Store → Prop, K d st → opE P H o s st K) fun d => stoodE P H o s d olds ∧ X d st olds ((o, s, d) :: done)
def mixSkip (P : Program) (H : Known) (o : Op) (st : Store) (olds : List Store) (done : List (Op × Slots × DV)) (X : After) : Prop :=
 if turns o = true then staysE P H st done ∧ X (.d (.sc (.tuple #[]))) st (st :: olds) done else X (.d (.sc (.tuple #[]))) st olds done
def mixG (P : Program) (H : Known) (N : Nat) (ops : Array Oper) (Q : Slots → Store → Prop) : List Oper → Slots → Store → List Store → List (Op × Slots × DV) → Prop
 | [], s, st, _, _ => Q s st
 | o :: rest, s, st, olds, done => dstOk N o.dst ∧ match o.guard with
   | none => mixRun P H o.op s st olds done fun d st1 olds1 done1 => mixG P H N ops Q rest (putS o.dst d s) st1 olds1 done1
   | some (j, w) => match slotOf ops j with
     | none => mixSkip P H o.op st olds done fun d st1 olds1 done1 => mixG P H N ops Q rest (putS o.dst d s) st1 olds1 done1
     | some k => match s k with
       | .d (.sc (.bool t)) => if t = w then mixRun P H o.op (upd s k (.d (.sc (.bool w)))) st olds done fun d st1 olds1 done1 => mixG P H N ops Q rest (putS o.dst d (upd s k (.d (.sc (.bool w))))) st1 olds1 done1
          else mixSkip P H o.op st olds done fun d st1 olds1 done1 => mixG P H N ops Q rest (putS o.dst d (upd s k (.d (.sc (.bool (!w)))))) st1 olds1 done1
       | .d (.sc (.tuple _)) => mixSkip P H o.op st olds done fun d st1 olds1 done1 => mixG P H N ops Q rest (putS o.dst d s) st1 olds1 done1
       | _ => False
def rowSt (olds : List Store) (st : Store) (later : List Store) (q : Nat) : Store := (olds.reverse ++ st :: later).getD q []
theorem rowSt_at (olds : List Store) (st : Store) (later : List Store) : rowSt olds st later olds.length = st := by simp [rowSt]
theorem rowSt_next (olds : List Store) (st st1 : Store) (later : List Store) : rowSt olds st (st1 :: later) = rowSt (st :: olds) st1 later := by
 funext q
 simp [rowSt]
theorem rowSt_mem (olds : List Store) (st : Store) (later : List Store) (q : Nat) (hq : q ≤ olds.length + later.length) : rowSt olds st later q ∈ olds ∨ rowSt olds st later q = st ∨ rowSt olds st later q ∈ later := by
 have hlt : q < (olds.reverse ++ st :: later).length := by simp; omega
 have : rowSt olds st later q ∈ olds.reverse ++ st :: later := by
  unfold rowSt
  rw [List.getD_eq_getElem?_getD, List.getElem?_eq_getElem hlt]
  exact List.getElem_mem hlt
 simpa using this
theorem staysE_mem {P : Program} {H : Known} (hH : Sound P H) {st : Store} : ∀ {l : List (Op × Slots × DV)}, staysE P H st l → ∀ p ∈ l, ∀ K : DV → Store → Prop, K p.2.2 st → opD P p.1 p.2.1 st K
 | [], _, p, hp, _, _ => by cases hp
 | q :: l, h, p, hp, K, hK => by
     rcases List.mem_cons.1 hp with rfl | hp
     ·exact opE_ok hH (h.1 K hK)
     ·exact staysE_mem hH h.2 p hp K hK
theorem stoodE_mem {P : Program} {H : Known} (hH : Sound P H) {o : Op} {s : Slots} {d : DV} : ∀ {l : List Store}, stoodE P H o s d l → ∀ st ∈ l, ∀ K : DV → Store → Prop, K d st → opD P o s st K
 | [], _, p, hp, _, _ => by cases hp
 | q :: l, h, p, hp, K, hK => by
     rcases List.mem_cons.1 hp with rfl | hp
     ·exact opE_ok hH (h.1 K hK)
     ·exact stoodE_mem hH h.2 p hp K hK
section mix
variable {P : Program} {H : Known} (hH : Sound P H) {N : Nat} {ops : Array Oper} {Q : Slots → Store → Prop}
def MixOk (P : Program) (N : Nat) (ops : Array Oper) (Q : Slots → Store → Prop) (l : List Oper) (s : Slots) (st : Store) (olds : List Store) (done : List (Op × Slots × DV)) : Prop :=
 ∃ later : List Store, lexS P N ops (rowSt olds st later) (olds.length + later.length) (fun s' => Q s' (rowSt olds st later (olds.length + later.length))) l s olds.length ∧ ∀ p ∈ done, ∀ st' ∈ later, ∀ K : DV → Store → Prop, K p.2.2 st' → opD P p.1 p.2.1 st' K
include hH
theorem mixRun_ok {o : Oper} {rest : List Oper} {s : Slots} {st : Store} {olds : List Store} {done : List (Op × Slots × DV)} (hd : dstOk N o.dst) (hw : wantedD ops o.guard s = some true) {X : After}
  (h : mixRun P H o.op s st olds done X) (ih : ∀ d st1 olds1 done1, X d st1 olds1 done1 → MixOk P N ops Q rest (putS o.dst d s) st1 olds1 done1) : MixOk P N ops Q (o :: rest) s st olds done := by
 unfold mixRun at h
 split at h
 ·rename_i ht
  obtain ⟨d, st1, h1, h2, h3⟩ := h
  obtain ⟨later, g1, g2⟩ := ih _ _ _ _ h3
  have hl : olds.length + (st1 :: later).length = (st :: olds).length + later.length := by simp; omega
  refine ⟨st1 :: later, ⟨d, olds.length + 1, ?_, hd, ?_⟩, ?_⟩
  ·unfold StepS
   rw [if_pos ht]
   refine ⟨?_, rfl, by simp⟩
   rw [rowSt_at, rowSt_next, show olds.length + 1 = (st :: olds).length from rfl, rowSt_at]
   exact .inl ⟨hw, fun K hK => opE_ok hH (h1 K hK)⟩
  ·rw [rowSt_next, hl]
   exact g1
  ·intro p hp st' hst'
   rcases List.mem_cons.1 hst' with rfl | hst'
   ·exact staysE_mem hH h2 p hp
   ·exact g2 p hp st' hst'
 ·rename_i ht
  obtain ⟨d, h1, h2, h3⟩ := h
  obtain ⟨later, g1, g2⟩ := ih _ _ _ _ h3
  refine ⟨later, ⟨d, olds.length, ?_, hd, g1⟩, fun p hp => g2 p (List.mem_cons_of_mem _ hp)⟩
  unfold StepS
  rw [if_neg ht]
  refine ⟨fun q hq => .inl ⟨hw, ?_⟩, rfl⟩
  rcases rowSt_mem olds st later q hq with e | e | e
  ·exact stoodE_mem hH h2 _ e
  ·rw [e]; exact fun K hK => opE_ok hH (h1 K hK)
  ·exact g2 (o.op, s, d) (List.mem_cons_self ..) _ e
theorem mixSkip_ok {o : Oper} {rest : List Oper} {s : Slots} {st : Store} {olds : List Store} {done : List (Op × Slots × DV)} (hd : dstOk N o.dst) (hw : wantedD ops o.guard s = some false) {X : After}
  (h : mixSkip P H o.op st olds done X) (ih : ∀ d st1 olds1 done1, X d st1 olds1 done1 → MixOk P N ops Q rest (putS o.dst d s) st1 olds1 done1) : MixOk P N ops Q (o :: rest) s st olds done := by
 unfold mixSkip at h
 split at h
 ·rename_i ht
  obtain ⟨h2, h3⟩ := h
  obtain ⟨later, g1, g2⟩ := ih _ _ _ _ h3
  have hl : olds.length + (st :: later).length = (st :: olds).length + later.length := by simp; omega
  refine ⟨st :: later, ⟨.d (.sc (.tuple #[])), olds.length + 1, ?_, hd, ?_⟩, ?_⟩
  ·unfold StepS
   rw [if_pos ht]
   refine ⟨.inr ⟨hw, rfl, ?_⟩, rfl, by simp⟩
   rw [rowSt_at, rowSt_next, show olds.length + 1 = (st :: olds).length from rfl, rowSt_at]
  ·rw [rowSt_next, hl]
   exact g1
  ·intro p hp st' hst'
   rcases List.mem_cons.1 hst' with rfl | hst'
   ·exact staysE_mem hH h2 p hp
   ·exact g2 p hp st' hst'
 ·rename_i ht
  obtain ⟨later, g1, g2⟩ := ih _ _ _ _ h
  refine ⟨later, ⟨.d (.sc (.tuple #[])), olds.length, ?_, hd, g1⟩, g2⟩
  unfold StepS
  rw [if_neg ht]
  exact ⟨fun q hq => .inr ⟨hw, rfl, rfl⟩, rfl⟩
theorem mixG_ok : ∀ (l : List Oper) (s : Slots) (st : Store) (olds : List Store) (done : List (Op × Slots × DV)), mixG P H N ops Q l s st olds done → MixOk P N ops Q l s st olds done
 | [], s, st, olds, done, h => ⟨[], ⟨rfl, by rw [show olds.length + ([] : List Store).length = olds.length from rfl, rowSt_at]; exact h⟩, fun _ _ _ h => by cases h⟩
 | o :: rest, s, st, olds, done, h => by
     obtain ⟨hd, h⟩ := h
     split at h
     ·rename_i hg
      exact mixRun_ok hH hd (by rw [hg]; rfl) h fun _ _ _ _ => mixG_ok rest _ _ _ _
     ·rename_i j w hg
      split at h
      ·rename_i hk
       exact mixSkip_ok hH hd (by rw [hg]; simp only [wantedD, hk]) h fun _ _ _ _ => mixG_ok rest _ _ _ _
      ·rename_i k hk
       split at h
       ·rename_i t ht
        by_cases hw : t = w
        ·subst hw
         rw [if_pos rfl, upd_self ht] at h
         exact mixRun_ok hH hd (by rw [hg]; simp only [wantedD, hk, ht, BEq.rfl]) h fun _ _ _ _ => mixG_ok rest _ _ _ _
        ·have hw' : t = !w := by cases t <;> cases w <;> first | rfl | exact absurd rfl hw
         rw [if_neg hw, ← hw', upd_self ht] at h
         exact mixSkip_ok hH hd (by rw [hg]; simp only [wantedD, hk, ht]; simpa using hw) h fun _ _ _ _ => mixG_ok rest _ _ _ _
       ·rename_i vs ht
        exact mixSkip_ok hH hd (by rw [hg]; simp only [wantedD, hk, ht]) h fun _ _ _ _ => mixG_ok rest _ _ _ _
       ·exact h.elim
end mix
theorem wpD_mix {P : Program} {H : Known} (hH : Sound P H) {N : Nat} {Q : Exit → Slots → Store → Prop} {s : Slots} {st : Store} {id : Nat} {l : List Oper} (hm : P.follows .mixedOrders = true) (hB : Region.lexB .any l.toArray = true) (hT : turnsB l.toArray = true)
  (h : mixG P H N l.toArray (fun s' st' => Q .normal s' st') l s st [] []) : wpD P N (.region id l.toArray true) Q s st := by
 obtain ⟨later, h1, _⟩ := mixG_ok hH l s st [] [] h
 have := wpD_S (id := id) (Q := Q) (rowSt [] st later) (0 + later.length) hm hB hT h1
 exact this
def wpE (P : Program) (H : Known) (N : Nat) : Code → (Exit → Slots → Store → Prop) → Slots → Store → Prop
 | .skip, Q, s, st => Q .normal s st
 | .exit id, Q, s, st => Q (.exit id) s st
 | .ret, Q, s, st => Q .ret s st
 | .seq x y, Q, s, st => wpE P H N x (thenD (wpE P H N y Q) Q) s st
 | .block id c, Q, s, st => wpE P H N c (blockD id Q) s st
 | .cond c x y, Q, s, st => match ev s c with
   | .d (.sc (.bool t)) => if t = true then wpE P H N x Q s st else wpE P H N y Q s st
   | _ => False
 | .region _ ops false, Q, s, st => if useSpec H ops = true then specG P H N ops ops.toList s s (fun _ => true) st fun s' st' => Q .normal s' st' else opsG P H N ops ops.toList s st fun s' st' => Q .normal s' st'
 | .region _ ops true, Q, s, st => P.follows .mixedOrders = true ∧ Region.lexB .any ops = true ∧ turnsB ops = true ∧ mixG P H N ops (fun s' st' => Q .normal s' st') ops.toList s st [] []
 | c, Q, s, st => wpD P N c Q s st
attribute [go_sem] upd_eq updW_eq specG putW specOk opnd wtOk readsOk useSpec Op.operands Call.operands
@[go_sem] theorem initS_nil (i : Nat) : initS [] i = .d (.sc undef) := by simp [initS]
@[go_sem] theorem initS_zero (d : DV) (ds : List DV) : initS (d :: ds) 0 = d := by simp [initS]
@[go_sem] theorem initS_succ (d : DV) (ds : List DV) (i : Nat) : initS (d :: ds) (i + 1) = initS ds i := by simp [initS]
/- In the evaluation nothing is done under a continuation before it is reached. -/
section
variable {P : Program} {H : Known} {N : Nat} {st st' : Store} {K : DV → Prop} {KS : DV → Store → Prop} {KT : Slots → Store → Prop} {Q : Exit → Slots → Store → Prop} {s s' : Slots} {a a' b b' c c' : DV}
@[congr] theorem FnD_cong {f : FuncId} {l l' : List DV} (h : l = l') (g : st = st') : FnD P f l st KS = FnD P f l' st' KS := by rw [h, g]
@[congr] theorem knownD_cong {f : FuncId} {l l' : List DV} (h : l = l') (g : st = st') : knownD P H f l st KS = knownD P H f l' st' KS := by rw [h, g]
@[congr] theorem wpD_cong {x : Code} (h : s = s') (g : st = st') : wpD P N x Q s st = wpD P N x Q s' st' := by rw [h, g]
@[congr] theorem wpE_cong {x : Code} (h : s = s') (g : st = st') : wpE P H N x Q s st = wpE P H N x Q s' st' := by rw [h, g]
@[congr] theorem opsG_cong {ops : Array Oper} {l : List Oper} (h : s = s') (g : st = st') : opsG P H N ops l s st KT = opsG P H N ops l s' st' KT := by rw [h, g]
@[congr] theorem stepG_cong {ops : Array Oper} {o : Oper} (h : s = s') (g : st = st') : stepG P H N ops o s st KT = stepG P H N ops o s' st' KT := by rw [h, g]
@[congr] theorem runG_cong {o : Oper} (h : s = s') (g : st = st') : runG P H N o s st KT = runG P H N o s' st' KT := by rw [h, g]
@[congr] theorem skipG_cong {o : Oper} (h : s = s') (g : st = st') : skipG N o s st KT = skipG N o s' st' KT := by rw [h, g]
@[congr] theorem mixG_cong {ops : Array Oper} {l : List Oper} {olds olds' : List Store} {done done' : List (Op × Slots × DV)} (h : s = s') (g : st = st') (i : olds = olds') (j : done = done') : mixG P H N ops KT l s st olds done = mixG P H N ops KT l s' st' olds' done' := by rw [h, g, i, j]
@[congr] theorem mixRun_cong {o : Op} {X : After} {olds olds' : List Store} {done done' : List (Op × Slots × DV)} (h : s = s') (g : st = st') (i : olds = olds') (j : done = done') : mixRun P H o s st olds done X = mixRun P H o s' st' olds' done' X := by rw [h, g, i, j]
@[congr] theorem mixSkip_cong {o : Op} {X : After} {olds olds' : List Store} {done done' : List (Op × Slots × DV)} (g : st = st') (i : olds = olds') (j : done = done') : mixSkip P H o st olds done X = mixSkip P H o st' olds' done' X := by rw [g, i, j]
@[congr] theorem turnE_cong {A A' X : DV → Store → Prop} (h : A = A') : turnE A X = turnE A' X := by rw [h]
@[congr] theorem lexB_cong {md : Region.Mode} {ops : Array Oper} : Region.lexB md ops = Region.lexB md ops := rfl
@[congr] theorem turnsB_cong {ops : Array Oper} : turnsB ops = turnsB ops := rfl
@[congr] theorem specG_cong {ops : Array Oper} {l : List Oper} {sp sp' : Slots} {wt wt' : Nat → Bool} (h : s = s') (i : sp = sp') (j : wt = wt') (g : st = st') : specG P H N ops l s sp wt st KT = specG P H N ops l s' sp' wt' st' KT := by rw [h, g, i, j]
@[congr] theorem yieldE_cong {A A' X : DV → Prop} (h : A = A') : yieldE A X = yieldE A' X := by rw [h]
@[congr] theorem opE_cong {o : Op} (h : s = s') (g : st = st') : opE P H o s st KS = opE P H o s' st' KS := by rw [h, g]
@[congr] theorem opD_cong {o : Op} (h : s = s') (g : st = st') : opD P o s st KS = opD P o s' st' KS := by rw [h, g]
@[congr] theorem callE_cong {o : Call} (h : s = s') (g : st = st') : callE P H o s st KS = callE P H o s' st' KS := by rw [h, g]
@[congr] theorem callD_cong {o : Call} (h : s = s') (g : st = st') : callD P o s st KS = callD P o s' st' KS := by rw [h, g]
@[congr] theorem thenD_cong {X : Slots → Store → Prop} {e e' : Exit} (i : e = e') (h : s = s') (g : st = st') : thenD X Q e s st = thenD X Q e' s' st' := by rw [i, h, g]
@[congr] theorem blockD_cong {id : Nat} {e e' : Exit} (i : e = e') (h : s = s') (g : st = st') : blockD id Q e s st = blockD id Q e' s' st' := by rw [i, h, g]
@[congr] theorem retQ_cong {rs rs' : List ResultVar} {k k' : Nat} {R : DV → Store → Prop} {e e' : Exit} (j : rs = rs') (i : e = e') (m : k = k') (h : s = s') (g : st = st') : retQ P rs k R e s st = retQ P rs' k' R e' s' st' := by rw [j, i, m, h, g]
@[congr] theorem resD_cong {rs : List ResultVar} {X : List DV → Prop} (h : s = s') (g : st = st') : resD P s st rs X = resD P s' st' rs X := by rw [h, g]
@[congr] theorem RetW_cong {k : Nat} {R : DV → Store → Prop} (h : a = a') (g : st = st') : RetW k R a st = RetW k R a' st' := by rw [h, g]
@[congr] theorem loadD_cong {t : TypeId} (g : st = st') (h : a = a') : loadD P st t a K = loadD P st' t a' K := by rw [h, g]
@[congr] theorem fieldAddrD_cong {t : TypeId} {f : Nat} (g : st = st') (h : a = a') : fieldAddrD P st t a f K = fieldAddrD P st' t a' f K := by rw [h, g]
@[congr] theorem indexAddrD_cong {t : TypeId} (g : st = st') (h : a = a') (i : b = b') : indexAddrD P st t a b K = indexAddrD P st' t a' b' K := by rw [h, g, i]
@[congr] theorem partD_cong {t : TypeId} {cs cs' : List DV} {off off' : Nat} (h : cs = cs') (g : off = off') : partD P t cs off K = partD P t cs' off' K := by rw [h, g]
@[congr] theorem indexD_cong {t : TypeId} (h : a = a') (i : b = b') : indexD P t a b K = indexD P t a' b' K := by rw [h, i]
@[congr] theorem intBin_cong {op : BinOp} {k k' : IntKind} {x x' y y' : Int} (h : x = x') (i : y = y') : intBin op k k' x y K = intBin op k k' x' y' K := by rw [h, i]
@[congr] theorem strBin_cong {op : BinOp} {x x' y y' : ByteArray} (h : x = x') (i : y = y') : strBin op x y K = strBin op x' y' K := by rw [h, i]
@[congr] theorem eqK_cong {op : BinOp} {x x' : Bool} (h : x = x') : eqK op x K = eqK op x' K := by rw [h]
@[congr] theorem binD_cong {op : BinOp} {t : TypeId} (g : st = st') (h : a = a') (i : b = b') : binD P st op t a b K = binD P st' op t a' b' K := by rw [g, h, i]
@[congr] theorem unD_cong {op : UnOp} (h : a = a') : unD op a K = unD op a' K := by rw [h]
@[congr] theorem convD_cong {t u : TypeId} (h : a = a') : convD P t u a K = convD P t u a' K := by rw [h]
@[congr] theorem sliceD_cong {t : TypeId} {lo lo' hi hi' : Option DV} (g : st = st') (h : a = a') (i : lo = lo') (j : hi = hi') : sliceD P st t a lo hi K = sliceD P st' t a' lo' hi' K := by rw [g, h, i, j]
@[congr] theorem lenD_cong {t : TypeId} (g : st = st') (h : a = a') : lenD P st t a K = lenD P st' t a' K := by rw [g, h]
@[congr] theorem boxD_cong {t : TypeId} (g : st = st') (h : a = a') : boxD st t a KS = boxD st' t a' KS := by rw [g, h]
@[congr] theorem allocD_cong {t : TypeId} (g : st = st') : allocD P st t KS = allocD P st' t KS := by rw [g]
@[congr] theorem storeD_cong {t : TypeId} {X : Store → Prop} (g : st = st') (h : a = a') (i : b = b') : storeD P st t a b X = storeD P st' t a' b' X := by rw [g, h, i]
@[congr] theorem buildD_cong {t : TypeId} {l l' : List (Nat × DV)} (h : l = l') : buildD P t l K = buildD P t l' K := by rw [h]
@[congr] theorem buildSliceD_cong {t : TypeId} {n : Nat} {l l' : List (Nat × DV)} (g : st = st') (h : l = l') : buildSliceD P st t n l KS = buildSliceD P st' t n l' KS := by rw [g, h]
@[congr] theorem makeD_cong {t : TypeId} (g : st = st') (h : a = a') (i : b = b') : makeD P st t a b KS = makeD P st' t a' b' KS := by rw [g, h, i]
@[congr] theorem appendD_cong {t u : TypeId} (g : st = st') (h : a = a') (i : b = b') : appendD P st t u a b KS = appendD P st' t u a' b' KS := by rw [g, h, i]
@[congr] theorem mmD_cong {m : Bool} (h : a = a') (i : b = b') : mmD m a b K = mmD m a' b' K := by rw [h, i]
@[congr] theorem pickD_cong (h : a = a') (i : b = b') (j : c = c') : pickD a b c K = pickD a' b' c' K := by rw [h, i, j]
@[congr] theorem extractD_cong {i : Nat} (h : a = a') : extractD a i K = extractD a' i K := by rw [h]
@[congr] theorem fieldVD_cong {t : TypeId} {f : Nat} (h : a = a') : fieldVD P t a f K = fieldVD P t a' f K := by rw [h]
end
attribute [go_sem] yieldE_eq yieldE_and turnE_eq turnE_and pureK pureKc staysE stoodE mixRun mixSkip turns knownD callE opE closedD closedL Value.oneCell'
attribute [go_sem] opsG stepG runG skipG mixG slotOf dstOk putS opD callD ev thenD blockD resD oneD retQ wpE
attribute [go_sem] loadD fieldAddrD indexAddrD partD indexD intOfD scEqD eqD intBin strBin eqK notNil notNilP binD unD convD boundD sliceD lenD boxD allocD splice storeD fillD buildD buildSliceD makeD srcD appendD mmD pickD isRefD extractD fieldVD cellsD boolD intD nilS
theorem ret_v {r d : DV} {st : Store} (h : d = r) (hp : pureD d = true) : RetW 0 (fun x st => st = [] ∧ pureD x = true ∧ x = r) d st := by
 subst h; exact RetW.drop hp rfl
theorem noH_ok {P : Program} : Sound P [] := fun _ _ _ h => by cases h
def strD (s : ByteArray) : DV := .d (.sc (.string s))
attribute [go_sem] findH knowsH strD
end Go.Proofs.Ytadnpgkddgbhkaa
namespace Go.Proofs.Ytadnpgkddgbhkaa
open Go.RowKit
set_option linter.all false
theorem eqb {a b : Nat} (h : (a == b) = true) : a = b := by simpa using h
inductive Kd where
 | int (k : IntKind)
 | bool
 | str
 | slc (sz : Nat)
 | oth
structure Tab where
 kds : Nat → Option (List Kd)
 sym : Nat → Bool
 pause : Nat → Bool
 ty : Nat → Option (Nat × Bool)
 zero : Nat → Option (List DV)
 fld : Nat → Nat → Option Nat
 fldV : Nat → Nat → Option (Nat × Nat)
 arr : Nat → Option (Nat × Nat × Nat)
 sl : Nat → Option (Nat × Nat)
 by8 : Nat → Option Nat
 str : Nat → Bool
 kinds : Nat → Option (List Nat)
 place : Nat → Nat → Option (Nat × Nat)
 bok : Nat → Bool
 bool : Nat → Bool
 ik : Nat → Option IntKind
 ptr : Nat → Bool
 body : Nat → Bool
structure TabOk (P : Program) (T : Tab) : Prop where
 ty : ∀ t x, T.ty t = some x → tyD P t = some x
 zero : ∀ t x, T.zero t = some x → zeroD P t = some x
 fld : ∀ t f x, T.fld t f = some x → fieldD P t f = some x
 fldV : ∀ t f x, T.fldV t f = some x → ∃ fs fl, P.underlying t = some (.struct fs) ∧ fs[f]? = some fl ∧ fl.type = x.1 ∧ fl.offset = x.2
 arr : ∀ t x, T.arr t = some x → arrD P t = some x
 sl : ∀ t x, T.sl t = some x → slD P t = some x
 by8 : ∀ t x, T.by8 t = some x → ∃ i, P.info? t = some i ∧ i.bytes = x
 str : ∀ t, T.str t = true → P.underlying t = some .string
 kinds : ∀ t x, T.kinds t = some x → P.eqGuardType P.depth t = false ∧ isAggD P t = true ∧ kindsT P 20 t = some x
 place : ∀ t i x, T.place t i = some x → placeD P t i = some x
 bok : ∀ t, T.bok t = true → buildOk P t = true
 bool : ∀ t, T.bool t = true → P.underlying t = some .bool
 ik : ∀ t k, T.ik t = some k → P.underlying t = some (.int k)
 ptr : ∀ t, T.ptr t = true → ∃ e, P.underlying t = some (.pointer e)
 body : ∀ f, T.body f = true → hasBody P f = true
def byteOf : List PD → UInt8
 | .sc (.int _ n) :: _ => UInt8.ofNat n.toNat
 | _ => 0
def bytesOf (xs : List (List PD)) : List UInt8 := xs.map byteOf
theorem bytesOf_bytesP (bs : List UInt8) : bytesOf (bytesP bs) = bs := by
 induction bs with
 | nil => rfl
 | cons b bs ih =>
   show byteOf [.sc (.int .u8 b.toNat)] :: bytesOf (bytesP bs) = b :: bs
   rw [ih]
   simp [byteOf]
structure Ar where
 bstr : List (List PD) → ByteArray
 isby : List (List PD) → Prop
 fitc : List DV → Nat → List DV → Prop
 bin : BinOp → IntKind → Int → Int → Int
 cmp : BinOp → Int → Int → Bool
 cat : ByteArray → ByteArray → ByteArray
 scmp : BinOp → ByteArray → ByteArray → Bool
 wrap : IntKind → Int → Int
 un : UnOp → IntKind → Int → Int
 mm : Bool → Int → Int → Int
 smm : Bool → ByteArray → ByteArray → ByteArray
 cond : Bool → Bool → Bool → Bool
 not : Bool → Bool
 and : Bool → Bool → Bool
 beq : Bool → Bool → Bool
 size : ByteArray → Int
 extract : ByteArray → Int → Int → ByteArray
 len : List (List PD) → Int
 sub : List (List PD) → Int → Int → List (List PD)
 nz : Int → Prop
 nn : Int → Prop
 fit : ByteArray → ByteArray → Prop
 bnd : Int → Int → Int → Prop
 is : Bool → Bool → Bool
 imp : Bool → Bool → Prop
 gi : List DV → Nat → Int
 gb : List DV → Nat → Bool
 gs : List DV → Nat → ByteArray
 gl : List DV → Nat → List (List PD)
 gd : List DV → Nat → DV
 pl : Nat → Nat → Nat
 lift : List PD → List DV
 has : List DV → Nat → Nat → List DV → Prop
 off : Nat → Int → Nat → Nat
 inb : Int → Int → Prop
 row : List (List PD) → Int → List PD
 cdrop : List PD → Nat → List PD
 same : Nat → Nat → Prop
 fits : List DV → Nat → Nat → Prop
 spl : List DV → Nat → List DV → List DV
 ext : Int → Int → Bool
 rep : Int → List DV → List DV
 nat : Int → Nat
 mkok : Int → Int → Nat → Nat → Prop
 nxt : Nat → Nat
 app : List DV → List DV → List DV
 rows : List (List PD) → List DV
 byts : ByteArray → List DV
 byte : ByteArray → Int → Int
 lenN : List (List PD) → Nat
 sizeN : ByteArray → Nat
 isl : Nat → Nat → Nat → Prop
 tk : List DV → Nat → Nat → Nat → List DV
 fitv : List DV → Nat → Nat → Nat → Prop
 full : List DV → Nat → Nat → Prop
 pos : Nat → Prop
 int : Nat → Int
 imq : Bool → Prop → Prop
 lex : Array Oper → Prop
 trn : Array Oper → Prop
 sml : List DV → Prop
 capn : List DV → Nat → Nat → Int
 sl2 : List DV → Bool → Nat → Nat → Nat → Int → Int → Prop
 df : Int → Int → Nat
 mn : Nat → Nat → Nat
 over : List DV → Nat → Nat → Prop
 ord3 : Int → Int → Int → Int → Prop
def A0 : Ar where
 bstr xs := ⟨(bytesOf xs).toArray⟩
 isby xs := ∃ bs, xs = bytesP bs
 fitc cs o ds := o + ds.length ≤ cs.length
 bin op k a b := match op with
  | .add => k.wrap (a + b)
  | .sub => k.wrap (a - b)
  | .mul => k.wrap (a * b)
  | .quo => k.wrap (a.tdiv b)
  | .rem => a.tmod b
  | .and => bitsV k (· &&& ·) a b
  | .or => bitsV k (· ||| ·) a b
  | .xor => bitsV k (· ^^^ ·) a b
  | .shl => k.wrap (a * 2 ^ (min b.toNat k.bits))
  | .shr => a.fdiv (2 ^ (min b.toNat k.bits))
  | _ => 0
 cmp op a b := match op with
  | .eql => decide (a = b)
  | .neq => !decide (a = b)
  | .lss => decide (a < b)
  | .leq => decide (a ≤ b)
  | .gtr => decide (b < a)
  | .geq => decide (b ≤ a)
  | _ => false
 cat a b := a ++ b
 scmp op a b := match op with
  | .eql => decide (a = b)
  | .neq => !decide (a = b)
  | .lss => ltb a b
  | .leq => ltb a b || decide (a = b)
  | .gtr => !(ltb a b || decide (a = b))
  | .geq => !ltb a b
  | _ => false
 wrap k n := k.wrap n
 un op k n := match op with
  | .neg => k.wrap (0 - n)
  | .xor => bitsV k (· ^^^ ·) (if k.signed then -1 else k.max) n
  | _ => 0
 mm mx a b := if mx = true then max a b else min a b
 smm mx a b := if mx = true then (if ltb a b = true then b else a) else (if (ltb a b || decide (a = b)) = true then a else b)
 cond c a b := bif c then a else b
 not b := !b
 and a b := a && b
 beq a b := decide (a = b)
 size s := s.size
 extract s l h := s.extract l.toNat h.toNat
 len xs := xs.length
 sub xs l h := (xs.drop l.toNat).take (h.toNat - l.toNat)
 nz b := b ≠ 0
 nn b := 0 ≤ b
 fit a b := a.size + b.size ≤ maxLen
 bnd l h n := 0 ≤ l ∧ l ≤ h ∧ h ≤ n
 is t w := t == w
 imp a b := a = true → b = true
 gi cs o := match cs[o]? with
  | some (.d (.sc (.int _ n))) => n
  | _ => 0
 gb cs o := match cs[o]? with
  | some (.d (.sc (.bool b))) => b
  | _ => false
 gs cs o := match cs[o]? with
  | some (.d (.sc (.string s))) => s
  | _ => .empty
 gl cs o := match cs[o]? with
  | some (.d (.slc _ xs)) => xs
  | _ => []
 gd cs o := cs.getD o .any
 pl o j := o + j
 lift cs := cs.map .d
 has cs o sz ds := ds.length = sz ∧ o + sz ≤ cs.length ∧ (cs.drop o).take sz = ds
 off o i sz := o + i.toNat * sz
 inb i n := 0 ≤ i ∧ i < n
 row xs i := xs.getD i.toNat []
 cdrop cs o := cs.drop o
 same a b := a = b
 fits cs o sz := o + sz ≤ cs.length
 spl cs o ds := splice cs o ds
 ext l c := decide (l < c)
 rep l z := (List.replicate l.toNat z).flatten
 nat l := l.toNat
 mkok l c bytes sz := 0 ≤ l ∧ l ≤ c ∧ c ≤ 281474976710656 ∧ bytes * c ≤ 281474976710656 ∧ c * sz ≤ 9223372036854775807
 nxt v := v + 1
 app a b := a ++ b
 rows xs := rowsD xs
 byts s := rowsD (bytesP s.data.toList)
 byte s i := match s[i.toNat]? with
  | some b => b.toNat
  | none => 0
 lenN xs := xs.length
 sizeN s := s.size
 isl n m bytes := n + m ≤ 9007199254740992 ∧ (n + m) * bytes ≤ 140737488355328
 tk cs o n sz := (cs.drop o).take (n * sz)
 fitv cs o n sz := o + n * sz ≤ cs.length
 full cs n sz := cs.length = n * sz
 pos n := 0 < n
 int n := n
 imq w c := w = true → c
 lex ops := Region.lexB .any ops = true
 trn ops := turnsB ops = true
 sml ds := ds.length ≤ 1000000
 capn cs o sz := ((cs.length - o) / sz : Nat)
 sl2 cs ext o n sz l h := (0 ≤ l ∧ l ≤ h) ∧ (h ≤ n ∨ (ext = false ∧ o + h.toNat * sz ≤ cs.length)) ∧ (l = 0 ∨ l < n ∨ (ext = false ∧ o + l.toNat * sz < cs.length))
 df h l := h.toNat - l.toNat
 mn a b := min a b
 over cs n sz := cs.length < n * sz
 ord3 l h m n := 0 ≤ l ∧ l ≤ h ∧ h ≤ m ∧ m ≤ n
abbrev RV := Option (List Prop × DV)
def allP : List Prop → Prop → Prop
 | [], X => X
 | c :: cs, X => c ∧ allP cs X
theorem allP_iff : ∀ (cs : List Prop) (X : Prop), allP cs X ↔ allP cs True ∧ X
 | [], X => by simp [allP]
 | c :: cs, X => by simp only [allP]; rw [allP_iff cs X, and_assoc]
def loadV (T : Unit → Tab) (st : Store) (t : Nat) (a : DV) : RV :=
 match (T ()).ty t, a with
 | some (sz, true), .ref b ver o => match st[b]? with
   | some bx => bif bx.live && (ver == bx.ver) && decide ((o + sz) ≤ bx.cells.length) then some ([], .agg ((bx.cells.drop o).take sz)) else none
   | none => none
 | some (_, false), .ref b ver o => match st[b]? with
   | some bx => bif bx.live && (ver == bx.ver) then (match bx.cells[o]? with
     | some d => some ([], d)
     | none => none) else none
   | none => none
 | some (sz, true), .cref cs => bif decide (sz ≤ cs.length) then some ([], .agg ((cs.take sz).map .d)) else none
 | some (_, false), .cref cs => match cs[0]? with
   | some p => some ([], .d p)
   | none => none
 | _, _ => none
theorem loadV_D {P : Program} {T : Unit → Tab} (hT : TabOk P (T ())) {st : Store} {t : Nat} {a : DV} {cs : List Prop} {d : DV} (h : loadV T st t a = some (cs, d)) (hc : allP cs True) {K : DV → Prop} (hk : K d) : loadD P st t a K := by
 unfold loadV at h
 unfold loadD
 split at h
 ·rename_i sz b ver o ht
  simp only [hT.ty _ _ ht]
  split at h
  ·rename_i bx hb
   simp only [hb]
   cases hh : (bx.live && (ver == bx.ver) && decide ((o + sz) ≤ bx.cells.length))
   ·rw [hh] at h; cases h
   ·rw [hh] at h
    simp only [Bool.and_eq_true, decide_eq_true_eq] at hh
    cases h
    exact ⟨hh.1.1, eqb hh.1.2, hh.2, hk⟩
  ·cases h
 ·rename_i sz b ver o ht
  simp only [hT.ty _ _ ht]
  split at h
  ·rename_i bx hb
   simp only [hb]
   cases hh : (bx.live && (ver == bx.ver))
   ·rw [hh] at h; cases h
   ·rw [hh] at h
    simp only [Bool.and_eq_true] at hh
    simp only [cond_true] at h
    split at h
    ·rename_i d' hd
     simp only [hd]
     cases h
     exact ⟨hh.1, eqb hh.2, hk⟩
    ·cases h
  ·cases h
 ·rename_i sz ds ht
  simp only [hT.ty _ _ ht]
  cases hh : decide (sz ≤ ds.length)
  ·rw [hh] at h; cases h
  ·rw [hh] at h
   cases h
   exact ⟨of_decide_eq_true hh, hk⟩
 ·rename_i sz ds ht
  simp only [hT.ty _ _ ht]
  split at h
  ·rename_i p hp
   simp only [hp]
   cases h
   exact hk
  ·cases h
 ·cases h
def fieldAddrV (T : Unit → Tab) (st : Store) (t : Nat) (a : DV) (f : Nat) : RV :=
 match (T ()).fld t f, a with
 | some off, .ref b ver o => match st[b]? with
   | some bx => bif (ver == bx.ver) then some ([], .ref b ver (o + off)) else none
   | none => none
 | some off, .cref cs => some ([], .cref (cs.drop off))
 | _, _ => none
theorem fieldAddrV_D {P : Program} {T : Unit → Tab} (hT : TabOk P (T ())) {st : Store} {t f : Nat} {a : DV} {cs : List Prop} {d : DV} (h : fieldAddrV T st t a f = some (cs, d)) (hc : allP cs True) {K : DV → Prop} (hk : K d) : fieldAddrD P st t a f K := by
 unfold fieldAddrV at h
 unfold fieldAddrD
 split at h
 ·rename_i off b ver o ht
  simp only [hT.fld _ _ _ ht]
  split at h
  ·rename_i bx hb
   simp only [hb]
   cases hh : (ver == bx.ver)
   ·rw [hh] at h; cases h
   ·rw [hh] at h
    cases h
    exact ⟨eqb hh, hk⟩
  ·cases h
 ·rename_i off ds ht
  simp only [hT.fld _ _ _ ht]
  cases h
  exact hk
 ·cases h
def indexAddrV (T : Unit → Tab) (st : Store) (t : Nat) (a ix : DV) : RV :=
 match ix with
 | .d (.sc (.int _ (.ofNat i))) => match (T ()).arr t, (T ()).sl t, a with
   | some (n, _, sz), _, .ref b ver o => match st[b]? with
     | some bx => bif (ver == bx.ver) && decide (i < n) then some ([], .ref b ver (o + i * sz)) else none
     | none => none
   | some (n, _, sz), _, .cref cs => bif decide (i < n) then some ([], .cref (cs.drop (i * sz))) else none
   | _, some (_, sz), .view sz' b ver o n => match st[b]? with
     | some bx => bif (ver == bx.ver) && (sz == sz') && decide (i < n) then some ([], .ref b ver (o + i * sz)) else none
     | none => none
   | _, _, _ => none
 | _ => none
theorem slD_arrD {P : Program} {t : Nat} {x : Nat × Nat} (h : slD P t = some x) : arrD P t = none := by
 unfold slD at h
 unfold arrD
 split at h
 ·rename_i e hu
  simp only [hu]
 ·cases h
theorem indexAddrV_D {P : Program} {T : Unit → Tab} (hT : TabOk P (T ())) {st : Store} {t : Nat} {a ix : DV} {cs : List Prop} {d : DV} (h : indexAddrV T st t a ix = some (cs, d)) (hc : allP cs True) {K : DV → Prop} (hk : K d) : indexAddrD P st t a ix K := by
 unfold indexAddrV at h
 unfold indexAddrD
 split at h
 ·rename_i k i
  simp only [intOfD]
  split at h
  ·rename_i n e sz b ver o ht
   simp only [hT.arr _ _ ht]
   split at h
   ·rename_i bx hb
    simp only [hb]
    cases hh : ((ver == bx.ver) && decide (i < n))
    ·rw [hh] at h; cases h
    ·rw [hh] at h
     simp only [Bool.and_eq_true, decide_eq_true_eq] at hh
     cases h
     exact ⟨eqb hh.1, ⟨Int.natCast_nonneg i, Int.ofNat_lt.2 hh.2⟩, hk⟩
   ·cases h
  ·rename_i n e sz ds ht
   simp only [hT.arr _ _ ht]
   cases hh : decide (i < n)
   ·rw [hh] at h; cases h
   ·rw [hh] at h
    cases h
    exact ⟨⟨Int.natCast_nonneg i, Int.ofNat_lt.2 (by simpa using hh)⟩, hk⟩
  ·rename_i e9 sz sz' b ver o n ht
   have ht' := hT.sl _ _ ht
   simp only [slD_arrD ht', ht']
   split at h
   ·rename_i bx hb
    simp only [hb]
    cases hh : ((ver == bx.ver) && (sz == sz') && decide (i < n))
    ·rw [hh] at h; cases h
    ·rw [hh] at h
     simp only [Bool.and_eq_true, decide_eq_true_eq] at hh
     cases h
     exact ⟨eqb hh.1.1, eqb hh.1.2, ⟨Int.natCast_nonneg i, Int.ofNat_lt.2 hh.2⟩, hk⟩
   ·cases h
  ·cases h
 ·cases h
def partV (T : Unit → Tab) (t : Nat) (cs : List DV) (off : Nat) : RV :=
 match (T ()).ty t with
 | some (sz, true) => bif decide ((off + sz) ≤ cs.length) then some ([], .agg ((cs.drop off).take sz)) else none
 | some (_, false) => match cs[off]? with
   | some d => some ([], d)
   | none => none
 | none => none
theorem partV_D {P : Program} {T : Unit → Tab} (hT : TabOk P (T ())) {t off : Nat} {l : List DV} {cs : List Prop} {d : DV} (h : partV T t l off = some (cs, d)) {K : DV → Prop} (hk : K d) : partD P t l off K := by
 unfold partV at h
 unfold partD
 split at h
 ·rename_i sz ht
  simp only [hT.ty _ _ ht]
  cases hh : decide ((off + sz) ≤ l.length)
  ·rw [hh] at h; cases h
  ·rw [hh] at h
   cases h
   exact ⟨of_decide_eq_true hh, hk⟩
 ·rename_i sz ht
  simp only [hT.ty _ _ ht]
  split at h
  ·rename_i d' hd
   simp only [hd]
   cases h
   exact hk
  ·cases h
 ·cases h
def fieldVV (T : Unit → Tab) (t : Nat) (x : DV) (f : Nat) : RV :=
 match (T ()).fldV t f, x with
 | some (u, off), .agg cs => partV T u cs off
 | _, _ => none
theorem fieldVV_D {P : Program} {T : Unit → Tab} (hT : TabOk P (T ())) {t f : Nat} {x : DV} {cs : List Prop} {d : DV} (h : fieldVV T t x f = some (cs, d)) {K : DV → Prop} (hk : K d) : fieldVD P t x f K := by
 unfold fieldVV at h
 split at h
 ·rename_i u off ds ht
  obtain ⟨fs, fl, h1, h2, h3, h4⟩ := hT.fldV _ _ _ ht
  simp only at h3 h4
  subst h3; subst h4
  unfold fieldVD
  simp only [h1, h2]
  exact partV_D hT h hk
 ·cases h
def unV (A : Ar) (op : UnOp) (x : DV) : RV :=
 match op, x with
 | .not, .d (.sc (.bool b)) => some ([], .d (.sc (.bool (A.not b))))
 | .neg, .d (.sc (.int k n)) => some ([], .d (.sc (.int k (A.un .neg k n))))
 | .xor, .d (.sc (.int k n)) => some ([], .d (.sc (.int k (A.un .xor k n))))
 | _, _ => none
theorem unV_D {op : UnOp} {x : DV} {cs : List Prop} {d : DV} (h : unV A0 op x = some (cs, d)) {K : DV → Prop} (hk : K d) : unD op x K := by
 unfold unV at h
 split at h <;> cases h <;> exact hk
def convV (T : Unit → Tab) (A : Ar) (src dst : Nat) (x : DV) : RV :=
 match (T ()).ik dst, x with
 | some k, .d (.sc (.int _ n)) => match (T ()).ik src with
   | some _ => some ([], .d (.sc (.int k (A.wrap k n))))
   | none => none
 | none, .d (.slc 1 xs) => match (T ()).str dst, (T ()).sl src with
   | true, some (e, _) => (match (T ()).ik e with
     | some .u8 => some ([A.isby xs], .d (.sc (.string (A.bstr xs))))
     | _ => none)
   | _, _ => none
 | _, _ => none
theorem slD_elem {P : Program} {t : TypeId} {e sz : Nat} (h : slD P t = some (e, sz)) : P.underlying t = some (.slice e) := by
 unfold slD at h
 split at h
 ·rename_i e' he
  split at h
  ·cases h; exact he
  ·cases h
 ·cases h
theorem convV_D {P : Program} {T : Unit → Tab} (hT : TabOk P (T ())) {src dst : Nat} {x : DV} {cs : List Prop} {d : DV} (h : convV T A0 src dst x = some (cs, d)) (hc : allP cs True) {K : DV → Prop} (hk : K d) : convD P src dst x K := by
 unfold convV at h
 split at h
 ·rename_i k k' n ht
  split at h
  ·rename_i k2 ht2
   unfold convD
   simp only [hT.ik _ _ ht, hT.ik _ _ ht2]
   cases h
   exact hk
  ·cases h
 ·rename_i xs ht
  split at h
  ·rename_i e z hs hsl
   split at h
   ·rename_i he
    cases h
    obtain ⟨⟨bs, rfl⟩, _⟩ := hc
    unfold convD
    simp only [slD_elem (hT.sl _ _ hsl), hT.str _ hs]
    refine ⟨hT.ik _ _ he, bs, rfl, ?_⟩
    simpa [A0, bytesOf_bytesP] using hk
   ·cases h
  ·cases h
 ·cases h
def lenV (T : Unit → Tab) (A : Ar) (st : Store) (t : Nat) (x : DV) : RV :=
 match x with
 | .d (.sc (.string s)) => bif (T ()).str t then some ([], .d (.sc (.int .i64 (A.size s)))) else none
 | .d (.slc _ xs) => match (T ()).sl t with
   | some _ => some ([], .d (.sc (.int .i64 (A.len xs))))
   | none => none
 | .d (.sc (.slice none 0 0)) => match (T ()).sl t with
   | some _ => some ([], .d (.sc (.int .i64 0)))
   | none => none
 | .view _ b ver _ n => match (T ()).sl t, st[b]? with
   | some _, some bx => some ([A.same ver bx.ver], .d (.sc (.int .i64 (A.int n))))
   | _, _ => none
 | .agg _ => match (T ()).arr t with
   | some (n, _, _) => some ([], .d (.sc (.int .i64 n)))
   | none => none
 | _ => none
theorem lenV_D {P : Program} {T : Unit → Tab} (hT : TabOk P (T ())) {st : Store} {t : Nat} {x : DV} {cs : List Prop} {d : DV} (h : lenV T A0 st t x = some (cs, d)) (hc : allP cs True) {K : DV → Prop} (hk : K d) : lenD P st t x K := by
 unfold lenV at h
 unfold lenD
 split at h
 ·cases hh : (T ()).str t
  ·rw [hh] at h; cases h
  ·rw [hh] at h; cases h
   exact ⟨hT.str _ hh, hk⟩
 ·split at h
  ·rename_i ht
   cases h
   exact ⟨by rw [hT.sl _ _ ht]; rfl, hk⟩
  ·cases h
 ·split at h
  ·rename_i ht
   cases h
   exact ⟨by rw [hT.sl _ _ ht]; rfl, hk⟩
  ·cases h
 ·rename_i b ver o n
  split at h
  ·rename_i bx ht hb
   cases h
   simp only [hb]
   exact ⟨hc.1, by rw [hT.sl _ _ ht]; rfl, hk⟩
  ·cases h
 ·split at h
  ·rename_i ht
   simp only [hT.arr _ _ ht]
   cases h
   exact hk
  ·cases h
 ·cases h
def mmV (A : Ar) (mx : Bool) (x y : DV) : RV :=
 match x, y with
 | .d (.sc (.int k a)), .d (.sc (.int k' b)) => some ([k = k'], .d (.sc (.int k (A.mm mx a b))))
 | .d (.sc (.string a)), .d (.sc (.string b)) => some ([], .d (.sc (.string (A.smm mx a b))))
 | _, _ => none
theorem mmV_D {mx : Bool} {x y : DV} {cs : List Prop} {d : DV} (h : mmV A0 mx x y = some (cs, d)) (hc : allP cs True) {K : DV → Prop} (hk : K d) : mmD mx x y K := by
 unfold mmV at h
 unfold mmD
 split at h <;> cases h
 ·exact ⟨hc.1, hk⟩
 ·exact hk
def extractV (x : DV) (i : Nat) : RV :=
 match x with
 | .tup vs => match vs[i]? with
   | some d => some ([], d)
   | none => none
 | _ => none
theorem extractV_D {x : DV} {i : Nat} {cs : List Prop} {d : DV} (h : extractV x i = some (cs, d)) {K : DV → Prop} (hk : K d) : extractD x i K := by
 unfold extractV at h
 unfold extractD
 split at h
 ·split at h
  ·rename_i vs d' hd
   cases h
   simp only [hd]
   exact hk
  ·cases h
 ·cases h
def isRefV (st : Store) (x : DV) : RV :=
 match x with
 | .ref b ver _ => match st[b]? with
   | some bx => bif (bx.ver == ver) then some ([], x) else none
   | none => none
 | .cref _ => some ([], x)
 | .fn _ _ => some ([], x)
 | _ => none
theorem isRefV_D {st : Store} {x : DV} {cs : List Prop} {d : DV} (h : isRefV st x = some (cs, d)) : isRefD st x = true ∧ d = x := by
 unfold isRefV at h
 unfold isRefD
 split at h
 ·rename_i b ver o
  split at h
  ·rename_i bx hb
   cases hh : (bx.ver == ver)
   ·rw [hh] at h; cases h
   ·rw [hh] at h; cases h
    simp only [hb]
    exact ⟨by simpa using eqb hh, trivial⟩
  ·cases h
 ·cases h; exact ⟨rfl, rfl⟩
 ·cases h; exact ⟨rfl, rfl⟩
 ·cases h
def ofKd (A : Ar) (cs : List DV) (o : Nat) : Kd → DV
 | .int k => .d (.sc (.int k (A.gi cs o)))
 | .bool => .d (.sc (.bool (A.gb cs o)))
 | .str => .d (.sc (.string (A.gs cs o)))
 | .slc sz => .d (.slc sz (A.gl cs o))
 | .oth => A.gd cs o
def ofKds (A : Ar) (cs : List DV) (o : Nat) : List Kd → Nat → List DV
 | [], _ => []
 | k :: ks, j => ofKd A cs (match j with
   | 0 => o
   | j => A.pl o j) k :: ofKds A cs o ks (j + 1)
def wrapV (ag : Bool) (ds : List DV) : Option DV := match ag, ds with
 | true, ds => some (.agg ds)
 | false, [d] => some d
 | _, _ => none
def loadS (T : Unit → Tab) (A : Ar) (st : Store) (t : Nat) (a : DV) : RV :=
 match (T ()).ty t, (T ()).kds t, a with
 | some (sz, ag), some ks, .ref b ver o => match st[b]? with
   | some bx => bif bx.live then (match wrapV ag (ofKds A bx.cells o ks 0) with
     | some d => some ([A.same ver bx.ver, A.has bx.cells o sz (ofKds A bx.cells o ks 0)], d)
     | none => none) else none
   | none => none
 | some (sz, ag), some ks, .cref cs => (match wrapV ag (ofKds A (A.lift cs) 0 ks 0) with
    | some d => some ([A.has (A.lift cs) 0 sz (ofKds A (A.lift cs) 0 ks 0)], d)
    | none => none)
 | _, _, _ => none
theorem wrapV_load {P : Program} {st : Store} {t b o : Nat} {bx : Box} {sz : Nat} {ag : Bool} (ht : tyD P t = some (sz, ag)) (hb : st[b]? = some bx) (hl : bx.live = true) {ds : List DV} {d : DV} (hw : wrapV ag ds = some d) (hh : A0.has bx.cells o sz ds) {K : DV → Prop} (hk : K d) : loadD P st t (.ref b bx.ver o) K := by
 obtain ⟨h1, h2, h3⟩ := hh
 unfold wrapV at hw
 unfold loadD
 split at hw
 ·cases hw
  simp only [ht, hb]
  exact ⟨hl, trivial, h2, by rw [h3]; exact hk⟩
 ·cases hw
  simp only [ht, hb]
  refine ⟨hl, trivial, ?_⟩
  have hs : sz = 1 := by simpa using h1.symm
  subst hs
  have : bx.cells[o]? = some d := by
   have h4 : ((bx.cells.drop o).take 1)[0]? = some d := by rw [h3]; rfl
   simpa using h4
  simp only [this]
  exact hk
 ·cases hw
theorem wrapV_cload {P : Program} {st : Store} {t : Nat} {cs : List PD} {sz : Nat} {ag : Bool} (ht : tyD P t = some (sz, ag)) {ds : List DV} {d : DV} (hw : wrapV ag ds = some d) (hh : A0.has (A0.lift cs) 0 sz ds) {K : DV → Prop} (hk : K d) : loadD P st t (.cref cs) K := by
 obtain ⟨h1, h2, h3⟩ := hh
 simp only [A0, List.length_map, Nat.zero_add, List.drop_zero] at h2 h3
 unfold wrapV at hw
 unfold loadD
 split at hw
 ·cases hw
  simp only [ht]
  exact ⟨h2, by rw [List.map_take, h3]; exact hk⟩
 ·cases hw
  simp only [ht]
  have hs : sz = 1 := by simpa using h1.symm
  subst hs
  have h4 : ((cs.map DV.d).take 1)[0]? = some d := by rw [h3]; rfl
  have h5 : (cs[0]?).map DV.d = some d := by simpa using h4
  cases hc : cs[0]? with
  | none => rw [hc] at h5; cases h5
  | some p =>
    rw [hc] at h5
    cases h5
    exact hk
 ·cases hw
theorem loadS_D {P : Program} {T : Unit → Tab} (hT : TabOk P (T ())) {st : Store} {t : Nat} {a : DV} {cs : List Prop} {d : DV} (h : loadS T A0 st t a = some (cs, d)) (hc : allP cs True) {K : DV → Prop} (hk : K d) : loadD P st t a K := by
 unfold loadS at h
 split at h
 ·rename_i sz ag ks b ver o ht hks
  split at h
  ·rename_i bx hb
   cases hl : bx.live
   ·rw [hl] at h; cases h
   ·rw [hl] at h
    simp only [cond_true] at h
    split at h
    ·rename_i d' hw
     cases h
     obtain ⟨h1, h2, _⟩ := hc
     have h1' : ver = bx.ver := h1
     subst h1'
     exact wrapV_load (hT.ty _ _ ht) hb hl hw h2 hk
    ·cases h
  ·cases h
 ·rename_i sz ag ks cs' ht hks
  split at h
  ·rename_i d' hw
   cases h
   exact wrapV_cload (hT.ty _ _ ht) hw hc.1 hk
  ·cases h
 ·cases h
def loadW (T : Unit → Tab) (A : Ar) (st : Store) (t : Nat) (a : DV) : RV :=
 match (T ()).ty t, a with
 | some (sz, true), .ref b ver o => match st[b]? with
   | some bx => bif bx.live then (match (T ()).sym 5004 with
     | true => some ([A.same ver bx.ver, A.full bx.cells (o + sz) 1], .agg (bx.cells.drop o))
     | false => some ([A.same ver bx.ver, A.fitv bx.cells o 1 sz], .agg (A.tk bx.cells o 1 sz))) else none
   | none => none
 | _, _ => none
theorem loadW_D {P : Program} {T : Unit → Tab} (hT : TabOk P (T ())) {st : Store} {t : Nat} {a : DV} {cs : List Prop} {d : DV} (h : loadW T A0 st t a = some (cs, d)) (hc : allP cs True) {K : DV → Prop} (hk : K d) : loadD P st t a K := by
 unfold loadW at h
 unfold loadD
 split at h
 ·rename_i sz b ver o ht
  simp only [hT.ty _ _ ht]
  split at h
  ·rename_i bx hb
   simp only [hb]
   cases hl : bx.live
   ·rw [hl] at h; cases h
   ·rw [hl] at h
    simp only [cond_true] at h
    split at h
    ·cases h
     obtain ⟨h1, h2, _⟩ := hc
     simp only [A0, Nat.mul_one] at h1 h2
     refine ⟨rfl, h1, by omega, ?_⟩
     rw [List.take_of_length_le (by rw [List.length_drop]; omega)]
     exact hk
    ·cases h
     obtain ⟨h1, h2, _⟩ := hc
     simp only [A0, Nat.one_mul] at h1 h2 hk
     exact ⟨rfl, h1, h2, hk⟩
  ·cases h
 ·cases h
def fieldAddrS (T : Unit → Tab) (A : Ar) (st : Store) (t : Nat) (a : DV) (f : Nat) : RV :=
 match (T ()).fld t f, a with
 | some off, .ref b ver o => match st[b]? with
   | some bx => some ([A.same ver bx.ver], .ref b ver (A.pl o off))
   | none => none
 | some off, .cref cs => some ([], .cref (A.cdrop cs off))
 | _, _ => none
theorem fieldAddrS_D {P : Program} {T : Unit → Tab} (hT : TabOk P (T ())) {st : Store} {t f : Nat} {a : DV} {cs : List Prop} {d : DV} (h : fieldAddrS T A0 st t a f = some (cs, d)) (hc : allP cs True) {K : DV → Prop} (hk : K d) : fieldAddrD P st t a f K := by
 unfold fieldAddrS at h
 unfold fieldAddrD
 split at h
 ·rename_i off b ver o ht
  simp only [hT.fld _ _ _ ht]
  split at h
  ·rename_i bx hb
   simp only [hb]
   cases h
   exact ⟨hc.1, hk⟩
  ·cases h
 ·rename_i off ds ht
  simp only [hT.fld _ _ _ ht]
  cases h
  exact hk
 ·cases h
def indexAddrS (T : Unit → Tab) (A : Ar) (st : Store) (t : Nat) (a ix : DV) : RV :=
 match ix with
 | .d (.sc (.int _ i)) => match (T ()).arr t, (T ()).sl t, a with
   | some (n, _, sz), _, .ref b ver o => match st[b]? with
     | some bx => some ([A.same ver bx.ver, A.inb i (A.int n)], .ref b ver (A.off o i sz))
     | none => none
   | some (n, _, sz), _, .cref cs => some ([A.inb i (A.int n)], .cref (A.cdrop cs (A.off 0 i sz)))
   | _, some (_, sz), .view sz' b ver o n => match st[b]? with
     | some bx => bif (sz == sz') then some ([A.same ver bx.ver, A.inb i (A.int n)], .ref b ver (A.off o i sz)) else none
     | none => none
   | _, some (_, sz), .d (.slc sz' xs) => bif (sz == sz') then some ([A.inb i (A.len xs)], .cref (A.row xs i)) else none
   | _, _, _ => none
 | _ => none
theorem indexAddrS_D {P : Program} {T : Unit → Tab} (hT : TabOk P (T ())) {st : Store} {t : Nat} {a ix : DV} {cs : List Prop} {d : DV} (h : indexAddrS T A0 st t a ix = some (cs, d)) (hc : allP cs True) {K : DV → Prop} (hk : K d) : indexAddrD P st t a ix K := by
 unfold indexAddrS at h
 unfold indexAddrD
 split at h
 ·rename_i k i
  simp only [intOfD]
  split at h
  ·rename_i n e sz b ver o ht
   simp only [hT.arr _ _ ht]
   split at h
   ·rename_i bx hb
    simp only [hb]
    cases h
    exact ⟨hc.1, hc.2.1, hk⟩
   ·cases h
  ·rename_i n e sz ds ht
   simp only [hT.arr _ _ ht]
   cases h
   refine ⟨hc.1, ?_⟩
   simpa [A0] using hk
  ·rename_i e9 sz sz' b ver o n ht
   have ht' := hT.sl _ _ ht
   simp only [slD_arrD ht', ht']
   split at h
   ·rename_i bx hb
    simp only [hb]
    cases hh : (sz == sz')
    ·rw [hh] at h; cases h
    ·rw [hh] at h
     cases h
     exact ⟨hc.1, eqb hh, hc.2.1, hk⟩
   ·cases h
  ·rename_i e9 sz sz' xs ht
   have ht' := hT.sl _ _ ht
   simp only [slD_arrD ht', ht']
   cases hh : (sz == sz')
   ·rw [hh] at h; cases h
   ·rw [hh] at h
    cases h
    obtain ⟨h1, _⟩ := hc
    refine ⟨eqb hh, h1, ?_⟩
    have h1' : 0 ≤ i ∧ i < (xs.length : Int) := h1
    have hlt : i.toNat < xs.length := by omega
    rw [List.getElem?_eq_getElem hlt]
    have e : A0.row xs i = xs[i.toNat] := by simp [A0, List.getD_eq_getElem?_getD, List.getElem?_eq_getElem hlt]
    rw [e] at hk
    exact hk
  ·cases h
 ·cases h
def indexS (T : Unit → Tab) (A : Ar) (t : Nat) (x ix : DV) : RV :=
 match ix, x with
 | .d (.sc (.int _ i)), .d (.sc (.string s)) => bif (T ()).str t then some ([A.inb i (A.size s)], .d (.sc (.int .u8 (A.byte s i)))) else none
 | .d (.sc (.int _ i)), .agg cs => (match (T ()).arr t with
   | some (n, e, sz) => (match (T ()).ty e, (T ()).kds e with
     | some (sz', ag), some ks => (match wrapV ag (ofKds A cs (A.off 0 i sz) ks 0) with
       | some d => some ([A.inb i (A.int n), A.has cs (A.off 0 i sz) sz' (ofKds A cs (A.off 0 i sz) ks 0)], d)
       | none => none)
     | _, _ => none)
   | none => none)
 | _, _ => none
theorem indexS_D {P : Program} {T : Unit → Tab} (hT : TabOk P (T ())) {t : Nat} {x ix : DV} {cs : List Prop} {d : DV} (h : indexS T A0 t x ix = some (cs, d)) (hc : allP cs True) {K : DV → Prop} (hk : K d) : indexD P t x ix K := by
 unfold indexS at h
 unfold indexD
 split at h
 ·rename_i k i s
  simp only [intOfD]
  cases hh : (T ()).str t
  ·rw [hh] at h; cases h
  ·rw [hh] at h
   cases h
   obtain ⟨h1, _⟩ := hc
   have h1' : 0 ≤ i ∧ i < (s.size : Int) := h1
   refine ⟨hT.str _ hh, h1'.1, ?_⟩
   have hlt : i.toNat < s.size := by omega
   have e : A0.byte s i = (s[i.toNat]'hlt).toNat := by simp [A0, hlt]
   rw [e] at hk
   rw [getElem?_pos s i.toNat hlt]
   exact hk
 ·rename_i k i ds
  simp only [intOfD]
  split at h
  ·rename_i n e sz ht
   simp only [hT.arr _ _ ht]
   split at h
   ·rename_i sz' ag ks h2 h3
    split at h
    ·rename_i d' hw
     cases h
     obtain ⟨h1, ⟨g1, g2, g3⟩, _⟩ := hc
     refine ⟨h1, ?_⟩
     have eo : A0.off 0 i sz = i.toNat * sz := by simp [A0]
     rw [eo] at g1 g2 g3 hw
     unfold wrapV at hw
     unfold partD
     split at hw
     ·cases hw
      simp only [hT.ty _ _ h2]
      exact ⟨g2, by rw [g3]; exact hk⟩
     ·rename_i d2 hd2
      cases hw
      simp only [hT.ty _ _ h2]
      have hs : sz' = 1 := by rw [hd2] at g1; simpa using g1.symm
      subst hs
      have h4 : ((ds.drop (i.toNat * sz)).take 1)[0]? = some d := by rw [g3, hd2]; rfl
      have h5 : ds[i.toNat * sz]? = some d := by simpa using h4
      simp only [h5]
      exact hk
     ·cases hw
    ·cases h
   ·cases h
  ·cases h
 ·cases h
end Go.Proofs.Ytadnpgkddgbhkaa
namespace Go.Proofs.Ytadnpgkddgbhkaa
open Go.RowKit
set_option linter.all false
def eqL (A : Ar) : List Nat → List DV → List DV → Option Bool
 | [], [], [] => some true
 | k :: ks, .d (.sc x) :: xs, .d (.sc y) :: ys => match eqL A ks xs ys with
   | some b => match k, x, y with
     | 0, .int .i64 a, .int .i64 c => some (A.and (A.cmp .eql a c) b)
     | 1, .bool a, .bool c => some (A.and (A.beq a c) b)
     | 2, .string a, .string c => some (A.and (A.scmp .eql a c) b)
     | _, _, _ => none
   | none => none
 | _, _, _ => none
theorem eqL_D : ∀ (ks : List Nat) (xs ys : List DV) (b : Bool), eqL A0 ks xs ys = some b → eqD ks xs ys = some b
 | [], [], [], b, h => h
 | k :: ks, .d (.sc x) :: xs, .d (.sc y) :: ys, b, h => by
     unfold eqL at h
     unfold eqD
     split at h
     ·rename_i b' hb
      have ih := eqL_D ks xs ys b' hb
      simp only [ih, scEqD]
      split at h <;> cases h <;> simp [scEq, A0]
     ·cases h
 | [], [], _ :: _, _, h => by simp [eqL] at h
 | [], _ :: _, _, _, h => by simp [eqL] at h
 | _ :: _, [], _, _, h => by simp [eqL] at h
 | _ :: _, _ :: _, [], _, h => by simp [eqL] at h
 | _ :: _, .any :: _, _ :: _, _, h => by simp [eqL] at h
 | _ :: _, .agg _ :: _, _ :: _, _, h => by simp [eqL] at h
 | _ :: _, .tup _ :: _, _ :: _, _, h => by simp [eqL] at h
 | _ :: _, .ref _ _ _ :: _, _ :: _, _, h => by simp [eqL] at h
 | _ :: _, .cref _ :: _, _ :: _, _, h => by simp [eqL] at h
 | _ :: _, .view _ _ _ _ _ :: _, _ :: _, _, h => by simp [eqL] at h
 | _ :: _, .fn _ _ :: _, _ :: _, _, h => by simp [eqL] at h
 | _ :: _, .d (.slc _ _) :: _, _ :: _, _, h => by simp [eqL] at h
 | _ :: _, .d (.sc _) :: _, .any :: _, _, h => by simp [eqL] at h
 | _ :: _, .d (.sc _) :: _, .agg _ :: _, _, h => by simp [eqL] at h
 | _ :: _, .d (.sc _) :: _, .tup _ :: _, _, h => by simp [eqL] at h
 | _ :: _, .d (.sc _) :: _, .ref _ _ _ :: _, _, h => by simp [eqL] at h
 | _ :: _, .d (.sc _) :: _, .cref _ :: _, _, h => by simp [eqL] at h
 | _ :: _, .d (.sc _) :: _, .view _ _ _ _ _ :: _, _, h => by simp [eqL] at h
 | _ :: _, .d (.sc _) :: _, .fn _ _ :: _, _, h => by simp [eqL] at h
 | _ :: _, .d (.sc _) :: _, .d (.slc _ _) :: _, _, h => by simp [eqL] at h
def intV (A : Ar) (op : BinOp) (k k' : IntKind) (a b : Int) : RV :=
 match op with
 | .add => some ([k = k'], .d (.sc (.int k (A.bin .add k a b))))
 | .sub => some ([k = k'], .d (.sc (.int k (A.bin .sub k a b))))
 | .mul => some ([k = k'], .d (.sc (.int k (A.bin .mul k a b))))
 | .quo => some ([k = k', A.nz b], .d (.sc (.int k (A.bin .quo k a b))))
 | .rem => some ([k = k', A.nz b], .d (.sc (.int k (A.bin .rem k a b))))
 | .and => some ([k = k'], .d (.sc (.int k (A.bin .and k a b))))
 | .or => some ([k = k'], .d (.sc (.int k (A.bin .or k a b))))
 | .xor => some ([k = k'], .d (.sc (.int k (A.bin .xor k a b))))
 | .shl => some ([A.nn b], .d (.sc (.int k (A.bin .shl k a b))))
 | .shr => some ([A.nn b], .d (.sc (.int k (A.bin .shr k a b))))
 | .eql => some ([k = k'], .d (.sc (.bool (A.cmp .eql a b))))
 | .neq => some ([k = k'], .d (.sc (.bool (A.cmp .neq a b))))
 | .lss => some ([k = k'], .d (.sc (.bool (A.cmp .lss a b))))
 | .leq => some ([k = k'], .d (.sc (.bool (A.cmp .leq a b))))
 | .gtr => some ([k = k'], .d (.sc (.bool (A.cmp .gtr a b))))
 | .geq => some ([k = k'], .d (.sc (.bool (A.cmp .geq a b))))
 | _ => none
theorem intV_D {op : BinOp} {k k' : IntKind} {a b : Int} {cs : List Prop} {d : DV} (h : intV A0 op k k' a b = some (cs, d)) (hc : allP cs True) {K : DV → Prop} (hk : K d) : intBin op k k' a b K := by
 unfold intV at h
 unfold intBin
 split at h <;> cases h <;> first
  | exact ⟨hc.1, hk⟩
  | exact ⟨hc.1, hc.2.1, hk⟩
def strV (A : Ar) (op : BinOp) (a b : ByteArray) : RV :=
 match op with
 | .add => some ([A.fit a b], .d (.sc (.string (A.cat a b))))
 | .eql => some ([], .d (.sc (.bool (A.scmp .eql a b))))
 | .neq => some ([], .d (.sc (.bool (A.scmp .neq a b))))
 | .lss => some ([], .d (.sc (.bool (A.scmp .lss a b))))
 | .leq => some ([], .d (.sc (.bool (A.scmp .leq a b))))
 | .gtr => some ([], .d (.sc (.bool (A.scmp .gtr a b))))
 | .geq => some ([], .d (.sc (.bool (A.scmp .geq a b))))
 | _ => none
theorem strV_D {op : BinOp} {a b : ByteArray} {cs : List Prop} {d : DV} (h : strV A0 op a b = some (cs, d)) (hc : allP cs True) {K : DV → Prop} (hk : K d) : strBin op a b K := by
 unfold strV at h
 unfold strBin
 split at h <;> cases h <;> first
  | exact hk
  | exact ⟨hc.1, hk⟩
def eqV2 (A : Ar) (op : BinOp) (b : Bool) : RV :=
 match op with
 | .eql => some ([], .d (.sc (.bool b)))
 | .neq => some ([], .d (.sc (.bool (A.not b))))
 | _ => none
theorem eqV2_D {op : BinOp} {b : Bool} {cs : List Prop} {d : DV} (h : eqV2 A0 op b = some (cs, d)) {K : DV → Prop} (hk : K d) : eqK op b K := by
 unfold eqV2 at h
 unfold eqK
 split at h <;> cases h <;> exact hk
def binV (T : Unit → Tab) (A : Ar) (st : Store) (op : BinOp) (t : Nat) (x y : DV) : RV :=
 match x, y with
 | .d (.sc (.int k a)), .d (.sc (.int k' b)) => intV A op k k' a b
 | .d (.sc (.string a)), .d (.sc (.string b)) => strV A op a b
 | .d (.sc (.bool a)), .d (.sc (.bool b)) => bif (T ()).bool t then eqV2 A op (A.beq a b) else none
 | .agg cs, .agg ds => match (T ()).kinds t with
   | some ks => match eqL A ks cs ds with
     | some b => eqV2 A op b
     | none => none
   | none => none
 | .d (.sc (.slice none 0 0)), .d (.sc (.slice none 0 0)) => match (T ()).sl t with
   | some _ => eqV2 A op true
   | none => none
 | .view _ b ver _ _, .d (.sc (.slice none 0 0)) => match (T ()).sl t, st[b]?, eqV2 A op false with
   | some _, some bx, some (cs, d) => some (A.same bx.ver ver :: cs, d)
   | _, _, _ => none
 | .d (.slc _ (_ :: _)), .d (.sc (.slice none 0 0)) => match (T ()).sl t with
   | some _ => eqV2 A op false
   | none => none
 | .d (.sc (.pointer none)), .d (.sc (.pointer none)) => bif (T ()).ptr t then eqV2 A op true else none
 | .ref b ver _, .d (.sc (.pointer none)) => match st[b]? with
   | some bx => bif (bx.ver == ver) && (T ()).ptr t then eqV2 A op false else none
   | none => none
 | _, _ => none
theorem binV_D {P : Program} {T : Unit → Tab} (hT : TabOk P (T ())) {st : Store} {op : BinOp} {t : Nat} {x y : DV} {cs : List Prop} {d : DV} (h : binV T A0 st op t x y = some (cs, d)) (hc : allP cs True) {K : DV → Prop} (hk : K d) : binD P st op t x y K := by
 unfold binV at h
 split at h
 ·exact intV_D h hc hk
 ·exact strV_D h hc hk
 ·cases hh : (T ()).bool t
  ·rw [hh] at h; cases h
  ·rw [hh] at h
   exact ⟨hT.bool _ hh, eqV2_D h hk⟩
 ·split at h
  ·rename_i ks hks
   obtain ⟨h1, h2, h3⟩ := hT.kinds _ _ hks
   split at h
   ·rename_i b hb
    refine ⟨h1, h2, ?_⟩
    simp only [h3, eqL_D _ _ _ _ hb]
    exact eqV2_D h hk
   ·cases h
  ·cases h
 ·split at h
  ·rename_i ht
   exact ⟨by rw [hT.sl _ _ ht]; rfl, eqV2_D h hk⟩
  ·cases h
 ·rename_i sz b ver o n
  split at h
  ·rename_i bx cs' d' ht hb h'
   cases h
   refine ⟨?_, by rw [hT.sl _ _ ht]; rfl, eqV2_D h' hk⟩
   have h1 : bx.ver = ver := hc.1
   simp only [notNil, hb]
   simpa using h1
  ·cases h
 ·split at h
  ·rename_i ht
   exact ⟨rfl, by rw [hT.sl _ _ ht]; rfl, eqV2_D h hk⟩
  ·cases h
 ·cases hh : (T ()).ptr t
  ·rw [hh] at h; cases h
  ·rw [hh] at h
   obtain ⟨e, he⟩ := hT.ptr _ hh
   refine ⟨?_, eqV2_D h hk⟩
   simp only [he]
 ·rename_i b ver o
  split at h
  ·rename_i bx hb
   cases hh : ((bx.ver == ver) && (T ()).ptr t)
   ·rw [hh] at h; cases h
   ·rw [hh] at h
    simp only [Bool.and_eq_true] at hh
    obtain ⟨e, he⟩ := hT.ptr _ hh.2
    refine ⟨?_, ?_, eqV2_D h hk⟩
    ·simp only [notNilP, hb]
     simpa using eqb hh.1
    ·simp only [he]
  ·cases h
 ·cases h
end Go.Proofs.Ytadnpgkddgbhkaa
