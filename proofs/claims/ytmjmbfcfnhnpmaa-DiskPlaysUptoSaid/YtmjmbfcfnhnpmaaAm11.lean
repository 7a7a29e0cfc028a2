/- The program logic, eleventh part: rows of operations, regions in the text's order and in any order. No condition: lemmas of any program. -/
import Derived.Test.YtmjmbfcfnhnpmaaAm10
namespace Go.Proofs.Ytmjmbfcfnhnpmaa
open Go.RowKit
set_option linter.all false
noncomputable def putS (dst : Option Nat) (d : DV) (s : Slots) : Slots := match dst with
  | none => s
  | some i => upd s i d
def slotOf (ops : Array Oper) (j : Nat) : Option Nat := (ops[j]?).bind (·.dst)
/-- Is the operation wanted? -/
def wantedD (ops : Array Oper) (g : Option (Nat × Bool)) (s : Slots) : Option Bool :=
  match g with
  | none => some true
  | some (j, w) => match slotOf ops j with
    | none => some false
    | some k => match s k with
      | .d (.sc (.bool t)) => some (t == w)
      | .d (.sc (.tuple _)) => some false
      | _ => none
def dstOk (N : Nat) (dst : Option Nat) : Prop := match dst with
  | none => True
  | some i => i < N
/-- One operation with its guard and its slot. -/
def stepD (P : Program) (N : Nat) (ops : Array Oper) (o : Oper) (s : Slots) (st : Store) (K : Slots → Store → Prop) : Prop :=
  match wantedD ops o.guard s with
  | some true => dstOk N o.dst ∧ opD P o.op s st fun d st' => K (putS o.dst d s) st'
  | some false => dstOk N o.dst ∧ K (putS o.dst (.d (.sc undef)) s) st
  | none => False
theorem SlotsOk.putS {E : Env} {N : Nat} {s : Slots} {a : Act} (h : SlotsOk E N s a) {dst : Option Nat} (hd : dstOk N dst) {d : DV} {v : Value} (hv : Rep E d v) : SlotsOk E N (Go.Proofs.Ytmjmbfcfnhnpmaa.putS dst d s) (a.put dst v) := by
  cases dst with
  | none => exact h.put' v
  | some i => exact h.put hd hv
theorem wantedD_spec {E : Env} {N : Nat} {s : Slots} {a : Act} (h : SlotsOk E N s a) {ops : Array Oper} {o : Oper} {b : Bool} (hw : wantedD ops o.guard s = some b) : Region.wanted o (yielded ops a.tmps) = b := by
  unfold wantedD at hw
  unfold Region.wanted yielded
  split at hw
  · rename_i hg
    rw [hg]
    cases hw
    rfl
  · rename_i j w hg
    rw [hg]
    simp only
    unfold slotOf at hw
    split at hw
    · rename_i hs
      rw [hs]
      cases hw
      rfl
    · rename_i k hs
      rw [hs]
      simp only [Option.bind_some]
      have hk := h.rep k
      split at hw
      · rename_i t ht
        rw [ht] at hk
        simp only [Rep, RepP] at hk
        cases hw
        rw [Array.getD_eq_getD_getElem?] at hk
        cases hq : a.tmps[k]? with
        | none => rw [hq] at hk; cases hk
        | some u =>
          rw [hq] at hk
          simp only [Option.getD_some] at hk
          subst hk
          cases t <;> cases w <;> rfl
      · rename_i vs ht
        rw [ht] at hk
        simp only [Rep, RepP] at hk
        cases hw
        rw [Array.getD_eq_getD_getElem?] at hk
        cases hq : a.tmps[k]? with
        | none => rfl
        | some u =>
          rw [hq] at hk
          simp only [Option.getD_some] at hk
          subst hk
          rfl
      · cases hw
/-- What a step comes to. -/
theorem step_ok {P : Program} {E : Env} {N : Nat} {s : Slots} {a : Act} {ops : Array Oper} (hc : Conc E) (hs : SlotsOk E N s a) (o : Oper) {K : Slots → Store → Prop} (h : stepD P N ops o s E.st K) {next : Act → World → Prop} {Q : Exit → Act → World → Prop}
    (hn : ∀ (s' : Slots) (a' : Act) (E' : Env), K s' E'.st → Conc E' → Ext E E' → SlotsOk E' N s' a' → next a' E'.w) :
    if Region.wanted o (yielded ops a.tmps) then o.wp P a E.w next Q ∨ (o.asks P a E.w ∧ LetsOut Q) else next (a.put o.dst undef) E.w := by
  unfold stepD at h
  split at h
  · rename_i hw
    rw [wantedD_spec hs hw, if_pos rfl]
    refine .inl (op_ok hc hs o h.2 fun d v E' hk h1 h2 h3 => hn _ _ E' hk h1 h2 ((hs.ext hc h2).putS h.1 h3))
  · rename_i hw
    rw [wantedD_spec hs hw, if_neg (by simp)]
    exact hn _ _ E h.2 hc (Ext.refl E) (hs.putS h.1 rfl)
  · exact h.elim
/-- The operations in any order that their edges allow. -/
def anyD (P : Program) (N : Nat) (ops : Array Oper) (Q : Slots → Store → Prop) : Nat → Array Bool → Slots → Store → Prop
  | 0, listed, s, st => Region.ready .any ops listed = [] ∧ Q s st
  | fuel + 1, listed, s, st => (Region.ready .any ops listed = [] → Q s st) ∧
      ∀ i ∈ Region.ready .any ops listed, match ops[i]? with
        | none => anyD P N ops Q fuel (listed.setIfInBounds i true) s st
        | some o => stepD P N ops o s st (anyD P N ops Q fuel (listed.setIfInBounds i true))
theorem any_ok {P : Program} {N : Nat} {ops : Array Oper} {Q : Exit → Act → World → Prop} {K : Slots → Store → Prop} : ∀ (fuel : Nat) (listed : Array Bool) (s : Slots) (E : Env) (a : Act), Conc E → SlotsOk E N s a → anyD P N ops K fuel listed s E.st →
    (∀ (s' : Slots) (a' : Act) (E' : Env), K s' E'.st → Conc E' → Ext E E' → SlotsOk E' N s' a' → Q .normal a' E'.w) → wpAny P .any ops Q fuel listed a E.w
  | 0, listed, s, E, a, hc, hs, h, hn => ⟨h.1, hn s a E h.2 hc (Ext.refl E) hs⟩
  | fuel + 1, listed, s, E, a, hc, hs, h, hn => by
      refine ⟨fun h0 => hn s a E (h.1 h0) hc (Ext.refl E) hs, fun i hi => ?_⟩
      have hstep := h.2 i hi
      unfold wpOp
      cases ho : ops[i]? with
      | none =>
        rw [ho] at hstep
        exact any_ok fuel _ s E a hc hs hstep hn
      | some o =>
        rw [ho] at hstep
        exact step_ok (P := P) (Q := Q) (ops := ops) (next := wpAny P .any ops Q fuel (listed.setIfInBounds i true)) hc hs o hstep fun s' a' E' hk h1 h2 h3 =>
          any_ok fuel _ s' E' a' h1 h3 hk fun s2 a2 E2 k1 k2 k3 k4 => hn s2 a2 E2 k1 k2 (Ext.trans hc.len h1.len h2 k3) k4
/-- In these slots, with these boxes, the operation yields this and turns nothing. -/
def Yld (P : Program) (ops : Array Oper) (o : Oper) (s : Slots) (st : Store) (d : DV) : Prop :=
  (wantedD ops o.guard s = some true ∧ ∀ K : DV → Store → Prop, K d st → opD P o.op s st K) ∨ (wantedD ops o.guard s = some false ∧ d = .d (.sc undef))
def anyP (P : Program) (N : Nat) (ops : Array Oper) (st : Store) (Q : Slots → Prop) : Nat → Array Bool → Slots → Prop
  | 0, listed, s => Region.ready .any ops listed = [] ∧ Q s
  | fuel + 1, listed, s => (Region.ready .any ops listed = [] → Q s) ∧
      ∀ i ∈ Region.ready .any ops listed, ∀ o, ops[i]? = some o → ∃ d, Yld P ops o s st d ∧ dstOk N o.dst ∧ anyP P N ops st Q fuel (listed.setIfInBounds i true) (putS o.dst d s)
theorem ready_some {ops : Array Oper} {listed : Array Bool} {i : Nat} (h : i ∈ Region.ready .any ops listed) : ∃ o, ops[i]? = some o := by
  obtain ⟨_, o, ho, _⟩ := mem_ready.1 h
  exact ⟨o, ho⟩
theorem anyD_of_pure {P : Program} {N : Nat} {ops : Array Oper} {st : Store} {Q : Slots → Store → Prop} : ∀ (fuel : Nat) (listed : Array Bool) (s : Slots), anyP P N ops st (fun s => Q s st) fuel listed s → anyD P N ops Q fuel listed s st
  | 0, _, _, h => h
  | fuel + 1, listed, s, h => by
      refine ⟨h.1, fun i hi => ?_⟩
      obtain ⟨o, ho⟩ := ready_some hi
      obtain ⟨d, hy, hd, hK⟩ := h.2 i hi o ho
      rw [ho]
      have ih := anyD_of_pure fuel _ _ hK
      rcases hy with ⟨hw, hy⟩ | ⟨hw, rfl⟩
      · simp only [stepD, hw]
        exact ⟨hd, hy _ ih⟩
      · simp only [stepD, hw]
        exact ⟨hd, ih⟩
theorem ev_put {s : Slots} {dst : Option Nat} {d : DV} {x : Operand} (h : ∀ t, dst = some t → x ≠ .tmp t) : ev (putS dst d s) x = ev s x := by
  cases dst with
  | none => rfl
  | some i =>
    cases x with
    | tmp t =>
      have : t ≠ i := fun e => h i rfl (by rw [e])
      simp [ev, putS, upd_eq, this]
    | const v => rfl
    | global g => rfl
    | func f => rfl
theorem callD_congr {P : Program} {c : Call} {s s' : Slots} {st : Store} {K : DV → Store → Prop} (h : ∀ x ∈ c.operands, ev s x = ev s' x) : callD P c s st K = callD P c s' st K := by
  have hargs : ∀ x ∈ c.args.toList, ev s x = ev s' x := fun x hx => h x (by simp only [Call.operands]; exact Array.mem_append.2 (.inr (Array.mem_toList_iff.1 hx)))
  have hmap : c.args.toList.map (ev s) = c.args.toList.map (ev s') := List.map_congr_left hargs
  obtain ⟨callee, args, tys⟩ := c
  cases callee with
  | invoke r m => rfl
  | value f =>
    cases f with
    | func f => simp only [callD, hmap]
    | const v => rfl
    | global g => rfl
    | tmp t =>
      have ht : s t = s' t := h (.tmp t) (by simp [Call.operands])
      simp only [callD, hmap, ht]
  | builtin b =>
    obtain ⟨l⟩ := args
    obtain ⟨ts⟩ := tys
    simp only at hargs
    clear h hmap
    rcases l with _ | ⟨x, _ | ⟨y, _ | ⟨z, l⟩⟩⟩
    · cases b <;> rfl
    · have hx := hargs x (by simp)
      rcases ts with _ | ⟨t, _ | ⟨u, ts⟩⟩ <;> cases b <;> first | rfl | simp only [callD, hx]
    · have hx := hargs x (by simp)
      have hy := hargs y (by simp)
      rcases ts with _ | ⟨t, _ | ⟨u, _ | ⟨v, ts⟩⟩⟩ <;> cases b <;> first | rfl | simp only [callD, hx, hy]
    · cases b <;> rfl
theorem opD_congr {P : Program} {o : Op} {s s' : Slots} {st : Store} {K : DV → Store → Prop} (h : ∀ x ∈ o.operands, ev s x = ev s' x) : opD P o s st K = opD P o s' st K := by
  cases o
  case call c => exact callD_congr h
  case slice t x lo hi mx =>
    simp only [Op.operands, Array.mem_append, Array.mem_singleton, List.mem_toArray] at h
    have hx := h x (by simp)
    have hlo : lo.map (ev s) = lo.map (ev s') := by
      cases lo with
      | none => rfl
      | some l => simp only [Option.map_some, Option.some.injEq]; exact h l (by simp)
    have hhi : hi.map (ev s) = hi.map (ev s') := by
      cases hi with
      | none => rfl
      | some l => simp only [Option.map_some, Option.some.injEq]; exact h l (by simp)
    cases mx with
    | none => simp only [opD, hx, hlo, hhi]
    | some m =>
      have hm := h m (by simp)
      cases hi with
      | none => rfl
      | some hi =>
        have hh := h hi (by simp)
        simp only [opD, hx, hlo, hm, hh]
  case build t parts =>
    have : (parts.toList.map fun p => (p.1, ev s p.2)) = parts.toList.map fun p => (p.1, ev s' p.2) := List.map_congr_left fun p hp => by
      rw [h p.2 (by simp only [Op.operands, List.mem_toArray, List.mem_map]; exact ⟨p, hp, rfl⟩)]
    simp only [opD, this]
  case buildSlice t len parts =>
    have : (parts.toList.map fun p => (p.1, ev s p.2)) = parts.toList.map fun p => (p.1, ev s' p.2) := List.map_congr_left fun p hp => by
      rw [h p.2 (by simp only [Op.operands, List.mem_toArray, List.mem_map]; exact ⟨p, hp, rfl⟩)]
    simp only [opD, this]
  case makeFunc fn first captured =>
    have : captured.toList.map (ev s) = captured.toList.map (ev s') := List.map_congr_left fun p hp => h p (by simp only [Op.operands, Array.mem_append]; exact .inr (Array.mem_toList_iff.1 hp))
    cases fn <;> simp only [opD, this]
  all_goals first
    | rfl
    | (simp only [Op.operands, List.mem_toArray, List.mem_cons, List.not_mem_nil, or_false, forall_eq_or_imp, forall_eq] at h; simp only [opD, h])
end Go.Proofs.Ytmjmbfcfnhnpmaa
