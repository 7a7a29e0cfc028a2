/- The program logic, tenth part: one operation, a row of them, a region. No condition: lemmas of any program. -/
import Derived.Test.YtligainhbdidgaaAm9
import Derived.Still
namespace Go.Proofs.Ytligainhbdidgaa
open Go.RowKit
set_option linter.all false

def hasBody (P : Program) (f : FuncId) : Bool := match P.funcs[f]? with
  | some fn => fn.name != "runtime.NumGoroutine" && fn.body.isSome
  | none => false
theorem callFunc_run {P : Program} {f : FuncId} (h : hasBody P f = true) (args : Array Value) (w : World) : (callFunc f args).run P w = .ok (.enter f args) w := by
  unfold hasBody at h
  split at h
  · rename_i fn hf
    simp only [Bool.and_eq_true, bne_iff_ne, ne_eq] at h
    cases hq : fn.body with
    | none => simp [hq] at h
    | some c => simp [callFunc, hf, h.1, hq]
  · cases h

/-- The builtin copy, where all that is copied fits. -/
def copyD (P : Program) (st : Store) (t u : TypeId) (dst src : DV) (K : DV → Store → Prop) : Prop :=
  match slD P t, dst with
  | some (_, sz), .view sz' b ver o n => match st[b]?, srcD P st sz u src with
    | some bx, some (ds, m) => sz' = sz ∧ ver = bx.ver ∧ bx.live = true ∧ (slD P u).isSome = true ∧ m ≤ n ∧ o + ds.length ≤ bx.cells.length ∧ K (.d (.sc (.int .i64 m))) (st.set b { bx with cells := splice bx.cells o ds })
    | _, _ => False
  | _, _ => False
theorem copy_ok {P : Program} {E : Env} (hc : Conc E) {t u ty : TypeId} {s x : DV} {v vx : Value} (hs : Rep E s v) (hx : Rep E x vx) {K : DV → Store → Prop} (h : copyD P E.st t u s x K) :
    Ends P E (Builtin.copy_ #[t, u] ty #[v, vx]) K := by
  unfold copyD at h
  split at h
  · rename_i e sz sz' b ver o n hsl
    split at h
    · rename_i bx ds m hb' hsrc
      obtain ⟨rfl, rfl, hl, hsu, hmn, hfit, h⟩ := h
      obtain ⟨hu, ⟨i, hi, hisz⟩, hsz⟩ := slD_spec hsl
      obtain ⟨bx', gz, hb, hg, hone, hle, hv⟩ := hs
      rw [hb] at hb'
      cases hb'
      obtain ⟨c, rfl, hnc, hcm, hcz⟩ := hv rfl
      obtain ⟨vs, g1, g2, g3⟩ := srcD_spec hc hx hsrc
      have hone' := g1.2.1
      have hvl := g1.1
      obtain ⟨E', r1, r2, r3, r4, r5, r6⟩ := write_ok hc hb hg hl g2 hone' (o := o) hfit P
      have hmin : Nat.min m n = m := Nat.min_eq_left hmn
      refine ⟨.int .i64 m, E', .d (.sc (.int .i64 m)), ?_, by rw [r2]; exact h, r5, r6, rfl⟩
      rcases g1.2.2 with ⟨a, c', rfl, hcells⟩ | ⟨rfl, rfl⟩ | ⟨str, rfl, hm, h1, hstr⟩
      · have hld := run_loadCells_list (P := P) E.w a vs hcells
        rw [hvl] at hld
        simp [Builtin.copy_, run_underlying hu, Builtin.lenOf, Builtin.firstCells, sizeOf, typeInfo, hi, hisz, hmin, hld, r1]
        rfl
      · have hv0 : vs = [] := List.eq_nil_of_length_eq_zero (by omega)
        subst hv0
        simp [Builtin.copy_, run_underlying hu, Builtin.lenOf, Builtin.firstCells, sizeOf, typeInfo, hi, hisz, r1]
        first | rfl | fail
      · rcases g3 with ⟨s', _, hs'⟩ | ⟨e', _, g4⟩
        · obtain ⟨e2, he2⟩ := slD_some hsu
          rw [he2] at hs'
          cases hs'
        · exact absurd rfl (g4 str)
    · exact h.elim
  · exact h.elim
/-- A call. -/
def callD (P : Program) (c : Call) (s : Slots) (st : Store) (K : DV → Store → Prop) : Prop :=
  match c.callee, c.args.toList, c.argTypes.toList with
  | .builtin .len, [x], [t] => lenD P st t (ev s x) fun d => K d st
  | .builtin .append, [x, y], [t, u] => appendD P st t u (ev s x) (ev s y) K
  | .builtin .copy, [x, y], [t, u] => copyD P st t u (ev s x) (ev s y) K
  | .builtin .max, [x, y], _ => mmD true (ev s x) (ev s y) fun d => K d st
  | .builtin .min, [x, y], _ => mmD false (ev s x) (ev s y) fun d => K d st
  | .value (.func f), args, _ => hasBody P f = true ∧ FnD P f (args.map (ev s)) st K
  | .value (.tmp t), args, _ => match s t with
    | .fn f caps => hasBody P f = true ∧ FnD P f (args.map (ev s) ++ caps) st K
    | _ => False
  | _, _, _ => False
/-- One operation. -/
def opD (P : Program) (o : Op) (s : Slots) (st : Store) (K : DV → Store → Prop) : Prop :=
  match o with
  | .move x => K (ev s x) st
  | .assign x => K (ev s x) st
  | .pick c a b => pickD (ev s c) (ev s a) (ev s b) fun d => K d st
  | .alloc t => allocD P st t K
  | .box t x => boxD st t (ev s x) K
  | .build t parts => buildD P t (parts.toList.map fun p => (p.1, ev s p.2)) fun d => K d st
  | .buildSlice t len parts => buildSliceD P st t len (parts.toList.map fun p => (p.1, ev s p.2)) K
  | .load t a => loadD P st t (ev s a) fun d => K d st
  | .store t a x => storeD P st t (ev s a) (ev s x) fun st' => K (.d (.sc undef)) st'
  | .nilCheck x => isRefD st (ev s x) = true ∧ K (ev s x) st
  | .binOp op t x y _ => binD P st op t (ev s x) (ev s y) fun d => K d st
  | .unOp op _ x => unD op (ev s x) fun d => K d st
  | .convert src dst x => convD P src dst (ev s x) fun d => K d st
  | .makeSlice t l c => makeD P st t (ev s l) (ev s c) K
  | .slice t x lo hi none => sliceD P st t (ev s x) (lo.map (ev s)) (hi.map (ev s)) fun d => K d st
  | .fieldAddr t x f => fieldAddrD P st t (ev s x) f fun d => K d st
  | .field t x f => fieldVD P t (ev s x) f fun d => K d st
  | .indexAddr t x i => indexAddrD P st t (ev s x) (ev s i) fun d => K d st
  | .index t x i => indexD P t (ev s x) (ev s i) fun d => K d st
  | .extract x i => extractD (ev s x) i fun d => K d st
  | .makeFunc (.func f) first captured => first.toList = [] ∧ K (.fn f (captured.toList.map (ev s))) st
  | .call c => callD P c s st K
  | _ => False

theorem evs_rep {E : Env} {N : Nat} {s : Slots} {a : Act} (h : SlotsOk E N s a) : ∀ xs : List Operand, Reps E (xs.map (ev s)) (xs.map a.eval)
  | [] => trivial
  | x :: xs => ⟨ev_rep h x, evs_rep h xs⟩

/-- What an operation comes to. -/
theorem op_ok {P : Program} {E : Env} {N : Nat} {s : Slots} {a : Act} (hc : Conc E) (hs : SlotsOk E N s a) (o : Oper) {K : DV → Store → Prop} (h : opD P o.op s E.st K) {next : Act → World → Prop} {Q : Exit → Act → World → Prop}
    (hn : ∀ (d : DV) (v : Value) (E' : Env), K d E'.st → Conc E' → Ext E E' → Rep E' d v → next (a.put o.dst v) E'.w) : o.wp P a E.w next Q := by
  have val : ∀ {c : Sem Value}, (execOp a.eval o = (do pure (.value (← c)) : Sem Next)) → Ends P E c K → o.wp P a E.w next Q := by
    intro c he ⟨v, E', d, h1, h2, h3, h4, h5⟩
    unfold Oper.wp
    rw [he]
    simp only [Sem.run_bind, h1, Result.andThen_ok, Sem.run_pure, Oper.upon]
    exact hn d v E' h2 h3 h4 h5
  unfold opD at h
  split at h
  · rename_i x ho
    exact val (c := pure (a.eval x)) (by simp only [execOp, ho, pure_bind]) (Ends.pure hc ⟨_, _, rfl, h, ev_rep hs x⟩)
  · rename_i x ho
    exact val (c := pure (a.eval x)) (by simp only [execOp, ho, pure_bind]) (Ends.pure hc ⟨_, _, rfl, h, ev_rep hs x⟩)
  · rename_i c x y ho
    obtain ⟨q, d, h1, h2, h3⟩ := pick_ok (P := P) (ev_rep hs c) (ev_rep hs x) (ev_rep hs y) h
    unfold Oper.wp
    simp only [execOp, ho]
    rw [h1]
    exact hn d q E h2 hc (Ext.refl E) h3
  · rename_i t ho
    exact val (by simp only [execOp, ho]) (alloc_ok hc h)
  · rename_i t x ho
    exact val (by simp only [execOp, ho]) (box_ok hc (ev_rep hs x) h)
  · rename_i t parts ho
    refine val (c := Instr.build t (parts.map fun p => (p.1, a.eval p.2))) (by simp only [execOp, ho]) (Ends.pure hc ?_)
    have := build_ok (P := P) (E := E) (t := t) (parts := parts.toList.map fun p => (p.1, ev s p.2)) (vparts := parts.toList.map fun p => (p.1, a.eval p.2)) (by simp) (fun j p q hp hq => by
      rw [List.getElem?_map] at hp hq
      cases hj : parts.toList[j]? with
      | none => rw [hj] at hp; cases hp
      | some r =>
        rw [hj] at hp hq
        simp only [Option.map_some, Option.some.injEq] at hp hq
        subst hp; subst hq
        exact ⟨rfl, ev_rep hs r.2⟩) h
    have he : (parts.toList.map fun p => (p.1, a.eval p.2)).toArray = parts.map fun p => (p.1, a.eval p.2) := by apply Array.ext'; simp
    rwa [he] at this
  · rename_i t len parts ho
    refine val (c := Instr.buildSlice t len (parts.map fun p => (p.1, a.eval p.2))) (by simp only [execOp, ho]) ?_
    have := buildSlice_ok (P := P) hc (t := t) (len := len) (parts := parts.toList.map fun p => (p.1, ev s p.2)) (vparts := parts.toList.map fun p => (p.1, a.eval p.2)) (by simp) (fun j p q hp hq => by
      rw [List.getElem?_map] at hp hq
      cases hj : parts.toList[j]? with
      | none => rw [hj] at hp; cases hp
      | some r =>
        rw [hj] at hp hq
        simp only [Option.map_some, Option.some.injEq] at hp hq
        subst hp; subst hq
        exact ⟨rfl, ev_rep hs r.2⟩) h
    have he : (parts.toList.map fun p => (p.1, a.eval p.2)).toArray = parts.map fun p => (p.1, a.eval p.2) := by apply Array.ext'; simp
    rwa [he] at this
  · rename_i t x ho
    exact val (by simp only [execOp, ho]) (Ends.pure hc (load_ok hc (ev_rep hs x) h))
  · rename_i t x y ho
    obtain ⟨E', h1, h2, h3, h4⟩ := store_ok hc (ev_rep hs x) (ev_rep hs y) h
    unfold Oper.wp
    simp only [execOp, ho, Sem.run_bind, h1, Result.andThen_ok, Sem.run_pure, Oper.upon]
    exact hn _ undef E' h2 h3 h4 rfl
  · rename_i x ho
    obtain ⟨hr, h⟩ := h
    have hx := ev_rep hs x
    refine val (c := pure (a.eval x)) ?_ (Ends.pure hc ⟨_, _, rfl, h, hx⟩)
    unfold isRefD at hr
    simp only [execOp, ho, pure_bind]
    split at hr
    · rename_i b ver o' heq
      rw [heq] at hx
      obtain ⟨bx, gz, hb, _, _, _, hv⟩ := hx
      split at hr
      · rename_i bx' hb'
        rw [hb] at hb'; cases hb'
        rw [hv (by simpa using (beq_iff_eq.1 hr).symm)]
      · cases hr
    · rename_i cs heq
      rw [heq] at hx
      obtain ⟨ad, hv, _⟩ := hx
      rw [hv]
    · rename_i f caps heq
      rw [heq] at hx
      obtain ⟨vs, hv, _⟩ := hx
      rw [hv]
    · cases hr
  · rename_i op t x y _ ho
    exact val (c := do eqGuard op t x y (a.eval x) (a.eval y); binOp op t (a.eval x) (a.eval y)) (by simp only [execOp, ho]) (Ends.pure hc (bin_ok (ev_rep hs x) (ev_rep hs y) x y h))
  · rename_i op _ x ho
    exact val (by simp only [execOp, ho]) (Ends.pure hc (un_ok (ev_rep hs x) h))
  · rename_i src dst x ho
    exact val (by simp only [execOp, ho]) (Ends.pure hc (conv_ok (ev_rep hs x) h))
  · rename_i t l c ho
    exact val (by simp only [execOp, ho]) (make_ok hc (ev_rep hs l) (ev_rep hs c) h)
  · rename_i t x lo hi ho
    exact val (c := Instr.sliceAt t (a.eval x) (lo.map a.eval) (hi.map a.eval) none) (by simp only [execOp, ho, Option.map_none]) (Ends.pure hc (slice_ok (ev_rep hs x) (by cases lo with
      | none => trivial
      | some l => exact ev_rep hs l) (by cases hi with
      | none => trivial
      | some l => exact ev_rep hs l) h))
  · rename_i t x f ho
    exact val (by simp only [execOp, ho]) (Ends.pure hc (fieldAddr_ok (ev_rep hs x) h))
  · rename_i t x f ho
    refine val (c := Instr.field t (a.eval x) f) (by simp only [execOp, ho]) (Ends.pure hc ?_)
    unfold fieldVD at h
    have hx := ev_rep hs x
    split at h
    · rename_i fs cs hu heq
      rw [heq] at hx
      obtain ⟨vs, hv, hone, hR⟩ := hx
      split at h
      · rename_i fl hfl
        obtain ⟨u, d, h1, h2, h3⟩ := part_ok hR hone h
        exact ⟨u, d, by simp only [Instr.field, Sem.run_bind, run_underlying hu, Result.andThen_ok, hfl, hv, asAgg, Sem.run_pure, h1], h2, h3⟩
      · exact h.elim
    · exact h.elim
  · rename_i t x i ho
    exact val (by simp only [execOp, ho]) (Ends.pure hc (indexAddr_ok (ev_rep hs x) (ev_rep hs i) h))
  · rename_i t x i ho
    exact val (by simp only [execOp, ho]) (Ends.pure hc (index_ok (ev_rep hs x) (ev_rep hs i) h))
  · rename_i x i ho
    refine val (c := Instr.extract (a.eval x) i) (by simp only [execOp, ho]) (Ends.pure hc ?_)
    have hx := ev_rep hs x
    unfold extractD at h
    split at h
    · rename_i ds heq
      rw [heq] at hx
      obtain ⟨vs, hv, hR⟩ := hx
      split at h
      · rename_i d hd
        obtain ⟨u, h1, h2⟩ := hR.get _ _ _ _ hd
        exact ⟨u, d, by simp [Instr.extract, hv, h1], h, h2⟩
      · exact h.elim
    · exact h.elim
  · rename_i f first captured ho
    obtain ⟨hf, h⟩ := h
    have hf' : first = #[] := by apply Array.ext'; simpa using hf
    subst hf'
    refine val (c := Instr.makeFunc (.func f) (#[].map a.eval) (captured.map a.eval)) (by simp only [execOp, ho]) (Ends.pure hc ⟨.func (.func f) #[] (captured.toList.map a.eval).toArray, _, ?_, h, _, rfl, evs_rep hs _⟩)
    have he : (captured.toList.map a.eval).toArray = captured.map a.eval := by apply Array.ext'; simp
    rw [he]
    simp [Instr.makeFunc]
  · rename_i c ho
    unfold callD at h
    split at h
    · rename_i x t hcal hargs htys
      refine val (c := Builtin.len_ #[t] o.type #[a.eval x]) ?_ (Ends.pure hc (len_ok (ev_rep hs x) h))
      have ha : c.args = #[x] := by apply Array.ext'; simpa using hargs
      have ht : c.argTypes = #[t] := by apply Array.ext'; simpa using htys
      simp [execOp, ho, resolve, hcal, invoke, builtin, ha, ht]
    · rename_i x y t u hcal hargs htys
      refine val (c := Builtin.append_ #[t, u] o.type #[a.eval x, a.eval y]) ?_ (append_ok hc (ev_rep hs x) (ev_rep hs y) h)
      have ha : c.args = #[x, y] := by apply Array.ext'; simpa using hargs
      have ht : c.argTypes = #[t, u] := by apply Array.ext'; simpa using htys
      simp [execOp, ho, resolve, hcal, invoke, builtin, ha, ht]
    · rename_i x y t u hcal hargs htys
      refine val (c := Builtin.copy_ #[t, u] o.type #[a.eval x, a.eval y]) ?_ (copy_ok hc (ev_rep hs x) (ev_rep hs y) h)
      have ha : c.args = #[x, y] := by apply Array.ext'; simpa using hargs
      have ht : c.argTypes = #[t, u] := by apply Array.ext'; simpa using htys
      simp [execOp, ho, resolve, hcal, invoke, builtin, ha, ht]
    · rename_i x y hcal hargs
      refine val (c := Builtin.max_ c.argTypes o.type #[a.eval x, a.eval y]) ?_ (Ends.pure hc (max_ok (ev_rep hs x) (ev_rep hs y) h))
      have ha : c.args = #[x, y] := by apply Array.ext'; simpa using hargs
      simp [execOp, ho, resolve, hcal, invoke, builtin, ha]
    · rename_i x y hcal hargs
      refine val (c := Builtin.min_ c.argTypes o.type #[a.eval x, a.eval y]) ?_ (Ends.pure hc (min_ok (ev_rep hs x) (ev_rep hs y) h))
      have ha : c.args = #[x, y] := by apply Array.ext'; simpa using hargs
      simp [execOp, ho, resolve, hcal, invoke, builtin, ha]
    · rename_i f hcal
      obtain ⟨hb, h⟩ := h
      have hF := h E _ hc rfl (evs_rep hs c.args.toList)
      have ha : (c.args.toList.map a.eval).toArray = c.args.map a.eval := by apply Array.ext'; simp
      rw [ha] at hF
      unfold Oper.wp
      have he : (execOp a.eval o).run P E.w = .ok (.enter f (c.args.map a.eval)) E.w := by
        simp [execOp, ho, resolve, hcal, invoke, Deferred.ofValue, Act.eval, callFunc_run hb]
      rw [he, Oper.upon_enter]
      refine hF.mono ?_
      rintro e w' ⟨v, E', r, rfl, rfl, h1, h2, h3, h4⟩
      exact hn r v E' h1 h2 h3 h4
    · rename_i t hcal
      split at h
      · rename_i f caps heq
        obtain ⟨hb, h⟩ := h
        have hx := hs.rep t
        rw [heq] at hx
        obtain ⟨vs, hv, hR⟩ := hx
        have hF := h E _ hc rfl (Reps.append _ _ _ _ (evs_rep hs c.args.toList) hR)
        have ha : (c.args.toList.map a.eval ++ vs).toArray = c.args.map a.eval ++ vs.toArray := by apply Array.ext'; simp
        rw [ha] at hF
        unfold Oper.wp
        have he : (execOp a.eval o).run P E.w = .ok (.enter f (c.args.map a.eval ++ vs.toArray)) E.w := by
          have hev : a.eval (.tmp t) = .func (.func f) #[] vs.toArray := hv
          simp [execOp, ho, resolve, hcal, invoke, hev, Deferred.ofValue, callFunc_run hb]
        rw [he, Oper.upon_enter]
        refine hF.mono ?_
        rintro e w' ⟨v, E', r, rfl, rfl, h1, h2, h3, h4⟩
        exact hn r v E' h1 h2 h3 h4
      · exact h.elim
    · exact h.elim
  · exact h.elim
end Go.Proofs.Ytligainhbdidgaa
