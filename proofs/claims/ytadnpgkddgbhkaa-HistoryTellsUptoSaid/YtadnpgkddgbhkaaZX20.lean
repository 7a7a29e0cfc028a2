/- The program logic, twenty-ninth part: the statement of a law out of a contract over plain data. No condition: lemmas of any program. -/
import Derived.Test.YtadnpgkddgbhkaaZX16
import Derived.ProofKit
import Derived.JoinedCond
import Derived.WideKeyArgs
namespace Go.Proofs.Ytadnpgkddgbhkaa
open Go.RowKit Go.ChangeShapes Go.WideShapes Go.ChangeAt
set_option linter.all false
def argD (ag : Bool) (ps : List PD) : DV := match ag with
 | true => .agg (ps.map .d)
 | false => (match ps with
   | [p] => .d p
   | _ => .any)
def argsD : List (Bool × List Sh) → List (List PD) → List DV
 | (ag, _) :: l, ps :: pss => argD ag ps :: argsD l pss
 | _, _ => []
def FitA : List (Bool × List Sh) → List (List PD) → Prop
 | [], pss => pss = []
 | (_, sh) :: l, pss => ∃ ps qss, pss = ps :: qss ∧ FitL sh ps ∧ FitA l qss
def shA (P : Program) : List TypeId → Option (List (Bool × List Sh))
 | [] => some []
 | t :: ts => match P.underlying t, shT P 12 t, shA P ts with
   | some (.struct _), some sh, some r => some ((true, sh) :: r)
   | some (.array _ _), some sh, some r => some ((true, sh) :: r)
   | some (.slice _), some sh, some r => some ((false, sh) :: r)
   | some .bool, some sh, some r => some ((false, sh) :: r)
   | some .string, some sh, some r => some ((false, sh) :: r)
   | some (.int _), some sh, some r => some ((false, sh) :: r)
   | _, _, _ => none
theorem CellsV.reps {E : Env} {ps : List PD} {cs : List Value} (hS : E.S = oldS E.w) (h : CellsV E.w ps cs) : Reps E (ps.map .d) cs ∧ ∀ u ∈ cs, u.oneCell' = true := by
 refine ⟨Reps.of_cells h.1.symm fun j p v hp hv => by rw [hS]; exact (h.2 j p v hp hv).2, fun u hu => ?_⟩
 obtain ⟨j, hj⟩ := List.getElem?_of_mem hu
 have hl := h.1
 have := (List.getElem?_eq_some_iff.1 hj).1
 exact (h.2 j _ u (List.getElem?_eq_getElem (show j < ps.length by omega)) hj).1
theorem open_args {H : Type} {enc : TypeId × Value → H} {P : Program} {E : Env} (hS : E.S = oldS E.w) {spare : Nat → Bool} {held : Bool} : ∀ (ts : List TypeId) (vs : List Value) (ds : List (DataW H)) (ps : List MemPlace) (shs : List (Bool × List Sh)), DataW.TrodAll enc P E.w 0 spare held ts vs ds ps → shA P ts = some shs →
  (∀ (j : Nat) t v, ts[j]? = some t → vs[j]? = some v → ∃ base, Value.okWide P E.w .any base t v) → ∃ pss, FitA shs pss ∧ Reps E (argsD shs pss) vs ∧ wtR pss ≤ Rows.uptoBulkAll ds
 | [], vs, ds, ps, shs, h, hs, _ => by
     simp only [shA, Option.some.injEq] at hs
     subst hs
     cases vs <;> cases ds <;> first
      | exact ⟨[], rfl, trivial, by simp [wtR]⟩
      | exact h.elim
 | t :: ts, vs, ds, ps, shs, h, hs, hok => by
     obtain ⟨v, vs', d, ds', p, q, rfl, rfl, rfl, h1, h2⟩ := trodAll_cons h
     have hokv := hok 0 t v rfl rfl
     have hok' : ∀ (j : Nat) t v, ts[j]? = some t → vs'[j]? = some v → ∃ base, Value.okWide P E.w .any base t v := fun j t v e1 e2 => hok (j + 1) t v (by simpa using e1) (by simpa using e2)
     obtain ⟨fuel, hf⟩ := h1
     unfold shA at hs
     have one : ∀ (sh : List Sh) (r : List (Bool × List Sh)), shT P 12 t = some sh → shA P ts = some r → v.oneCell' = true → sh.length = 1 → ∃ pss, FitA ((false, sh) :: r) pss ∧ Reps E (argsD ((false, sh) :: r) pss) (v :: vs') ∧ wtR pss ≤ Rows.uptoBulkAll (d :: ds') := fun sh r e1 e2 e3 e4 => by
      obtain ⟨pds, f1, c1, w1⟩ := open_trod fuel 12 t _ _ sh hf e1
      obtain ⟨pss, g1, g2, g3⟩ := open_args hS ts vs' ds' q r h2 e2 hok'
      have hl := f1.length
      rw [e4] at hl
      match pds, hl with
      | [p0], _ =>
        have hc : v.cells.toList = [v] := by cases v <;> first | rfl | simp [Value.oneCell'] at e3
        rw [hc] at c1
        refine ⟨[p0] :: pss, ⟨_, _, rfl, f1, g1⟩, ⟨?_, g2⟩, by simp only [wtR, Rows.uptoBulkAll]; simp only at w1; omega⟩
        have := (c1.2 0 p0 v rfl rfl).2
        rw [← hS] at this
        exact this
     have many : ∀ (sh : List Sh) (r : List (Bool × List Sh)), shT P 12 t = some sh → shA P ts = some r → (∃ cs, v = .agg cs) → ∃ pss, FitA ((true, sh) :: r) pss ∧ Reps E (argsD ((true, sh) :: r) pss) (v :: vs') ∧ wtR pss ≤ Rows.uptoBulkAll (d :: ds') := fun sh r e1 e2 e3 => by
      obtain ⟨pds, f1, c1, w1⟩ := open_trod fuel 12 t _ _ sh hf e1
      obtain ⟨pss, g1, g2, g3⟩ := open_args hS ts vs' ds' q r h2 e2 hok'
      obtain ⟨cs, rfl⟩ := e3
      obtain ⟨r1, r2⟩ := CellsV.reps hS c1
      exact ⟨pds :: pss, ⟨_, _, rfl, f1, g1⟩, ⟨⟨cs.toList, by simp, r2, r1⟩, g2⟩, by simp only [wtR, Rows.uptoBulkAll]; simp only at w1; omega⟩
     obtain ⟨base, hokv⟩ := hokv
     split at hs
     ·rename_i hu e1 e2
      cases hs
      obtain ⟨cs, e3, _⟩ := okWide_struct hu hokv
      exact many _ _ e1 e2 ⟨cs, e3⟩
     ·rename_i hu e1 e2
      cases hs
      simp only [Value.okWide, hu] at hokv
      obtain ⟨cs, e3, _⟩ := hokv
      exact many _ _ e1 e2 ⟨cs, e3⟩
     ·rename_i hu e1 e2
      cases hs
      obtain ⟨a, l, c, rfl⟩ := okWide_slice hu hokv
      refine one _ _ e1 e2 rfl ?_
      unfold shT at e1
      simp only [hu] at e1
      split at e1
      ·split at e1
       ·cases e1; rfl
       ·cases e1
      ·cases e1
     ·rename_i hu e1 e2
      cases hs
      obtain ⟨b, rfl⟩ := okWide_bool hu hokv
      refine one _ _ e1 e2 rfl ?_
      unfold shT at e1
      simp only [hu] at e1
      cases e1; rfl
     ·rename_i hu e1 e2
      cases hs
      obtain ⟨b, rfl⟩ := okWide_string hu hokv
      refine one _ _ e1 e2 rfl ?_
      unfold shT at e1
      simp only [hu] at e1
      cases e1; rfl
     ·rename_i hu e1 e2
      cases hs
      obtain ⟨b, rfl⟩ := okWide_int hu hokv
      refine one _ _ e1 e2 rfl ?_
      unfold shT at e1
      simp only [hu] at e1
      cases e1; rfl
     ·cases hs
theorem stays_args {H : Type} {enc : TypeId × Value → H} {P : Program} {W W' : World} {sp' : Nat → Bool} (hl : laidOutB P = true) : ∀ (ts : List TypeId) (vs : List Value) (ds : List (DataW H)) (ps : List MemPlace), (ts.all fun t => P.readableRec t && decide (t < P.types.size)) = true →
  DataW.TrodAll enc P W 0 (fun _ => true) true ts vs ds ps → (∀ p ∈ ps, W.sameAt W' p) → (∀ p ∈ ps, sp' p.block = true) → DataW.TrodAll enc P W' 0 sp' true ts vs ds ps
 | [], vs, ds, ps, _, h, _, _ => by
     cases vs <;> cases ds <;> first
      | exact h
      | exact h.elim
 | t :: ts, vs, ds, ps, hr, h, h1, h2 => by
     obtain ⟨v, vs', d, ds', p, q, rfl, rfl, rfl, k1, k2⟩ := trodAll_cons h
     simp only [List.all_cons, Bool.and_eq_true, decide_eq_true_eq] at hr
     exact trodAll_cons_mk (WideElems.Trod_stays hl hr.1.1 hr.1.2 k1 (fun p hp => h1 p (by simp [hp])) fun p hp => h2 p (by simp [hp]))
      (stays_args hl ts vs' ds' q (by simpa using hr.2) k2 (fun p hp => h1 p (by simp [hp])) fun p hp => h2 p (by simp [hp]))
theorem law_contract {P : Program} {f : FuncId} {fn : Func} {s : ChangeSpec} {tb : TypeId} {shs : List (Bool × List Sh)} (hl : laidOutB P = true) (hps : (fn.params.toList.all fun t => P.readableRec t && decide (t < P.types.size)) = true)
  (hsh : shA P fn.params.toList = some shs) (hv : s.vars = []) (hres : fn.resultTypes = #[tb]) (hub : P.underlying tb = some .bool)
  (hs : ∀ (H : Type) (ds : List (DataW H)), ds.length = fn.params.size → s.fn H ds = { results := [.lit (.bool true)], args := ds })
  (main : ∀ pss : List (List PD), FitA shs pss → wtR pss ≤ 1048576 → FnV P f (argsD shs pss) (boolD true))
  (H : Type) (enc : TypeId × Value → H) (W : World) (base : Nat) (args : Array Value) (ds gs : List (DataW H)) (before : List MemPlace)
  (hval : ∀ (j : Nat) t v, fn.params[j]? = some t → args[j]? = some v → Value.okWide P W .any base t v)
  (hW : DataW.Whole enc P fn.params.toList s.vars false W args.toList ds gs before) (hk : Rows.uptoSmall H (ds ++ gs) = true) :
  Calls P f args W fun e W' => ∃ v, e = .returned v ∧ s.post enc P fn false true false false W args v W' := by
 have hW' := hW
 obtain ⟨p, q, hA, hV, rfl, hfz, _⟩ := hW
 rw [hv] at hV
 have hgs : gs = [] ∧ q = [] := by
  cases gs
  ·exact ⟨rfl, hV⟩
  ·exact hV.elim
 obtain ⟨rfl, rfl⟩ := hgs
 simp only [List.append_nil] at hW' hk hfz
 have hlen : ds.length = fn.params.size := by
  have h : ∀ (ts : List TypeId) (vs : List Value) (ds : List (DataW H)) (ps : List MemPlace), DataW.TrodAll enc P W 0 (fun _ => true) true ts vs ds ps → ds.length = ts.length := by
   intro ts
   induction ts with
   | nil => intro vs ds ps h; cases vs <;> cases ds <;> first | rfl | exact h.elim
   | cons t ts ih =>
     intro vs ds ps h
     obtain ⟨v, vs', d, ds', p, q, rfl, rfl, rfl, k1, k2⟩ := trodAll_cons h
     simp [ih _ _ _ k2]
  simpa using h _ _ _ _ hA
 let E : Env := ⟨W, oldS W, [], []⟩
 have hc : Conc E := ⟨rfl, fun b bx g z h => by simp [E] at h, fun b b' g z g' z' h => by simp [E] at h, fun g h => h, fun b g z h => by simp [E] at h⟩
 obtain ⟨pss, g1, g2, g3⟩ := open_args (E := E) rfl _ _ _ _ _ hA hsh fun j t v e1 e2 => ⟨base, hval j t v (by simpa using e1) (by simpa using e2)⟩
 have hbound : wtR pss ≤ 1048576 := Nat.le_trans g3 (by simpa [Rows.uptoSmall] using hk)
 have hF := main pss g1 hbound E args.toList hc rfl g2
 rw [Array.toArray_toList] at hF
 refine hF.mono ?_
 rintro e W' ⟨v, E', r, rfl, rfl, ⟨_, _, rfl⟩, hc', hx, hr⟩
 simp only [boolD, Rep, RepP] at hr
 subst hr
 have hheap : ∀ g, g < W.heap.size → E'.w.heap[g]? = W.heap[g]? := fun g hg => hx.heap g hg fun b z bx hb => by simp [E] at hb
 have hlt := hW'.lt
 have hsame : ∀ a ∈ p, W.sameAt E'.w a := fun a ha => by
  have hb := hlt a ha
  cases a with
  | cell b off => exact World.cell?_of_block (hheap b hb)
  | map b => exact hheap b hb
 have hold : ∀ a ∈ p, (fun b => decide (b < W.heap.size)) a.block = true := fun a ha => by simpa using hlt a ha
 have hfn := hs H ds hlen
 refine ⟨_, rfl, ds, [], p, [], p, [], by simpa using hW', ?_, ?_, ?_, ?_, fun h => by cases h⟩
 ·rw [List.append_nil, hfn, hres]
  exact trodAll_cons_mk (shut_bool hub _) trodAll_mk0
 ·rw [List.append_nil, hfn]
  exact stays_args hl _ _ _ _ hps hA hsame hold
 ·rw [List.append_nil, hfn, hv]
  rfl
 ·refine ⟨hx.os, hx.output, fun i hi => ?_⟩
  rw [hheap i hi]
  cases hi' : W.heap[i]? with
  | none => trivial
  | some o => cases o <;> simp
end Go.Proofs.Ytadnpgkddgbhkaa
