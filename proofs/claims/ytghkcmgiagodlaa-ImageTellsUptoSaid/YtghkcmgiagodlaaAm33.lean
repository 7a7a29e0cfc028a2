/- The program logic, thirty-third part: functions that turn boxes, known to the evaluation; regions in any order that call them. No condition: lemmas of any program. -/
import Derived.Test.YtghkcmgiagodlaaAm32
namespace Go.Proofs.Ytghkcmgiagodlaa
open Go.RowKit
set_option linter.all false
/-- Functions that turn boxes: what a call gives and leaves; what is to be shown first. -/
abbrev KnB := List (FuncId × (List DV → Store → SV))
def findB : KnB → FuncId → List DV → Store → SV
  | [], _, _, _ => none
  | (g, h) :: B, f, args, st => if f = g then h args st else findB B f args st
def SoundB (P : Program) (B : KnB) : Prop := ∀ f args st cs r st', findB B f args st = some (cs, r, st') → allP cs True → ∀ K : DV → Store → Prop, K r st' → FnD P f args st K
theorem noB_ok {P : Program} : SoundB P [] := fun _ _ _ _ _ _ h => by cases h
theorem orB_ok {P : Program} {f0 : FuncId} {h : List DV → Store → SV} {B : KnB} (hh : ∀ args st cs r st', h args st = some (cs, r, st') → allP cs True → ∀ K : DV → Store → Prop, K r st' → FnD P f0 args st K) (hB : SoundB P B) : SoundB P ((f0, h) :: B) := fun f args st cs r st' e hc => by
  unfold findB at e
  split at e
  · rename_i hf
    subst hf
    exact hh args st cs r st' e hc
  · exact hB f args st cs r st' e hc
def bothB (K : DV → Store → Prop) : SV → Prop
  | some (cs, r, st') => allP cs (K r st')
  | none => False
/-- A call of a function that is known so. -/
theorem callB {P : Program} {N : Nat} {X : Cps} (hX : X = X0 P N) {B : KnB} (hB : SoundB P B) {f : FuncId} {args : List DV} {st : Store} {K : DV → Store → Prop} (h : bothB K (findB B f args st)) : X.fn f args st K := by
  subst hX
  show FnD P f args st K
  unfold bothB at h
  split at h
  · rename_i cs r st' hv
    rw [allP_iff] at h
    exact hB f args st cs r st' hv h.1 K h.2
  · exact h.elim
/-- Short slices that are settled as they are built. -/
def setI (ids : List FuncId) : Op → Bool
  | .buildSlice _ len _ => ids.elem (1000000 + len)
  | _ => false
def tnI (ids : List FuncId) (o : Op) : Bool := (turns o && !setI ids o) || (match o with
  | .call c => (match c.callee with
    | .value (.func f) => ids.elem f
    | _ => false)
  | _ => false)
/-- A step at place k of the row of stores. -/
def StepI (ids : List FuncId) (P : Program) (ops : Array Oper) (sts : Nat → Store) (m : Nat) (o : Oper) (s : Slots) (k : Nat) (d : DV) (k' : Nat) : Prop :=
  if tnI ids o.op = true then Stp P ops o s (sts k) d (sts k') ∧ k' = k + 1 ∧ k < m else (∀ q, q ≤ m → Stp P ops o s (sts q) d (sts q)) ∧ k' = k
theorem StepI.put {ids : List FuncId} {P : Program} {ops : Array Oper} {sts : Nat → Store} {m : Nat} {o : Oper} {s : Slots} {k k' : Nat} {d e : DV} {dst : Option Nat} (hap : ∀ t, dst = some t → t ∉ o.looksAt ops) : StepI ids P ops sts m o (putS dst e s) k d k' ↔ StepI ids P ops sts m o s k d k' := by
  unfold StepI
  simp only [Stp.put hap]
/-- What a turning operation comes to. -/
def tvV (T : Unit → Tab) (A : Ar) (B : Unit → KnB) (o : Op) (s : SL) (st : Store) : SV :=
  match o with
  | .call c => (match c.callee with
    | .value (.func f) => (match (T ()).body f with
      | true => findB (B ()) f (c.args.toList.map (evL s)) st
      | false => none)
    | _ => opV T A o s st)
  | o => opV T A o s st
theorem tvV_D {P : Program} {T : Unit → Tab} (hT : TabOk P (T ())) {B : Unit → KnB} (hB : SoundB P (B ())) {o : Op} {s : SL} {st st' : Store} {cs : List Prop} {d : DV} (h : tvV T A0 B o s st = some (cs, d, st')) (hc : allP cs True) {K : DV → Store → Prop} (hk : K d st') : opD P o (getS s) st K := by
  unfold tvV at h
  split at h
  · rename_i c
    split at h
    · rename_i f hf
      split at h
      · rename_i hb
        simp only [opD, callD, hf]
        exact .inl ⟨hT.body _ hb, hB f _ st cs d st' h hc K hk⟩
      · cases h
    · exact opV_D hT h hc hk
  · exact opV_D hT h hc hk
section mix
variable {P : Program} {ids : List FuncId} {T : Unit → Tab} (hT : TabOk P (T ())) {H : Unit → Kn} (hH : SoundK P (H ())) {B : Unit → KnB} (hB : SoundB P (B ())) {N : Nat} {ops : Array Oper} {Q : Slots → Store → Prop}
include hT hH hB
end mix
/-- Arguments told otherwise: nothing for a settled slice without elements. -/
theorem FnD.nils {P : Program} {f : FuncId} {args args' : List DV} {st : Store} {K : DV → Store → Prop} (h : FnD P f args' st K) (hn : NilL args args') : FnD P f args st K := fun E vs h1 h2 h3 => h E vs h1 h2 (hn.reps h3)
/-- A contract that makes one box. -/
theorem FnD.new1 {P : Program} {f : FuncId} {args : List DV} {bx : Box} {st : Store} {K : DV → Store → Prop} (h : FnD P f args [] fun r st' => r = .ref 0 0 0 ∧ st' = [bx]) (ha : closedL 0 args = true) (hb : closedL 0 bx.cells = true) (hk : K (.ref st.length 0 0) (st ++ [bx])) : FnD P f args st K := by
  refine FnD.at (args' := args) h [] (by simp [ha]) (by simp) (by rw [renL_pure _ _ ha]) ?_
  rintro r0 stc ⟨rfl, rfl⟩ _
  have e : Box.ren (place [] st.length) bx = bx := by
    unfold Box.ren
    have := renL_pure (place [] st.length) bx.cells hb
    rw [renL_eq] at this
    rw [this]
  have e2 : mergeL st [] ([bx].map (Box.ren (place [] st.length))) = st ++ [bx] := by
    apply List.ext_getElem?
    intro i
    rw [mergeL]
    simp only [List.idxOf?_nil, List.map_cons, List.map_nil, e, List.length_nil, List.drop_zero]
    congr 2
    apply List.ext_getElem? ; intro j; simp
  rw [e2]
  simpa [renD, place] using hk
/-- A contract that turns one box. -/
theorem FnD.one {P : Program} {f : FuncId} {args : List DV} {bx bx' : Box} {res : DV} {st : Store} {K : DV → Store → Prop} (b : Nat) (h : FnD P f (.ref 0 0 0 :: args) [bx] fun r st' => r = res ∧ st' = [bx']) (hb : st[b]? = some bx)
    (ha : closedL 0 args = true) (hr : closedD 0 res = true) (h1 : closedL 0 bx.cells = true) (h2 : closedL 0 bx'.cells = true) (hk : K res (st.set b bx')) : FnD P f (.ref b 0 0 :: args) st K := by
  have hlt : b < st.length := (List.getElem?_eq_some_iff.1 hb).1
  have e : ∀ bx : Box, closedL 0 bx.cells = true → Box.ren (place [b] st.length) bx = bx := fun bx hb => by
    unfold Box.ren
    have := renL_pure (place [b] st.length) bx.cells hb
    rw [renL_eq] at this
    rw [this]
  refine FnD.at (args' := .ref 0 0 0 :: args) h [b] (by simp [hlt, closedL, closedD, closedL_mono (Nat.zero_le 1) _ ha]) ?_ (by simp [renL, renD, place, renL_pure _ _ ha]) ?_
  · intro k r bx0 hk hs
    cases k with
    | zero =>
      simp at hk hs
      subst hk; subst hs
      exact ⟨by rw [e _ h1]; exact hb, closedL_mono (Nat.zero_le _) _ h1⟩
    | succ k => simp at hk
  · rintro r0 stc ⟨rfl, rfl⟩ _
    rw [renD_pure _ _ hr]
    have e2 : mergeL st [b] ([bx'].map (Box.ren (place [b] st.length))) = st.set b bx' := by
      apply List.ext_getElem?
      intro i
      simp only [mergeL, List.map_cons, List.map_nil, e _ h2, List.length_singleton, List.drop_one, List.tail_cons, List.append_nil, List.getElem?_mapIdx, List.getElem?_set]
      by_cases hi : b = i
      · subst hi
        simp [hlt, List.idxOf?, List.findIdx?_cons]
      · have : ([b] : List Nat).idxOf? i = none := by rw [List.idxOf?_eq_none_iff]; simpa using fun h => hi h.symm
        simp [this, hi]
    rw [e2]
    exact hk
/-- What a contract leaves may be told otherwise. -/
theorem FnD.ret {P : Program} {f : FuncId} {args : List DV} {st : Store} {R : DV → Store → Prop} (h : FnD P f args st fun r st' => RetW st.length R r st') : FnD P f args st R := by
  intro E vs hc hst hr
  refine (h E vs hc hst hr).mono ?_
  rintro e w' ⟨v, E2, r, k1, k2, ⟨d', st', k3, k4⟩, k5, k6, k7⟩
  obtain ⟨E3, m1, m2, m3, m4, m5⟩ := k3 E2 v k5 rfl k7
  exact ⟨v, E3, d', k1, m1.trans k2, by rw [m2]; exact k4, m3, m5 E hc.len (by rw [hst]; exact Nat.le_refl _) k6, m4⟩
/-- A contract that turns two boxes. -/
theorem FnD.two {P : Program} {f : FuncId} {args : List DV} {bx bx' cx cx' : Box} {res : DV} {st : Store} {K : DV → Store → Prop} (b c : Nat) (hbc : b ≠ c) (h : FnD P f (.ref 0 0 0 :: .ref 1 0 0 :: args) [bx, cx] fun r st' => r = res ∧ st' = [bx', cx']) (hb : st[b]? = some bx) (hcx : st[c]? = some cx)
    (ha : closedL 0 args = true) (hr : closedD 0 res = true) (h1 : closedL 0 bx.cells = true) (h2 : closedL 0 bx'.cells = true) (h3 : closedL 0 cx.cells = true) (h4 : closedL 0 cx'.cells = true) (hk : K res ((st.set b bx').set c cx')) : FnD P f (.ref b 0 0 :: .ref c 0 0 :: args) st K := by
  have hlt : b < st.length := (List.getElem?_eq_some_iff.1 hb).1
  have hltc : c < st.length := (List.getElem?_eq_some_iff.1 hcx).1
  have e : ∀ bx : Box, closedL 0 bx.cells = true → Box.ren (place [b, c] st.length) bx = bx := fun bx hb => by
    unfold Box.ren
    have := renL_pure (place [b, c] st.length) bx.cells hb
    rw [renL_eq] at this
    rw [this]
  refine FnD.at (args' := .ref 0 0 0 :: .ref 1 0 0 :: args) h [b, c] (by simp [hlt, hltc, hbc, closedL, closedD, closedL_mono (Nat.zero_le 2) _ ha]) ?_ (by simp [renL, renD, place, renL_pure _ _ ha]) ?_
  · intro k r bx0 hk hs
    rcases k with _ | _ | k
    · simp at hk hs
      subst hk; subst hs
      exact ⟨by rw [e _ h1]; exact hb, closedL_mono (Nat.zero_le _) _ h1⟩
    · simp at hk hs
      subst hk; subst hs
      exact ⟨by rw [e _ h3]; exact hcx, closedL_mono (Nat.zero_le _) _ h3⟩
    · simp at hk
  · rintro r0 stc ⟨rfl, rfl⟩ _
    rw [renD_pure _ _ hr]
    have e2 : mergeL st [b, c] ([bx', cx'].map (Box.ren (place [b, c] st.length))) = (st.set b bx').set c cx' := by
      apply List.ext_getElem?
      intro i
      have hd : (List.map (Box.ren (place [b, c] st.length)) [bx', cx']).drop [b, c].length = [] := by simp
      rw [mergeL, hd, List.append_nil]
      simp only [List.map_cons, List.map_nil, e _ h2, e _ h4, List.getElem?_mapIdx, List.getElem?_set, List.length_set]
      by_cases hi : b = i
      · subst hi
        have : ([b, c] : List Nat).idxOf? b = some 0 := by simp [List.idxOf?, List.findIdx?_cons]
        simp [this, hlt, Ne.symm hbc]
      · by_cases hj : c = i
        · subst hj
          have : ([b, c] : List Nat).idxOf? c = some 1 := by simp [List.idxOf?, List.findIdx?_cons, hbc]
          simp [this, hltc]
        · have : ([b, c] : List Nat).idxOf? i = none := by
            rw [List.idxOf?_eq_none_iff]
            simp only [List.mem_cons, List.not_mem_nil, or_false, not_or]
            exact ⟨fun h => hi h.symm, fun h => hj h.symm⟩
          simp [this, hi, hj]
    rw [e2]
    exact hk
end Go.Proofs.Ytghkcmgiagodlaa
