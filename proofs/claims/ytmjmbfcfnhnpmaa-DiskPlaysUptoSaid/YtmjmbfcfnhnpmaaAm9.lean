/- The program logic, ninth part: all operations under one name; contracts of functions, and how a call of one is framed. No condition: lemmas of any program. -/
import Derived.Test.YtmjmbfcfnhnpmaaAm8
namespace Go.Proofs.Ytmjmbfcfnhnpmaa
open Go.RowKit
set_option linter.all false
/-- The greater or the lesser of two. -/
def mmD (mx : Bool) (x y : DV) (K : DV → Prop) : Prop :=
  match x, y with
  | .d (.sc (.int k a)), .d (.sc (.int k' b)) => k = k' ∧ K (.d (.sc (.int k (if mx = true then max a b else min a b))))
  | .d (.sc (.string a)), .d (.sc (.string b)) => K (.d (.sc (.string (if mx = true then (if ltb a b = true then b else a) else (if (ltb a b || decide (a = b)) = true then a else b)))))
  | _, _ => False
theorem max_ok {P : Program} {E : Env} {x y : DV} {v u : Value} (hx : Rep E x v) (hy : Rep E y u) {ts : Array TypeId} {ty : TypeId} {K : DV → Prop} (h : mmD true x y K) : ∃ r d, (Builtin.max_ ts ty #[v, u]).run P E.w = .ok r E.w ∧ K d ∧ Rep E d r := by
  unfold mmD at h
  split at h
  · obtain ⟨rfl, h⟩ := h
    simp only [Rep, RepP] at hx hy; subst hx; subst hy
    rename_i k a b
    refine ⟨_, _, by simp only [Builtin.max_, List.foldlM_cons, List.foldlM_nil, Builtin.max2, bind_pure]; rfl, h, ?_⟩
    simp only [Rep, RepP, ↓reduceIte]
    congr 1
    simp only [Int.max_def]
    split <;> split <;> omega
  · simp only [Rep, RepP] at hx hy; subst hx; subst hy
    rename_i a b
    refine ⟨_, _, by simp only [Builtin.max_, List.foldlM_cons, List.foldlM_nil, Builtin.max2, Op.stringOp, pure_bind, asBool, bind_pure]; rfl, h, ?_⟩
    simp only [Rep, RepP, ltb, ↓reduceIte]
    by_cases hl : Op.bytesLess a.toList b.toList = true <;> simp [hl]
  · exact h.elim
theorem min_ok {P : Program} {E : Env} {x y : DV} {v u : Value} (hx : Rep E x v) (hy : Rep E y u) {ts : Array TypeId} {ty : TypeId} {K : DV → Prop} (h : mmD false x y K) : ∃ r d, (Builtin.min_ ts ty #[v, u]).run P E.w = .ok r E.w ∧ K d ∧ Rep E d r := by
  unfold mmD at h
  split at h
  · obtain ⟨rfl, h⟩ := h
    simp only [Rep, RepP] at hx hy; subst hx; subst hy
    rename_i k a b
    refine ⟨_, _, by simp only [Builtin.min_, List.foldlM_cons, List.foldlM_nil, Builtin.min2, bind_pure]; rfl, h, ?_⟩
    simp only [Rep, RepP, Bool.false_eq_true, ↓reduceIte]
    congr 1
    simp only [Int.min_def]
    split <;> split <;> omega
  · simp only [Rep, RepP] at hx hy; subst hx; subst hy
    rename_i a b
    refine ⟨_, _, by simp only [Builtin.min_, List.foldlM_cons, List.foldlM_nil, Builtin.min2, Op.stringOp, pure_bind, asBool, bind_pure]; rfl, h, ?_⟩
    simp only [Rep, RepP, ltb, Bool.false_eq_true, ↓reduceIte, toList_bytes]
    by_cases hl : (Op.bytesLess a.toList b.toList || decide (a = b)) = true <;> simp only [hl, ↓reduceIte]
  · exact h.elim
/-- A choice. -/
def pickD (c a b : DV) (K : DV → Prop) : Prop :=
  match c with
  | .d (.sc (.bool t)) => match a, b with
    | .d (.sc (.bool p)), .d (.sc (.bool q)) => K (.d (.sc (.bool (bif t then p else q))))
    | a, b => (t = true → K a) ∧ (t = false → K b)
  | _ => False
theorem pick_ok {P : Program} {E : Env} {x y z : DV} {v u r : Value} (hx : Rep E x v) (hy : Rep E y u) (hz : Rep E z r) {K : DV → Prop} (h : pickD x y z K) :
    ∃ q d, (do pure (.value (if ← asBool v then u else r)) : Sem Next).run P E.w = .ok (.value q) E.w ∧ K d ∧ Rep E d q := by
  unfold pickD at h
  split at h
  · rename_i t
    simp only [Rep, RepP] at hx; subst hx
    split at h
    · simp only [Rep, RepP] at hy hz; subst hy; subst hz
      exact ⟨_, _, by simp only [asBool, pure_bind]; rfl, h, by cases t <;> rfl⟩
    · cases t
      · exact ⟨_, _, by simp only [asBool, pure_bind]; rfl, h.2 rfl, hz⟩
      · exact ⟨_, _, by simp only [asBool, pure_bind]; rfl, h.1 rfl, hy⟩
  · exact h.elim
def isRefD (st : Store) : DV → Bool
  | .ref b ver _ => match st[b]? with
    | some bx => bx.ver == ver
    | none => false
  | .cref _ => true
  | .fn _ _ => true
  | _ => false
/-- A component of several results. -/
def extractD (x : DV) (i : Nat) (K : DV → Prop) : Prop :=
  match x with
  | .tup vs => match vs[i]? with
    | some d => K d
    | none => False
  | _ => False
/-- A field of a value. -/
def fieldVD (P : Program) (t : TypeId) (x : DV) (f : Nat) (K : DV → Prop) : Prop :=
  match P.underlying t, x with
  | some (.struct fs), .agg cs => match fs[f]? with
    | some fl => partD P fl.type cs fl.offset K
    | none => False
  | _, _ => False
mutual
def renD (φ : Nat → Nat) : DV → DV
  | .any => .any
  | .d p => .d p
  | .agg cs => .agg (renL φ cs)
  | .tup cs => .tup (renL φ cs)
  | .ref b ver o => .ref (φ b) ver o
  | .cref cs => .cref cs
  | .view sz b ver o n => .view sz (φ b) ver o n
  | .fn f cs => .fn f (renL φ cs)
def renL (φ : Nat → Nat) : List DV → List DV
  | [] => []
  | d :: ds => renD φ d :: renL φ ds
end
theorem renL_eq (φ : Nat → Nat) : ∀ ds : List DV, renL φ ds = ds.map (renD φ)
  | [] => rfl
  | d :: ds => by simp [renL, renL_eq φ ds]
/-- A function's contract: called with these arguments while these boxes are there. -/
def FnD (P : Program) (f : FuncId) (args : List DV) (st : Store) (R : DV → Store → Prop) : Prop :=
  ∀ (E : Env) (vs : List Value), Conc E → E.st = st → Reps E args vs → Calls P f vs.toArray E.w fun e w' => ∃ (v : Value) (E' : Env) (r : DV), e = .returned v ∧ E'.w = w' ∧ R r E'.st ∧ Conc E' ∧ Ext E E' ∧ Rep E' r v
theorem FnD.mono {P : Program} {f : FuncId} {args : List DV} {st : Store} {R R' : DV → Store → Prop} (h : FnD P f args st R) (hr : ∀ r st', R r st' → R' r st') : FnD P f args st R' :=
  fun E vs h1 h2 h3 => (h E vs h1 h2 h3).mono fun _ _ ⟨v, E', r, a, b, c, d⟩ => ⟨v, E', r, a, b, hr _ _ c, d⟩
def Box.ren (φ : Nat → Nat) (bx : Box) : Box := { bx with cells := bx.cells.map (renD φ) }
/-- What stands behind a renaming: the same boxes under other numbers. -/
structure Under (E F : Env) (φ : Nat → Nat) : Prop where
  w : F.w = E.w
  S : F.S = E.S
  st : ∀ (b : Nat) (bx : Box), E.st[b]? = some bx → ∃ bx' : Box, F.st[φ b]? = some bx' ∧ bx'.ver = bx.ver
  σ : ∀ (b : Nat) (gz : Nat × Nat), E.σ[b]? = some gz → F.σ[φ b]? = some gz
mutual
theorem Rep.ren {E F : Env} {φ : Nat → Nat} (h : Under E F φ) : ∀ (d : DV) (u : Value), Rep E d u → Rep F (renD φ d) u
  | .any, _, _ => trivial
  | .d p, u, hr => by simp only [renD, Rep] at hr ⊢; rw [h.w, h.S]; exact hr
  | .agg cs, _, ⟨vs, h1, h3, h2⟩ => ⟨vs, h1, h3, Reps.ren h cs vs h2⟩
  | .tup cs, _, ⟨vs, h1, h2⟩ => ⟨vs, h1, Reps.ren h cs vs h2⟩
  | .fn _ cs, _, ⟨vs, h1, h2⟩ => ⟨vs, h1, Reps.ren h cs vs h2⟩
  | .ref b ver o, u, ⟨bx, gz, h1, h2, h0, h3, h4⟩ => by
      obtain ⟨bx', a1, a2⟩ := h.st b bx h1
      exact ⟨bx', gz, a1, h.σ b gz h2, h0, by omega, fun e => h4 (by omega)⟩
  | .cref cs, u, hr => by simp only [renD, Rep] at hr ⊢; rw [h.w, h.S]; exact hr
  | .view sz b ver o n, u, ⟨bx, gz, h1, h2, h0, h3, h4⟩ => by
      obtain ⟨bx', a1, a2⟩ := h.st b bx h1
      exact ⟨bx', gz, a1, h.σ b gz h2, h0, by omega, fun e => h4 (by omega)⟩
theorem Reps.ren {E F : Env} {φ : Nat → Nat} (h : Under E F φ) : ∀ (ds : List DV) (vs : List Value), Reps E ds vs → Reps F (renL φ ds) vs
  | [], [], _ => trivial
  | d :: ds, v :: vs, ⟨h1, h2⟩ => ⟨Rep.ren h d v h1, Reps.ren h ds vs h2⟩
  | [], _ :: _, h => h.elim
  | _ :: _, [], h => h.elim
end
/-- The other way: the caller's numbers behind the callee's. -/
structure Back (E F : Env) (φ : Nat → Nat) (n : Nat) : Prop where
  w : F.w = E.w
  S : F.S = E.S
  st : ∀ (b : Nat) (bx : Box), b < n → E.st[φ b]? = some bx → ∃ bx' : Box, F.st[b]? = some bx' ∧ bx'.ver = bx.ver
  σ : ∀ (b : Nat) (gz : Nat × Nat), b < n → E.σ[φ b]? = some gz → F.σ[b]? = some gz
mutual
def closedD (n : Nat) : DV → Bool
  | .any => true
  | .d _ => true
  | .agg cs => closedL n cs
  | .tup cs => closedL n cs
  | .ref b _ _ => b < n
  | .cref _ => true
  | .view _ b _ _ _ => b < n
  | .fn _ cs => closedL n cs
def closedL (n : Nat) : List DV → Bool
  | [] => true
  | d :: ds => closedD n d && closedL n ds
end
mutual
theorem Rep.back {E F : Env} {φ : Nat → Nat} {n : Nat} (h : Back E F φ n) : ∀ (d : DV) (u : Value), closedD n d = true → Rep E (renD φ d) u → Rep F d u
  | .any, _, _, _ => trivial
  | .d p, u, _, hr => by simp only [renD, Rep] at hr ⊢; rw [h.w, h.S]; exact hr
  | .agg cs, _, hcl, ⟨vs, h1, h3, h2⟩ => ⟨vs, h1, h3, Reps.back h cs vs hcl h2⟩
  | .tup cs, _, hcl, ⟨vs, h1, h2⟩ => ⟨vs, h1, Reps.back h cs vs hcl h2⟩
  | .fn _ cs, _, hcl, ⟨vs, h1, h2⟩ => ⟨vs, h1, Reps.back h cs vs hcl h2⟩
  | .ref b ver o, u, hcl, ⟨bx, gz, h1, h2, h0, h3, h4⟩ => by
      have hb : b < n := by simpa [closedD] using hcl
      obtain ⟨bx', a1, a2⟩ := h.st b bx hb h1
      exact ⟨bx', gz, a1, h.σ b gz hb h2, h0, by omega, fun e => h4 (by omega)⟩
  | .cref cs, u, _, hr => by simp only [renD, Rep] at hr ⊢; rw [h.w, h.S]; exact hr
  | .view sz b ver o k, u, hcl, ⟨bx, gz, h1, h2, h0, h3, h4⟩ => by
      have hb : b < n := by simpa [closedD] using hcl
      obtain ⟨bx', a1, a2⟩ := h.st b bx hb h1
      exact ⟨bx', gz, a1, h.σ b gz hb h2, h0, by omega, fun e => h4 (by omega)⟩
theorem Reps.back {E F : Env} {φ : Nat → Nat} {n : Nat} (h : Back E F φ n) : ∀ (ds : List DV) (vs : List Value), closedL n ds = true → Reps E (renL φ ds) vs → Reps F ds vs
  | [], [], _, _ => trivial
  | d :: ds, v :: vs, hcl, ⟨h1, h2⟩ => by
      simp only [closedL, Bool.and_eq_true] at hcl
      exact ⟨Rep.back h d v hcl.1 h1, Reps.back h ds vs hcl.2 h2⟩
  | [], _ :: _, _, h => h.elim
  | _ :: _, [], _, h => h.elim
end
mutual
theorem ren_id (φ : Nat → Nat) (h : ∀ b, φ b = b) : ∀ d : DV, renD φ d = d
  | .any => rfl
  | .d _ => rfl
  | .agg cs => by simp only [renD, renL_id φ h cs]
  | .tup cs => by simp only [renD, renL_id φ h cs]
  | .fn _ cs => by simp only [renD, renL_id φ h cs]
  | .ref b _ _ => by simp only [renD, h]
  | .cref _ => rfl
  | .view _ b _ _ _ => by simp only [renD, h]
theorem renL_id (φ : Nat → Nat) (h : ∀ b, φ b = b) : ∀ ds : List DV, renL φ ds = ds
  | [] => rfl
  | d :: ds => by simp only [renL, ren_id φ h d, renL_id φ h ds]
end
/-- Where the callee's boxes lie among the caller's. -/
def place (ρ : List Nat) (n : Nat) (b : Nat) : Nat := match ρ[b]? with
  | some r => r
  | none => n + (b - ρ.length)
def mergeL {α : Type} (l : List α) (ρ : List Nat) (lc : List α) : List α :=
  (l.mapIdx fun i a => match ρ.idxOf? i with
    | some k => lc.getD k a
    | none => a) ++ lc.drop ρ.length
theorem mergeL_length {α : Type} (l : List α) (ρ : List Nat) (lc : List α) : (mergeL l ρ lc).length = l.length + (lc.length - ρ.length) := by simp [mergeL]
theorem mergeL_off {α : Type} (l : List α) (ρ : List Nat) (lc : List α) {i : Nat} (h : i < l.length) (hi : i ∉ ρ) : (mergeL l ρ lc)[i]? = l[i]? := by
  rw [mergeL, List.getElem?_append_left (by simpa using h), List.getElem?_mapIdx]
  rw [List.idxOf?_eq_none_iff.2 hi]
  simp
theorem mergeL_at {α : Type} (l : List α) (ρ : List Nat) (lc : List α) (hn : ρ.Nodup) (hv : ∀ r ∈ ρ, r < l.length) (hl : ρ.length ≤ lc.length) (k : Nat) : (mergeL l ρ lc)[place ρ l.length k]? = lc[k]? := by
  unfold place
  cases hk : ρ[k]? with
  | some r =>
    have hkl := (List.getElem?_eq_some_iff.1 hk).1
    have hr := hv r (List.mem_of_getElem? hk)
    simp only
    rw [mergeL, List.getElem?_append_left (by simpa using hr), List.getElem?_mapIdx]
    have hidx : ρ.idxOf? r = some k := by
      rw [List.idxOf?_eq_some_iff]
      refine ⟨hkl, by simpa using (List.getElem?_eq_some_iff.1 hk).2, fun j hj => ?_⟩
      have h1 := (List.getElem?_eq_some_iff.1 hk).2
      intro e
      have e2 : ρ[j] = ρ[k] := by rw [h1]; simpa using e
      exact List.pairwise_iff_getElem.1 hn j k (by omega) hkl hj e2
    rw [hidx]
    simp only [List.getElem?_eq_getElem hr, Option.map_some, List.getD_eq_getElem?_getD, List.getElem?_eq_getElem (show k < lc.length by omega), Option.getD_some]
  | none =>
    have hkl := List.getElem?_eq_none_iff.1 hk
    simp only
    rw [mergeL, List.getElem?_append_right (by simp)]
    simp only [List.length_mapIdx, List.getElem?_drop]
    congr 1
    omega
theorem mergeL_cases {α : Type} (l : List α) (ρ : List Nat) (lc : List α) {i : Nat} {x : α} (h : (mergeL l ρ lc)[i]? = some x) : (i < l.length ∧ i ∉ ρ) ∨ ∃ k, i = place ρ l.length k := by
  by_cases hi : i < l.length
  · by_cases hm : i ∈ ρ
    · obtain ⟨k, hk⟩ := List.getElem?_of_mem hm
      exact .inr ⟨k, by simp [place, hk]⟩
    · exact .inl ⟨hi, hm⟩
  · refine .inr ⟨ρ.length + (i - l.length), ?_⟩
    simp only [place]
    rw [List.getElem?_eq_none (by omega)]
    simp only
    omega
theorem closedL_get {n : Nat} : ∀ {ds : List DV} {j : Nat} {d : DV}, closedL n ds = true → ds[j]? = some d → closedD n d = true
  | d :: ds, 0, d', h, hj => by
      simp only [closedL, Bool.and_eq_true] at h
      simp at hj; subst hj; exact h.1
  | d :: ds, j + 1, d', h, hj => by
      simp only [closedL, Bool.and_eq_true] at h
      exact closedL_get h.2 (by simpa using hj)
  | [], _, _, _, hj => by simp at hj
/-- A function is called with some of the caller's boxes, under its own numbers. -/
theorem FnD.frame {P : Program} {f : FuncId} {args' : List DV} {R : DV → Store → Prop} {st sts : Store} (h : FnD P f args' sts R) (ρ : List Nat) (hn : ρ.Nodup) (hv : ∀ r ∈ ρ, r < st.length) (hlen0 : sts.length = ρ.length)
    (hsts : ∀ (k r : Nat) (bx : Box), ρ[k]? = some r → sts[k]? = some bx → st[r]? = some (Box.ren (place ρ st.length) bx) ∧ closedL ρ.length bx.cells = true) (hcl : closedL ρ.length args' = true) :
    FnD P f (renL (place ρ st.length) args') st fun r st' => ∃ r0 stc, R r0 stc ∧ ρ.length ≤ stc.length ∧ r = renD (place ρ st.length) r0 ∧ st' = mergeL st ρ (stc.map (Box.ren (place ρ st.length))) := by
  intro E vs hc hst hargs
  subst hst
  have hlen := hc.len
  let σ0 := ρ.map fun r => E.σ.getD r (0, 0)
  let E0 : Env := ⟨E.w, E.S, σ0, sts⟩
  have hρ : ∀ (k r : Nat), ρ[k]? = some r → ∃ gz bx, E.σ[r]? = some gz ∧ E.st[r]? = some (Box.ren (place ρ E.st.length) bx) ∧ E0.σ[k]? = some gz ∧ E0.st[k]? = some bx := by
    intro k r hk
    have hr := hv r (List.mem_of_getElem? hk)
    have hkl := (List.getElem?_eq_some_iff.1 hk).1
    refine ⟨E.σ[r]'(by omega), sts[k]'(by omega), List.getElem?_eq_getElem _, (hsts k r _ hk (List.getElem?_eq_getElem _)).1, ?_, List.getElem?_eq_getElem _⟩
    simp only [E0, σ0, List.getElem?_map, hk, Option.map_some, List.getD_eq_getElem?_getD, List.getElem?_eq_getElem (show r < E.σ.length by omega), Option.getD_some]
  have hk0 : ∀ (k : Nat) (gz : Nat × Nat), E0.σ[k]? = some gz → ∃ r, ρ[k]? = some r ∧ E.σ[r]? = some gz := by
    intro k gz hk
    have hkl : k < ρ.length := by
      have := (List.getElem?_eq_some_iff.1 hk).1
      simpa [E0, σ0] using this
    obtain ⟨gz', bx, h1, _, h3, _⟩ := hρ k _ (List.getElem?_eq_getElem hkl)
    rw [h3] at hk
    cases hk
    exact ⟨_, List.getElem?_eq_getElem hkl, h1⟩
  have hs0 : ∀ (k : Nat) (bx : Box), E0.st[k]? = some bx → ∃ r, ρ[k]? = some r ∧ E.st[r]? = some (Box.ren (place ρ E.st.length) bx) ∧ closedL ρ.length bx.cells = true := by
    intro k bx hk
    have hkl : k < ρ.length := by
      have := (List.getElem?_eq_some_iff.1 hk).1
      simp only [E0] at this
      omega
    have := hsts k _ bx (List.getElem?_eq_getElem hkl) hk
    exact ⟨_, List.getElem?_eq_getElem hkl, this.1, this.2⟩
  have hinj : ∀ (k k' r : Nat), ρ[k]? = some r → ρ[k']? = some r → k = k' := by
    intro k k' r h1 h2
    obtain ⟨l1, e1⟩ := List.getElem?_eq_some_iff.1 h1
    obtain ⟨l2, e2⟩ := List.getElem?_eq_some_iff.1 h2
    rcases Nat.lt_trichotomy k k' with hlt | heq | hgt
    · exact absurd (e1.trans e2.symm) (List.pairwise_iff_getElem.1 hn k k' l1 l2 hlt)
    · exact heq
    · exact absurd (e2.trans e1.symm) (List.pairwise_iff_getElem.1 hn k' k l2 l1 hgt)
  have hback : Back E E0 (place ρ E.st.length) ρ.length := by
    refine ⟨rfl, rfl, fun b bx hb hbx => ?_, fun b gz hb hgz => ?_⟩
    · obtain ⟨gz', bx', _, h2, _, h4⟩ := hρ b _ (List.getElem?_eq_getElem hb)
      rw [place, List.getElem?_eq_getElem hb] at hbx
      simp only at hbx
      rw [h2] at hbx
      cases hbx
      exact ⟨_, h4, rfl⟩
    · obtain ⟨gz', bx', h1, _, h3, _⟩ := hρ b _ (List.getElem?_eq_getElem hb)
      rw [place, List.getElem?_eq_getElem hb] at hgz
      simp only at hgz
      rw [h1] at hgz
      cases hgz
      exact h3
  have hc0 : Conc E0 := by
    refine ⟨by simp [E0, σ0, hlen0], fun k bx g z h1 h2 hl => ?_, fun k k' g z g' z' h1 h2 he => ?_, hc.old, fun k g z h1 => ?_⟩
    · obtain ⟨r, e1, e2, ecl⟩ := hs0 k bx h1
      obtain ⟨r', e3, e4⟩ := hk0 k _ h2
      rw [e1] at e3
      cases e3
      obtain ⟨cur, a1, a2, a3, a4, a5, a6, a7, a8⟩ := hc.box r _ g z e2 e4 hl
      refine ⟨cur, a1, a2, by simpa [Box.ren] using a3, fun he => by simpa [Box.ren] using a4 he, a5, a6, fun j d hj => ?_, a8⟩
      obtain ⟨u, c1, c2, c3⟩ := a7 j (renD (place ρ E.st.length) d) (by simp [Box.ren, hj])
      exact ⟨u, c1, c2, Rep.back hback d u (closedL_get ecl hj) c3⟩
    · obtain ⟨r, e1, e2⟩ := hk0 k _ h1
      obtain ⟨r', e3, e4⟩ := hk0 k' _ h2
      have := hc.inj r r' g z g' z' e2 e4 he
      subst this
      exact hinj k k' r e1 e3
    · obtain ⟨r, e1, e2⟩ := hk0 k _ h1
      exact hc.lt r g z e2
  refine (h E0 vs hc0 rfl (Reps.back hback args' vs hcl hargs)).mono ?_
  rintro e w' ⟨v, E1, r, rfl, rfl, hR, hc1, hx1, hr⟩
  have hl1 : ρ.length ≤ E1.st.length := by
    rcases Nat.lt_or_ge E1.st.length ρ.length with hlt | hge
    · obtain ⟨gz, bx, _, _, h3, h4⟩ := hρ E1.st.length _ (List.getElem?_eq_getElem hlt)
      obtain ⟨bx', gz', q1, _⟩ := hx1.box _ _ _ h4 h3
      have := (List.getElem?_eq_some_iff.1 q1).1
      omega
    · exact hge
  have hl2 : ρ.length ≤ E1.σ.length := by rw [hc1.len]; exact hl1
  have hvσ : ∀ r ∈ ρ, r < E.σ.length := fun r hr => by rw [hlen]; exact hv r hr
  let φ := place ρ E.st.length
  let E' : Env := ⟨E1.w, E1.S, mergeL E.σ ρ E1.σ, mergeL E.st ρ (E1.st.map (Box.ren φ))⟩
  have hst' : ∀ k, E'.st[φ k]? = (E1.st[k]?).map (Box.ren φ) := fun k => by
    have := mergeL_at E.st ρ (E1.st.map (Box.ren φ)) hn hv (by simpa using hl1) k
    simpa [E', φ] using this
  have hσ' : ∀ k, E'.σ[φ k]? = E1.σ[k]? := fun k => by
    have := mergeL_at E.σ ρ E1.σ hn hvσ hl2 k
    rw [hlen] at this
    exact this
  have hunder : Under E1 E' φ := ⟨rfl, rfl, fun b bx hb => ⟨Box.ren φ bx, by rw [hst', hb]; rfl, rfl⟩, fun b gz hb => by rw [hσ', hb]⟩
  have hoff : ∀ i, i < E.st.length → i ∉ ρ → E'.st[i]? = E.st[i]? ∧ E'.σ[i]? = E.σ[i]? := fun i hi hm => ⟨mergeL_off E.st ρ _ hi hm, mergeL_off E.σ ρ _ (by omega) hm⟩
  have hφ : ∀ k r, ρ[k]? = some r → φ k = r := fun k r hk => by simp [φ, place, hk]
  have hφn : ∀ k, ρ.length ≤ k → φ k = E.st.length + (k - ρ.length) := fun k hk => by simp [φ, place, List.getElem?_eq_none hk]
  have hold : ∀ (i g z : Nat), E.σ[i]? = some (g, z) → i ∉ ρ → E1.w.heap[g]? = E.w.heap[g]? := by
    intro i g z hi hm
    refine hx1.heap g (hc.lt i g z hi) fun b z' bx hb hbx => ?_
    obtain ⟨r, e1, e2⟩ := hk0 b _ hb
    have := hc.inj i r g z g z' hi e2 rfl
    subst this
    exact absurd (List.mem_of_getElem? e1) hm
  have hx : Ext E E' := by
    refine ⟨hx1.size, hx1.os, hx1.tape, hx1.output, hx1.set, fun g hg => ?_, fun g hg hd => ?_, fun b bx gz h1 h2 => ?_, fun b gz h1 h2 => ?_⟩
    · rcases hx1.fresh g hg with q | q | ⟨b, z, q⟩
      · exact .inl q
      · exact .inr (.inl q)
      · obtain ⟨r, _, e2⟩ := hk0 b _ q
        exact .inr (.inr ⟨r, z, e2⟩)
    · refine hx1.heap g hg fun b z bx hb hbx => ?_
      obtain ⟨r, e1, e2⟩ := hk0 b _ hb
      obtain ⟨r', e3, e4, _⟩ := hs0 b _ hbx
      rw [e1] at e3
      cases e3
      exact hd r z (Box.ren (place ρ E.st.length) bx) e2 e4
    · by_cases hm : b ∈ ρ
      · obtain ⟨k, hk⟩ := List.getElem?_of_mem hm
        obtain ⟨gz', bx', e1, e2, e3, e4⟩ := hρ k b hk
        rw [h1] at e2
        rw [h2] at e1
        cases e1; cases e2
        obtain ⟨bx2, gz2, q1, q2, q3, q4, q5, q6⟩ := hx1.box k bx' gz e4 e3
        refine ⟨Box.ren φ bx2, gz2, ?_, ?_, q3, q4, q5, q6⟩
        · rw [← hφ k b hk, hst', q1]; rfl
        · rw [← hφ k b hk, hσ', q2]
      · have hb := (List.getElem?_eq_some_iff.1 h1).1
        obtain ⟨o1, o2⟩ := hoff b hb hm
        exact ⟨bx, gz, o1.trans h1, o2.trans h2, Nat.le_refl _, fun _ => rfl, id, .inl rfl⟩
    · have hb := List.getElem?_eq_none_iff.1 h1
      rcases mergeL_cases E.σ ρ E1.σ h2 with ⟨q, _⟩ | ⟨k, q⟩
      · omega
      · rw [hlen] at q
        have h3 : E1.σ[k]? = some gz := by rw [← hσ' k]; rw [q] at h2; exact h2
        refine hx1.new k gz ?_ h3
        simp only [E0, σ0]
        rw [List.getElem?_eq_none_iff, List.length_map]
        rcases Nat.lt_or_ge k ρ.length with hlt | hge
        · have := hφ k _ (List.getElem?_eq_getElem hlt)
          have h4 := hv ρ[k] (List.getElem_mem hlt)
          simp only [φ] at this
          omega
        · exact hge
  have hcE : Conc E' := by
    refine ⟨?_, fun b bx g z h1 h2 hl => ?_, fun b b' g z g' z' h1 h2 he => ?_, hc1.old, fun b g z h1 => ?_⟩
    · simp only [E', mergeL_length, List.length_map, hc1.len, hlen]
    · rcases mergeL_cases E.st ρ _ h1 with ⟨q1, q2⟩ | ⟨k, rfl⟩
      · obtain ⟨o1, o2⟩ := hoff b q1 q2
        rw [o1] at h1
        rw [o2] at h2
        obtain ⟨cur, a1, a2, a3, a4, a5, a6, a7, a8⟩ := hc.box b bx g z h1 h2 hl
        refine ⟨cur, (hold b g z h2 q2).trans a1, a2, a3, a4, a5, fun hS => ?_, fun j d hj => ?_, a8⟩
        · rcases hx1.fresh g hS with q | q | ⟨b', z', q⟩
          · exact a6 q
          · have := hc.lt b g z h2
            simp only [E0] at q
            omega
          · obtain ⟨r', e1, e2⟩ := hk0 b' _ q
            have := hc.inj b r' g z g z' h2 e2 rfl
            subst this
            exact q2 (List.mem_of_getElem? e1)
        · obtain ⟨u, c1, c2, c3⟩ := a7 j d hj
          exact ⟨u, c1, c2, Rep.ext hc hx d u c3⟩
      · have h1' : E'.st[φ k]? = some bx := h1
        have h2' : E'.σ[φ k]? = some (g, z) := h2
        rw [hst'] at h1'
        rw [hσ'] at h2'
        cases hb0 : E1.st[k]? with
        | none => rw [hb0] at h1'; cases h1'
        | some bx1 =>
          rw [hb0] at h1'
          simp only [Option.map_some, Option.some.injEq] at h1'
          subst h1'
          obtain ⟨cur, a1, a2, a3, a4, a5, a6, a7, a8⟩ := hc1.box k bx1 g z hb0 h2' hl
          refine ⟨cur, a1, a2, by simpa [Box.ren] using a3, fun he => by simpa [Box.ren] using a4 he, a5, a6, fun j d hj => ?_, a8⟩
          simp only [Box.ren, List.getElem?_map] at hj
          cases hd : bx1.cells[j]? with
          | none => rw [hd] at hj; cases hj
          | some d1 =>
            rw [hd] at hj
            simp only [Option.map_some, Option.some.injEq] at hj
            subst hj
            obtain ⟨u, c1, c2, c3⟩ := a7 j d1 hd
            exact ⟨u, c1, c2, Rep.ren hunder d1 u c3⟩
    · subst he
      have split : ∀ (b z : Nat), E'.σ[b]? = some (g, z) → (E.σ[b]? = some (g, z) ∧ b ∉ ρ) ∨ ∃ k, b = φ k ∧ E1.σ[k]? = some (g, z) := by
        intro b z hb
        rcases mergeL_cases E.σ ρ E1.σ hb with ⟨q1, q2⟩ | ⟨k, q⟩
        · exact .inl ⟨by rw [← (hoff b (by omega) q2).2]; exact hb, q2⟩
        · rw [hlen] at q
          exact .inr ⟨k, q, by rw [← hσ' k]; rw [q] at hb; exact hb⟩
      have mixed : ∀ (b k z z' : Nat), E.σ[b]? = some (g, z) → b ∉ ρ → E1.σ[k]? = some (g, z') → False := by
        intro b k z z' q1 q2 q3
        have hlt := hc.lt b g z q1
        cases hk : E0.σ[k]? with
        | none => have := hx1.new k _ hk q3; simp only [E0] at this; omega
        | some gz =>
          obtain ⟨r, e1, e2⟩ := hk0 k gz hk
          have hkl := (List.getElem?_eq_some_iff.1 hk).1
          have hkl' : k < E0.st.length := by
            simp only [E0, σ0, List.length_map] at hkl ⊢
            omega
          obtain ⟨bx2, gz2, p1, p2, _, _, _, p6⟩ := hx1.box k _ gz (List.getElem?_eq_getElem hkl') hk
          rw [q3] at p2
          cases p2
          rcases p6 with p6 | p6
          · simp only at p6
            have := hc.inj b r g z g gz.2 q1 (by rw [e2, p6]) rfl
            subst this
            exact q2 (List.mem_of_getElem? e1)
          · simp only [E0] at p6; omega
      rcases split b z h1 with ⟨p1, p2⟩ | ⟨k, rfl, p2⟩ <;> rcases split b' z' h2 with ⟨q1, q2⟩ | ⟨k', rfl, q2⟩
      · exact hc.inj b b' g z g z' p1 q1 rfl
      · exact (mixed b k' z z' p1 p2 q2).elim
      · exact (mixed b' k z' z q1 q2 p2).elim
      · rw [hc1.inj k k' g z g z' p2 q2 rfl]
    · rcases mergeL_cases E.σ ρ E1.σ h1 with ⟨q1, q2⟩ | ⟨k, q⟩
      · have := (hoff b (by omega) q2).2
        rw [this] at h1
        exact Nat.lt_of_lt_of_le (hc.lt b g z h1) hx1.size
      · rw [hlen] at q
        have h3 : E1.σ[k]? = some (g, z) := by rw [← hσ' k]; rw [q] at h1; exact h1
        exact hc1.lt k g z h3
  exact ⟨v, E', renD φ r, rfl, rfl, ⟨r, E1.st, hR, hl1, rfl, rfl⟩, hcE, hx, Rep.ren hunder r v hr⟩
end Go.Proofs.Ytmjmbfcfnhnpmaa
