/- The program logic, thirteenth part: boxes that are let go, slices that are settled, functions as wholes. No condition: lemmas of any program. -/
import Derived.Test.YtmjmbfcfnhnpmaaAm12
namespace Go.Proofs.Ytmjmbfcfnhnpmaa
open Go.RowKit
set_option linter.all false
/-- The same world under another description. -/
def Turn (k : Nat) (st st' : Store) (T : DV → DV → Prop) : Prop :=
  ∀ E : Env, Conc E → E.st = st → ∃ E' : Env, E'.w = E.w ∧ E'.st = st' ∧ Conc E' ∧ (∀ d d' v, T d d' → Rep E d v → Rep E' d' v) ∧ ∀ F : Env, F.σ.length = F.st.length → F.st.length ≤ k → Ext F E → Ext F E'
theorem Tells.turn {k : Nat} {st st' : Store} {T : DV → DV → Prop} (h : Turn k st st' T) {s s' : Slots} (hs : ∀ i, T (s i) (s' i)) : Tells k s st s' st' := fun E N a h1 h2 h3 => by
  obtain ⟨E', a1, a2, a3, a4, a5⟩ := h E h1 h2
  exact ⟨E', a1, a2, a3, ⟨h3.size, fun i => a4 _ _ _ (hs i) (h3.rep i), h3.defers⟩, a5⟩
/-- A value with its boxes, told otherwise. -/
def TellsV (k : Nat) (d : DV) (st : Store) (d' : DV) (st' : Store) : Prop :=
  ∀ (E : Env) (v : Value), Conc E → E.st = st → Rep E d v → ∃ E' : Env, E'.w = E.w ∧ E'.st = st' ∧ Conc E' ∧ Rep E' d' v ∧ ∀ F : Env, F.σ.length = F.st.length → F.st.length ≤ k → Ext F E → Ext F E'
theorem TellsV.refl (k : Nat) (d : DV) (st : Store) : TellsV k d st d st := fun E _ h1 h2 h3 => ⟨E, rfl, h2, h1, h3, fun _ _ _ h => h⟩
theorem TellsV.trans {k : Nat} {d d' d2 : DV} {st st' st2 : Store} (h : TellsV k d st d' st') (g : TellsV k d' st' d2 st2) : TellsV k d st d2 st2 := fun E v h1 h2 h3 => by
  obtain ⟨E', a1, a2, a3, a4, a5⟩ := h E v h1 h2 h3
  obtain ⟨E2, b1, b2, b3, b4, b5⟩ := g E' v a3 a2 a4
  exact ⟨E2, b1.trans a1, b2, b3, b4, fun F q1 q2 q3 => b5 F q1 q2 (a5 F q1 q2 q3)⟩
theorem TellsV.turn {k : Nat} {st st' : Store} {T : DV → DV → Prop} (h : Turn k st st' T) {d d' : DV} (hs : T d d') : TellsV k d st d' st' := fun E v h1 h2 h3 => by
  obtain ⟨E', a1, a2, a3, a4, a5⟩ := h E h1 h2
  exact ⟨E', a1, a2, a3, a4 _ _ _ hs h3, a5⟩
theorem TellsV.nil (k : Nat) (st : Store) (sz : Nat) : TellsV k nilS st (.d (.slc sz [])) st := fun E v h1 h2 h3 => ⟨E, rfl, h2, h1, .inl ⟨rfl, h3⟩, fun _ _ _ h => h⟩
mutual
def pullD (κ : List Nat) : DV → DV
  | .any => .any
  | .d p => .d p
  | .agg cs => .agg (pullL κ cs)
  | .tup cs => .tup (pullL κ cs)
  | .ref b ver o => match κ.idxOf? b with
    | some j => .ref j ver o
    | none => .any
  | .cref cs => .cref cs
  | .view sz b ver o n => match κ.idxOf? b with
    | some j => .view sz j ver o n
    | none => .any
  | .fn f cs => .fn f (pullL κ cs)
def pullL (κ : List Nat) : List DV → List DV
  | [] => []
  | d :: ds => pullD κ d :: pullL κ ds
end
theorem pullL_eq (κ : List Nat) : ∀ ds : List DV, pullL κ ds = ds.map (pullD κ)
  | [] => rfl
  | d :: ds => by simp [pullL, pullL_eq κ ds]
def pullBox (κ : List Nat) (bx : Box) : Box := { bx with cells := pullL κ bx.cells }
def noBox : Box := ⟨0, [], false, 0, false⟩
def keepSt (κ : List Nat) (st : Store) : Store := κ.map fun b => pullBox κ (st.getD b noBox)
structure Pulled (E E' : Env) (κ : List Nat) : Prop where
  w : E'.w = E.w
  S : E'.S = E.S
  at_ : ∀ (b j : Nat), κ.idxOf? b = some j → (∀ bx, E.st[b]? = some bx → E'.st[j]? = some (pullBox κ bx)) ∧ ∀ gz, E.σ[b]? = some gz → E'.σ[j]? = some gz
mutual
theorem Rep.pull {E E' : Env} {κ : List Nat} (h : Pulled E E' κ) : ∀ (d : DV) (u : Value), Rep E d u → Rep E' (pullD κ d) u
  | .any, _, _ => trivial
  | .d p, u, hr => by simp only [pullD, Rep] at hr ⊢; rw [h.w, h.S]; exact hr
  | .agg cs, _, ⟨vs, h1, h3, h2⟩ => ⟨vs, h1, h3, Reps.pull h cs vs h2⟩
  | .tup cs, _, ⟨vs, h1, h2⟩ => ⟨vs, h1, Reps.pull h cs vs h2⟩
  | .fn _ cs, _, ⟨vs, h1, h2⟩ => ⟨vs, h1, Reps.pull h cs vs h2⟩
  | .ref b ver o, u, ⟨bx, gz, h1, h2, h0, h3, h4⟩ => by
      simp only [pullD]
      cases hk : κ.idxOf? b with
      | none => trivial
      | some j => exact ⟨_, gz, (h.at_ b j hk).1 bx h1, (h.at_ b j hk).2 gz h2, h0, h3, h4⟩
  | .cref cs, u, hr => by simp only [pullD, Rep] at hr ⊢; rw [h.w, h.S]; exact hr
  | .view sz b ver o n, u, ⟨bx, gz, h1, h2, h0, h3, h4⟩ => by
      simp only [pullD]
      cases hk : κ.idxOf? b with
      | none => trivial
      | some j => exact ⟨_, gz, (h.at_ b j hk).1 bx h1, (h.at_ b j hk).2 gz h2, h0, h3, h4⟩
theorem Reps.pull {E E' : Env} {κ : List Nat} (h : Pulled E E' κ) : ∀ (ds : List DV) (vs : List Value), Reps E ds vs → Reps E' (pullL κ ds) vs
  | [], [], _ => trivial
  | d :: ds, v :: vs, ⟨h1, h2⟩ => ⟨Rep.pull h d v h1, Reps.pull h ds vs h2⟩
  | [], _ :: _, h => h.elim
  | _ :: _, [], h => h.elim
end
/-- Some boxes are kept, the others let go. -/
theorem Turn.keep {k : Nat} {st : Store} (κ : List Nat) (hn : κ.Nodup) (hv : ∀ b ∈ κ, b < st.length) (hk : ∀ b, b < k → κ[b]? = some b) (hkl : k ≤ κ.length) : Turn k st (keepSt κ st) fun d d' => d' = pullD κ d := by
  intro E hc hst
  subst hst
  have hlen := hc.len
  let E' : Env := ⟨E.w, E.S, κ.map fun b => E.σ.getD b (0, 0), keepSt κ E.st⟩
  have hget : ∀ (j b : Nat), κ[j]? = some b → ∃ bx gz, E.st[b]? = some bx ∧ E.σ[b]? = some gz ∧ E'.st[j]? = some (pullBox κ bx) ∧ E'.σ[j]? = some gz := by
    intro j b hj
    have hb := hv b (List.mem_of_getElem? hj)
    refine ⟨E.st[b], E.σ[b]'(by omega), List.getElem?_eq_getElem _, List.getElem?_eq_getElem _, ?_, ?_⟩
    · simp [E', keepSt, hj, List.getD_eq_getElem?_getD, List.getElem?_eq_getElem hb]
    · simp [E', hj, List.getD_eq_getElem?_getD, List.getElem?_eq_getElem (show b < E.σ.length by omega)]
  have hidx : ∀ (b j : Nat), κ.idxOf? b = some j → κ[j]? = some b := by
    intro b j h
    obtain ⟨h1, h2, _⟩ := List.idxOf?_eq_some_iff.1 h
    rw [List.getElem?_eq_getElem h1]
    simpa using h2
  have hpull : Pulled E E' κ := ⟨rfl, rfl, fun b j h => by
    obtain ⟨bx, gz, a1, a2, a3, a4⟩ := hget j b (hidx b j h)
    exact ⟨fun bx' h1 => by rw [a1] at h1; cases h1; exact a3, fun gz' h1 => by rw [a2] at h1; cases h1; exact a4⟩⟩
  have hsrc : ∀ (j : Nat) (gz : Nat × Nat), E'.σ[j]? = some gz → ∃ b, κ[j]? = some b ∧ E.σ[b]? = some gz := by
    intro j gz h
    have hj : j < κ.length := by
      have := (List.getElem?_eq_some_iff.1 h).1
      simpa [E'] using this
    obtain ⟨bx, gz', a1, a2, a3, a4⟩ := hget j _ (List.getElem?_eq_getElem hj)
    rw [a4] at h
    cases h
    exact ⟨_, List.getElem?_eq_getElem hj, a2⟩
  have hinj : ∀ (j j' b : Nat), κ[j]? = some b → κ[j']? = some b → j = j' := by
    intro j j' r h1 h2
    obtain ⟨l1, e1⟩ := List.getElem?_eq_some_iff.1 h1
    obtain ⟨l2, e2⟩ := List.getElem?_eq_some_iff.1 h2
    rcases Nat.lt_trichotomy j j' with hlt | heq | hgt
    · exact absurd (e1.trans e2.symm) (List.pairwise_iff_getElem.1 hn j j' l1 l2 hlt)
    · exact heq
    · exact absurd (e2.trans e1.symm) (List.pairwise_iff_getElem.1 hn j' j l2 l1 hgt)
  refine ⟨E', rfl, rfl, ⟨by simp [E', keepSt], fun j bx g z h1 h2 hl => ?_, fun j j' g z g' z' h1 h2 he => ?_, hc.old, fun j g z h => ?_⟩, fun d d' v ht hr => by subst ht; exact Rep.pull hpull d v hr, fun F hF hFk hx => ?_⟩
  · obtain ⟨b, e1, e2⟩ := hsrc j _ h2
    obtain ⟨bx', gz', a1, a2, a3, a4⟩ := hget j b e1
    rw [h1] at a3
    cases a3
    obtain ⟨cur, c1, c2, c3, c4, c5, c6, c7, c8⟩ := hc.box b bx' g z a1 e2 hl
    refine ⟨cur, c1, c2, by simpa [pullBox, pullL_eq] using c3, fun he => by simpa [pullBox, pullL_eq] using c4 he, c5, c6, fun i d hi => ?_, c8⟩
    simp only [pullBox, pullL_eq, List.getElem?_map] at hi
    cases hd : bx'.cells[i]? with
    | none => rw [hd] at hi; cases hi
    | some d0 =>
      rw [hd] at hi
      simp only [Option.map_some, Option.some.injEq] at hi
      subst hi
      obtain ⟨u, q1, q2, q3⟩ := c7 i d0 hd
      exact ⟨u, q1, q2, Rep.pull hpull d0 u q3⟩
  · obtain ⟨b, e1, e2⟩ := hsrc j _ h1
    obtain ⟨b', e3, e4⟩ := hsrc j' _ h2
    have := hc.inj b b' g z g' z' e2 e4 he
    subst this
    exact hinj j j' b e1 e3
  · obtain ⟨b, e1, e2⟩ := hsrc j _ h
    exact hc.lt b g z e2
  · refine ⟨hx.size, hx.os, hx.tape, hx.output, hx.set, hx.fresh, hx.heap, fun b bx gz h1 h2 => ?_, fun j gz h1 h2 => ?_⟩
    · have hb := (List.getElem?_eq_some_iff.1 h1).1
      obtain ⟨bx', gz', a1, a2, a3, a4, a5, a6⟩ := hx.box b bx gz h1 h2
      obtain ⟨bx2, gz2, b1, b2, b3, b4⟩ := hget b b (hk b (by omega))
      rw [a1] at b1; cases b1
      rw [a2] at b2; cases b2
      exact ⟨_, _, b3, b4, a3, a4, a5, a6⟩
    · obtain ⟨b, e1, e2⟩ := hsrc j _ h2
      have hj := List.getElem?_eq_none_iff.1 h1
      refine hx.new b gz ?_ e2
      rw [List.getElem?_eq_none_iff]
      rcases Nat.lt_or_ge b F.σ.length with hlt | hge
      · have := hinj j b b e1 (hk b (by omega))
        omega
      · exact hge
mutual
/-- The whole slice over a box, settled. -/
def fzD (b ver sz : Nat) (xs : List (List PD)) : DV → DV
  | .any => .any
  | .d p => .d p
  | .agg cs => .agg (fzL b ver sz xs cs)
  | .tup cs => .tup (fzL b ver sz xs cs)
  | .ref b' ver' o => .ref b' ver' o
  | .cref cs => .cref cs
  | .view sz' b' ver' o n => if b' = b ∧ ver' = ver ∧ sz' = sz ∧ o = 0 ∧ n = xs.length then .d (.slc sz xs) else .view sz' b' ver' o n
  | .fn f cs => .fn f (fzL b ver sz xs cs)
def fzL (b ver sz : Nat) (xs : List (List PD)) : List DV → List DV
  | [] => []
  | d :: ds => fzD b ver sz xs d :: fzL b ver sz xs ds
end
theorem fzL_eq (b ver sz : Nat) (xs : List (List PD)) : ∀ ds : List DV, fzL b ver sz xs ds = ds.map (fzD b ver sz xs)
  | [] => rfl
  | d :: ds => by simp [fzL, fzL_eq b ver sz xs ds]
def fzBox (b ver sz : Nat) (xs : List (List PD)) (bx : Box) : Box := { bx with cells := fzL b ver sz xs bx.cells }
def fzSt (b sz : Nat) (xs : List (List PD)) (st : Store) : Store := match st[b]? with
  | some bx => (st.map (fzBox b bx.ver sz xs)).set b ⟨bx.ty, [], false, bx.ver + 1, false⟩
  | none => st
theorem freeze_env {st : Store} (b sz : Nat) (xs : List (List PD)) (bx : Box) (hb : st[b]? = some bx) (hl : bx.live = true) (hcells : bx.cells = rowsD xs) (hsz : ∀ x ∈ xs, x.length = sz) (E : Env) (hc : Conc E) (hst : E.st = st) :
    ∃ E' : Env, E'.w = E.w ∧ E'.st = fzSt b sz xs st ∧ Conc E' ∧ (∀ d v, Rep E d v → Rep E' (fzD b bx.ver sz xs d) v) ∧ Ext E E' ∧ ∀ k, k ≤ b → ∀ F : Env, F.σ.length = F.st.length → F.st.length ≤ k → Ext F E → Ext F E' := by
  subst hst
  have hbl := (List.getElem?_eq_some_iff.1 hb).1
  have hlen := hc.len
  obtain ⟨⟨g, z⟩, hg⟩ : ∃ gz, E.σ[b]? = some gz := ⟨E.σ[b]'(by omega), List.getElem?_eq_getElem _⟩
  obtain ⟨cur, a1, a2, a3, a4, a5, a6, a7, a8⟩ := hc.box b bx g z hb hg hl
  let S' : Nat → Prop := fun g' => E.S g' ∨ g' = g
  let E' : Env := ⟨E.w, S', E.σ, fzSt b sz xs E.st⟩
  have hkept : Kept E.w E.w E.S S' := fun g' h => ⟨.inl h, rfl⟩
  have hrows : RowsP E.w S' sz xs ⟨g, 0, none⟩ := by
    refine RowsP.of_flat xs _ hsz (CellsP.of_get _ _ fun j p hj => ?_)
    obtain ⟨u, c1, c2, c3⟩ := a7 j (.d p) (by rw [hcells, rowsD_get, hj]; rfl)
    refine ⟨u, ?_, c2, RepP.keep hkept p u c3⟩
    have hadd : (⟨g, 0, none⟩ : Addr).add j = ⟨g, j, none⟩ := by unfold Addr.add; split <;> simp_all
    rw [hadd]
    simp [World.cell?, a1, c1]
  have hst' : ∀ i, i ≠ b → E'.st[i]? = (E.st[i]?).map (fzBox b bx.ver sz xs) := fun i hi => by rw [show E'.st = (E.st.map (fzBox b bx.ver sz xs)).set b ⟨bx.ty, [], false, bx.ver + 1, false⟩ by simp only [E', fzSt, hb]]; simp [Ne.symm hi]
  have hstb : E'.st[b]? = some ⟨bx.ty, [], false, bx.ver + 1, false⟩ := by
    rw [show E'.st = (E.st.map (fzBox b bx.ver sz xs)).set b ⟨bx.ty, [], false, bx.ver + 1, false⟩ by simp only [E', fzSt, hb]]
    simp [hbl]
  have hbox : ∀ (i : Nat) (bi : Box), E.st[i]? = some bi → ∃ bi', E'.st[i]? = some bi' ∧ bi.ver ≤ bi'.ver ∧ (i ≠ b → bi'.ver = bi.ver) ∧ (i = b → bi'.ver = bi.ver + 1) := by
    intro i bi hi
    by_cases e : i = b
    · subst e
      rw [hb] at hi; cases hi
      exact ⟨_, hstb, by simp, fun h => absurd rfl h, fun _ => rfl⟩
    · exact ⟨fzBox b bx.ver sz xs bi, by rw [hst' i e, hi]; rfl, Nat.le_refl _, fun _ => rfl, fun h => absurd h e⟩
  have key : (∀ (d : DV) (u : Value), Rep E d u → Rep E' (fzD b bx.ver sz xs d) u) := by
    intro d
    refine DV.rec (motive_1 := fun d => ∀ u, Rep E d u → Rep E' (fzD b bx.ver sz xs d) u) (motive_2 := fun ds => ∀ vs, Reps E ds vs → Reps E' (fzL b bx.ver sz xs ds) vs) ?_ ?_ ?_ ?_ ?_ ?_ ?_ ?_ ?_ ?_ d
    · intro u _; trivial
    · intro p u h; exact RepP.keep hkept p u h
    · intro cs ih u ⟨vs, h1, h3, h2⟩; exact ⟨vs, h1, h3, ih vs h2⟩
    · intro cs ih u ⟨vs, h1, h2⟩; exact ⟨vs, h1, ih vs h2⟩
    · intro b' ver o u ⟨bi, gz, h1, h2, h0, h3, h4⟩
      obtain ⟨bi', q1, q2, q3, q4⟩ := hbox b' bi h1
      refine ⟨bi', gz, q1, h2, h0, by omega, fun e => ?_⟩
      by_cases eb : b' = b
      · have := q4 eb; omega
      · exact h4 (by have := q3 eb; omega)
    · intro cs u ⟨a, h1, h2, h3⟩
      refine ⟨a, h1, fun hx => .inl (h2 hx), ?_⟩
      cases cs with
      | nil => trivial
      | cons c cs => exact CellsP.keep hkept (c :: cs) a (h2 (by simp)) h3
    · intro sz' b' ver o n u ⟨bi, gz, h1, h2, h0, h3, h4⟩
      simp only [fzD]
      split
      · rename_i hq
        obtain ⟨rfl, rfl, rfl, rfl, rfl⟩ := hq
        rw [hb] at h1; cases h1
        rw [hg] at h2; cases h2
        obtain ⟨c, rfl, c1, c2, c3⟩ := h4 rfl
        exact .inr ⟨_, c, rfl, c1, c2, fun _ => .inr rfl, hrows⟩
      · obtain ⟨bi', q1, q2, q3, q4⟩ := hbox b' bi h1
        refine ⟨bi', gz, q1, h2, h0, by omega, fun e => ?_⟩
        by_cases eb : b' = b
        · have := q4 eb; omega
        · exact h4 (by have := q3 eb; omega)
    · intro f cs ih u ⟨vs, h1, h2⟩; exact ⟨vs, h1, ih vs h2⟩
    · intro vs h; cases vs <;> first | trivial | exact h.elim
    · intro d ds ih1 ih2 vs h
      cases vs with
      | nil => exact h.elim
      | cons v vs => exact ⟨ih1 v h.1, ih2 vs h.2⟩
  refine ⟨E', rfl, rfl, ⟨by simp [E', fzSt, hb, hlen], fun i bi g' z' h1 h2 hli => ?_, hc.inj, fun g' h => ?_, hc.lt⟩, fun d v hr => key d v hr, ⟨Nat.le_refl _, rfl, rfl, rfl, fun _ h => .inl h, fun g' h => ?_, fun _ _ _ => rfl, fun i bi gz h1 h2 => ?_, fun i gz h1 h2 => by rw [show E'.σ = E.σ from rfl, h1] at h2; cases h2⟩, fun k hkb F hF hFk hx => ?_⟩
  · by_cases e : i = b
    · subst e
      rw [hstb] at h1
      cases h1
      cases hli
    · rw [hst' i e] at h1
      cases hi : E.st[i]? with
      | none => rw [hi] at h1; cases h1
      | some bi0 =>
        rw [hi] at h1
        simp only [Option.map_some, Option.some.injEq] at h1
        subst h1
        obtain ⟨cur', c1, c2, c3, c4, c5, c6, c7, c8⟩ := hc.box i bi0 g' z' hi h2 hli
        refine ⟨cur', c1, c2, by simpa [fzBox, fzL_eq] using c3, fun he => by simpa [fzBox, fzL_eq] using c4 he, c5, fun hS => ?_, fun j d hj => ?_, c8⟩
        · rcases hS with hS | hS
          · exact c6 hS
          · exact e (hc.inj i b g' z' g z h2 hg hS)
        · simp only [fzBox, fzL_eq, List.getElem?_map] at hj
          cases hd : bi0.cells[j]? with
          | none => rw [hd] at hj; cases hj
          | some d0 =>
            rw [hd] at hj
            simp only [Option.map_some, Option.some.injEq] at hj
            subst hj
            obtain ⟨u, q1, q2, q3⟩ := c7 j d0 hd
            exact ⟨u, q1, q2, key d0 u q3⟩
  · rcases h with h | h
    · exact hc.old g' h
    · subst h; exact hc.lt b _ z hg
  · rcases h with h | h
    · exact .inl h
    · subst h; exact .inr (.inr ⟨b, z, hg⟩)
  · by_cases e : i = b
    · subst e
      rw [hb] at h1; cases h1
      exact ⟨_, gz, hstb, h2, Nat.le_succ _, fun e => absurd e (by simp), fun _ => rfl, .inl rfl⟩
    · exact ⟨fzBox b bx.ver sz xs bi, gz, by rw [hst' i e, h1]; rfl, h2, Nat.le_refl _, fun _ => rfl, id, .inl rfl⟩
  · refine ⟨hx.size, hx.os, hx.tape, hx.output, fun g' h => .inl (hx.set g' h), fun g' h => ?_, hx.heap, fun i bi gz h1 h2 => ?_, hx.new⟩
    · rcases h with h | h
      · exact hx.fresh g' h
      · subst h
        exact .inr (.inl (hx.new b (_, z) (List.getElem?_eq_none_iff.2 (by omega)) hg))
    · have hi := (List.getElem?_eq_some_iff.1 h1).1
      obtain ⟨bi', gz', q1, q2, q3, q4, q5, q6⟩ := hx.box i bi gz h1 h2
      exact ⟨fzBox b bx.ver sz xs bi', gz', by rw [hst' i (by omega), q1]; rfl, q2, q3, q4, q5, q6⟩
theorem Turn.freeze {k : Nat} {st : Store} (b sz : Nat) (xs : List (List PD)) (bx : Box) (hb : st[b]? = some bx) (hl : bx.live = true) (hkb : k ≤ b) (hcells : bx.cells = rowsD xs) (hsz : ∀ x ∈ xs, x.length = sz) :
    Turn k st (fzSt b sz xs st) fun d d' => d' = fzD b bx.ver sz xs d := by
  intro E hc hst
  obtain ⟨E', a1, a2, a3, a4, _, a5⟩ := freeze_env b sz xs bx hb hl hcells hsz E hc hst
  exact ⟨E', a1, a2, a3, fun d d' v ht hr => by subst ht; exact a4 d v hr, a5 k hkb⟩
end Go.Proofs.Ytmjmbfcfnhnpmaa
