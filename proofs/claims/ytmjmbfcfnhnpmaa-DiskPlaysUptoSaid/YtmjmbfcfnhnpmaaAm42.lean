/- The program logic, forty-second part: a box's version told as a later one; a box that takes the place of another one; contracts told otherwise. No condition: lemmas of any program. -/
import Derived.Test.YtmjmbfcfnhnpmaaAm41
namespace Go.Proofs.Ytmjmbfcfnhnpmaa
open Go.RowKit
set_option linter.all false
mutual
/-- A box's version is told as a later one. -/
def bumpD (b v w : Nat) : DV → DV
  | .any => .any
  | .d p => .d p
  | .agg cs => .agg (bumpL b v w cs)
  | .tup cs => .tup (bumpL b v w cs)
  | .ref b' ver o => if b' = b ∧ ver = v then .ref b w o else .ref b' ver o
  | .cref cs => .cref cs
  | .view sz b' ver o n => if b' = b ∧ ver = v then .view sz b w o n else .view sz b' ver o n
  | .fn f cs => .fn f (bumpL b v w cs)
def bumpL (b v w : Nat) : List DV → List DV
  | [] => []
  | d :: ds => bumpD b v w d :: bumpL b v w ds
end
theorem bumpL_eq (b v w : Nat) : ∀ ds : List DV, bumpL b v w ds = ds.map (bumpD b v w)
  | [] => rfl
  | d :: ds => by simp [bumpL, bumpL_eq b v w ds]
def bumpSt (b w : Nat) (st : Store) : Store := match st[b]? with
  | some bx => (st.map fun bi => { bi with cells := bumpL b bx.ver w bi.cells }).set b ⟨bx.ty, bumpL b bx.ver w bx.cells, bx.ext, w, bx.live⟩
  | none => st
theorem Rep.bump {E E' : Env} {b w : Nat} {bx : Box} (hw : E'.w = E.w) (hS : E'.S = E.S) (hb : E.st[b]? = some bx) (hv : bx.ver ≤ w) (hσ : E'.σ = E.σ)
    (h : ∀ (i : Nat) (bi : Box), E.st[i]? = some bi → ∃ bi', E'.st[i]? = some bi' ∧ (i ≠ b → bi'.ver = bi.ver) ∧ (i = b → bi'.ver = w)) :
    ∀ (d : DV) (u : Value), Rep E d u → Rep E' (bumpD b bx.ver w d) u := by
  intro d
  refine DV.rec (motive_1 := fun d => ∀ u, Rep E d u → Rep E' (bumpD b bx.ver w d) u) (motive_2 := fun ds => ∀ vs, Reps E ds vs → Reps E' (bumpL b bx.ver w ds) vs) ?_ ?_ ?_ ?_ ?_ ?_ ?_ ?_ ?_ ?_ d
  · intro u _; trivial
  · intro p u h; simp only [bumpD, Rep] at h ⊢; rw [hw, hS]; exact h
  · intro cs ih u ⟨vs, h1, h3, h2⟩; exact ⟨vs, h1, h3, ih vs h2⟩
  · intro cs ih u ⟨vs, h1, h2⟩; exact ⟨vs, h1, ih vs h2⟩
  · intro b' ver o u ⟨bi, gz, h1, h2, h0, h3, h4⟩
    obtain ⟨bi', q1, q2, q3⟩ := h b' bi h1
    simp only [bumpD]
    split
    · rename_i e
      obtain ⟨rfl, rfl⟩ := e
      rw [hb] at h1; cases h1
      exact ⟨bi', gz, q1, by rw [hσ]; exact h2, h0, by rw [q3 rfl]; exact Nat.le_refl _, fun _ => h4 rfl⟩
    · rename_i e
      refine ⟨bi', gz, q1, by rw [hσ]; exact h2, h0, ?_, ?_⟩
      · by_cases eb : b' = b
        · subst eb; rw [hb] at h1; cases h1; rw [q3 rfl]; omega
        · rw [q2 eb]; exact h3
      · by_cases eb : b' = b
        · subst eb; rw [hb] at h1; cases h1; rw [q3 rfl]; intro ev; exact absurd ⟨rfl, by omega⟩ e
        · rw [q2 eb]; exact h4
  · intro cs u ⟨a, h1, h2, h3⟩
    exact ⟨a, h1, by rw [hS]; exact h2, by rw [hw, hS]; exact h3⟩
  · intro sz' b' ver o n u ⟨bi, gz, h1, h2, h0, h3, h4⟩
    obtain ⟨bi', q1, q2, q3⟩ := h b' bi h1
    simp only [bumpD]
    split
    · rename_i e
      obtain ⟨rfl, rfl⟩ := e
      rw [hb] at h1; cases h1
      exact ⟨bi', gz, q1, by rw [hσ]; exact h2, h0, by rw [q3 rfl]; exact Nat.le_refl _, fun _ => h4 rfl⟩
    · rename_i e
      refine ⟨bi', gz, q1, by rw [hσ]; exact h2, h0, ?_, ?_⟩
      · by_cases eb : b' = b
        · subst eb; rw [hb] at h1; cases h1; rw [q3 rfl]; omega
        · rw [q2 eb]; exact h3
      · by_cases eb : b' = b
        · subst eb; rw [hb] at h1; cases h1; rw [q3 rfl]; intro ev; exact absurd ⟨rfl, by omega⟩ e
        · rw [q2 eb]; exact h4
  · intro f cs ih u ⟨vs, h1, h2⟩; exact ⟨vs, h1, ih vs h2⟩
  · intro vs h; cases vs <;> first | trivial | exact h.elim
  · intro d ds ih1 ih2 vs h
    cases vs with
    | nil => exact h.elim
    | cons v vs => exact ⟨ih1 v h.1, ih2 vs h.2⟩
theorem Turn.bump {k : Nat} {st : Store} (b w : Nat) (bx : Box) (hb : st[b]? = some bx) (hl : bx.live = true) (hv : bx.ver ≤ w) : Turn k st (bumpSt b w st) fun d d' => d' = bumpD b bx.ver w d := by
  intro E hc hst
  subst hst
  have hbl := (List.getElem?_eq_some_iff.1 hb).1
  have est : bumpSt b w E.st = (E.st.map fun bi => { bi with cells := bumpL b bx.ver w bi.cells }).set b ⟨bx.ty, bumpL b bx.ver w bx.cells, bx.ext, w, bx.live⟩ := by unfold bumpSt; rw [hb]
  have hget : ∀ (i : Nat) (bi : Box), E.st[i]? = some bi → (i ≠ b → (bumpSt b w E.st)[i]? = some { bi with cells := bumpL b bx.ver w bi.cells }) ∧ (i = b → (bumpSt b w E.st)[i]? = some ⟨bx.ty, bumpL b bx.ver w bx.cells, bx.ext, w, bx.live⟩) := by
    intro i bi hi
    rw [est]
    constructor
    · intro e; simp [Ne.symm e, hi]
    · intro e; subst e; simp [hbl]
  have key := Rep.bump (E := E) (E' := ⟨E.w, E.S, E.σ, bumpSt b w E.st⟩) rfl rfl hb hv rfl fun i bi hi => by
    by_cases e : i = b
    · exact ⟨_, (hget i bi hi).2 e, fun h => absurd e h, fun _ => rfl⟩
    · exact ⟨_, (hget i bi hi).1 e, fun _ => rfl, fun h => absurd h e⟩
  refine ⟨⟨E.w, E.S, E.σ, bumpSt b w E.st⟩, rfl, rfl, ⟨?_, ?_, hc.inj, hc.old, hc.lt⟩, fun d d' v ht hr => by subst ht; exact key d v hr, fun F hF hFk hx => ?_⟩
  · show E.σ.length = (bumpSt b w E.st).length
    rw [est]; simp [hc.len]
  · intro i bi' g z h1 h2 hli
    simp only at h1 h2
    have hil : i < E.st.length := by
      have := (List.getElem?_eq_some_iff.1 h1).1
      rw [est] at this; simpa using this
    have hi := List.getElem?_eq_getElem hil
    by_cases e : i = b
    · subst e
      rw [(hget i _ hi).2 rfl] at h1
      cases h1
      obtain ⟨cur, a1, a2, a3, a4, a5, a6, a7, a8⟩ := hc.box i bx g z hb h2 hl
      refine ⟨cur, a1, a2, by simpa [bumpL_eq] using a3, fun he => by simpa [bumpL_eq] using a4 he, a5, a6, fun j d hj => ?_, a8⟩
      simp only [bumpL_eq, List.getElem?_map] at hj
      cases hd : bx.cells[j]? with
      | none => rw [hd] at hj; cases hj
      | some d0 =>
        rw [hd] at hj
        simp only [Option.map_some, Option.some.injEq] at hj
        subst hj
        obtain ⟨u, q1, q2, q3⟩ := a7 j d0 hd
        exact ⟨u, q1, q2, key d0 u q3⟩
    · rw [(hget i _ hi).1 e] at h1
      cases h1
      obtain ⟨cur, a1, a2, a3, a4, a5, a6, a7, a8⟩ := hc.box i _ g z hi h2 hli
      refine ⟨cur, a1, a2, by simpa [bumpL_eq] using a3, fun he => by simpa [bumpL_eq] using a4 he, a5, a6, fun j d hj => ?_, a8⟩
      simp only [bumpL_eq, List.getElem?_map] at hj
      cases hd : (E.st[i]).cells[j]? with
      | none => rw [hd] at hj; cases hj
      | some d0 =>
        rw [hd] at hj
        simp only [Option.map_some, Option.some.injEq] at hj
        subst hj
        obtain ⟨u, q1, q2, q3⟩ := a7 j d0 hd
        exact ⟨u, q1, q2, key d0 u q3⟩
  · refine ⟨hx.size, hx.os, hx.tape, hx.output, hx.set, hx.fresh, hx.heap, fun i bi gz h1 h2 => ?_, hx.new⟩
    obtain ⟨bx1, gz1, p1, p2, p3, p4, p5, p6⟩ := hx.box i bi gz h1 h2
    by_cases e : i = b
    · have h9 := (hget i bx1 p1).2 e
      subst e
      rw [hb] at p1; cases p1
      refine ⟨_, gz1, h9, p2, by show bi.ver ≤ w; omega, fun e => p4 (by have e1 : bi.ver = w := e; omega), fun hd => ?_, p6⟩
      have := p5 hd
      rw [hl] at this; cases this
    · exact ⟨_, gz1, (hget i bx1 p1).1 e, p2, p3, p4, p5, p6⟩
/-- Some boxes are kept, others let go; a box that is kept may take the place of one that is let go, if its version is later. -/
theorem Turn.keep2 {k : Nat} {st : Store} (κ : List Nat) (hn : κ.Nodup) (hv : ∀ b ∈ κ, b < st.length) (hk : ∀ j b, κ[j]? = some b → b < k → j = b)
    (hr : ∀ j, j < k → κ[j]? = some j ∨ ∃ b bj bb, κ[j]? = some b ∧ k ≤ b ∧ st[j]? = some bj ∧ st[b]? = some bb ∧ bj.live = true ∧ bj.ver < bb.ver) : Turn k st (keepSt κ st) fun d d' => d' = pullD κ d := by
  intro E hc hst
  subst hst
  have hlen := hc.len
  let E' : Env := ⟨E.w, E.S, κ.map fun b => E.σ.getD b (0, 0), keepSt κ E.st⟩
  have hget : ∀ (j b : Nat), κ[j]? = some b → ∃ bx gz, E.st[b]? = some bx ∧ E.σ[b]? = some gz ∧ E'.st[j]? = some (pullBox κ bx) ∧ E'.σ[j]? = some gz := by
    intro j b hj
    have hb := hv b (List.mem_of_getElem? hj)
    refine ⟨E.st[b], E.σ[b]'(by omega), List.getElem?_eq_getElem _, List.getElem?_eq_getElem _, ?_, ?_⟩
    · simp [E', keepSt, hj, List.getD_eq_getElem?_getD, List.getElem?_eq_getElem hb]
    · simp [E', hj, List.getD_eq_getElem?_getD, List.getElem?_eq_getElem (show b < E.σ.length by omega)]
  have hidx : ∀ (b j : Nat), κ.idxOf? b = some j → κ[j]? = some b := by
    intro b j h
    obtain ⟨h1, h2, _⟩ := List.idxOf?_eq_some_iff.1 h
    rw [List.getElem?_eq_getElem h1]
    simpa using h2
  have hpull : Pulled E E' κ := ⟨rfl, rfl, fun b j h => by
    obtain ⟨bx, gz, a1, a2, a3, a4⟩ := hget j b (hidx b j h)
    exact ⟨fun bx' h1 => by rw [a1] at h1; cases h1; exact a3, fun gz' h1 => by rw [a2] at h1; cases h1; exact a4⟩⟩
  have hsrc : ∀ (j : Nat) (gz : Nat × Nat), E'.σ[j]? = some gz → ∃ b, κ[j]? = some b ∧ E.σ[b]? = some gz := by
    intro j gz h
    have hj : j < κ.length := by
      have := (List.getElem?_eq_some_iff.1 h).1
      simpa [E'] using this
    obtain ⟨bx, gz', a1, a2, a3, a4⟩ := hget j _ (List.getElem?_eq_getElem hj)
    rw [a4] at h
    cases h
    exact ⟨_, List.getElem?_eq_getElem hj, a2⟩
  have hinj : ∀ (j j' b : Nat), κ[j]? = some b → κ[j']? = some b → j = j' := by
    intro j j' r h1 h2
    obtain ⟨l1, e1⟩ := List.getElem?_eq_some_iff.1 h1
    obtain ⟨l2, e2⟩ := List.getElem?_eq_some_iff.1 h2
    rcases Nat.lt_trichotomy j j' with hlt | heq | hgt
    · exact absurd (e1.trans e2.symm) (List.pairwise_iff_getElem.1 hn j j' l1 l2 hlt)
    · exact heq
    · exact absurd (e2.trans e1.symm) (List.pairwise_iff_getElem.1 hn j' j l2 l1 hgt)
  refine ⟨E', rfl, rfl, ⟨by simp [E', keepSt], fun j bx g z h1 h2 hl => ?_, fun j j' g z g' z' h1 h2 he => ?_, hc.old, fun j g z h => ?_⟩, fun d d' v ht hr => by subst ht; exact Rep.pull hpull d v hr, fun F hF hFk hx => ?_⟩
  · obtain ⟨b, e1, e2⟩ := hsrc j _ h2
    obtain ⟨bx', gz', a1, a2, a3, a4⟩ := hget j b e1
    rw [h1] at a3
    cases a3
    obtain ⟨cur, c1, c2, c3, c4, c5, c6, c7, c8⟩ := hc.box b bx' g z a1 e2 hl
    refine ⟨cur, c1, c2, by simpa [pullBox, pullL_eq] using c3, fun he => by simpa [pullBox, pullL_eq] using c4 he, c5, c6, fun i d hi => ?_, c8⟩
    simp only [pullBox, pullL_eq, List.getElem?_map] at hi
    cases hd : bx'.cells[i]? with
    | none => rw [hd] at hi; cases hi
    | some d0 =>
      rw [hd] at hi
      simp only [Option.map_some, Option.some.injEq] at hi
      subst hi
      obtain ⟨u, q1, q2, q3⟩ := c7 i d0 hd
      exact ⟨u, q1, q2, Rep.pull hpull d0 u q3⟩
  · obtain ⟨b, e1, e2⟩ := hsrc j _ h1
    obtain ⟨b', e3, e4⟩ := hsrc j' _ h2
    have := hc.inj b b' g z g' z' e2 e4 he
    subst this
    exact hinj j j' b e1 e3
  · obtain ⟨b, e1, e2⟩ := hsrc j _ h
    exact hc.lt b g z e2
  · refine ⟨hx.size, hx.os, hx.tape, hx.output, hx.set, hx.fresh, hx.heap, fun b bx gz h1 h2 => ?_, fun j gz h1 h2 => ?_⟩
    · have hb := (List.getElem?_eq_some_iff.1 h1).1
      obtain ⟨bx', gz', a1, a2, a3, a4, a5, a6⟩ := hx.box b bx gz h1 h2
      rcases hr b (by omega) with hkb | ⟨b', bj, bb, q1, q2, q3, q4, q5, q6⟩
      · obtain ⟨bx2, gz2, b1, b2, b3, b4⟩ := hget b b hkb
        rw [a1] at b1; cases b1
        rw [a2] at b2; cases b2
        exact ⟨_, _, b3, b4, a3, a4, a5, a6⟩
      · obtain ⟨bx2, gz2, b1, b2, b3, b4⟩ := hget b b' q1
        rw [q4] at b1; cases b1
        rw [q3] at a1; cases a1
        refine ⟨_, _, b3, b4, by show bx.ver ≤ bb.ver; omega, fun e => by have e1 : bx.ver = bb.ver := e; omega, fun hd => ?_, .inr ?_⟩
        · have := a5 hd
          rw [q5] at this; cases this
        · exact hx.new b' gz2 (List.getElem?_eq_none (by omega)) b2
    · obtain ⟨b, e1, e2⟩ := hsrc j _ h2
      have hj := List.getElem?_eq_none_iff.1 h1
      refine hx.new b gz ?_ e2
      rw [List.getElem?_eq_none_iff]
      rcases Nat.lt_or_ge b F.σ.length with hlt | hge
      · have := hk j b e1 (by omega)
        omega
      · exact hge
def keep2B (k : Nat) (κ : List Nat) (n : Nat) : Bool := decide κ.Nodup && κ.all (fun b => decide (b < n)) && decide (k ≤ κ.length) && (List.range κ.length).all fun j => match κ[j]? with | some b => decide (k ≤ b) || b == j | none => false
/-- Who takes another one's place is of a later version. -/
def laterP (st : Store) (κ : List Nat) : Nat → Prop
  | 0 => True
  | j + 1 => laterP st κ j ∧ (κ[j]? = some j ∨ ∃ bj bb, st[j]? = some bj ∧ st[(κ[j]?).getD 0]? = some bb ∧ bj.live = true ∧ bj.ver < bb.ver)
theorem laterP_get {st : Store} {κ : List Nat} : ∀ {k : Nat}, laterP st κ k → ∀ j, j < k → κ[j]? = some j ∨ ∃ bj bb, st[j]? = some bj ∧ st[(κ[j]?).getD 0]? = some bb ∧ bj.live = true ∧ bj.ver < bb.ver
  | 0, _, j, h => absurd h (by omega)
  | k + 1, h, j, hj => by
      rcases Nat.lt_or_ge j k with h1 | h1
      · exact laterP_get h.1 j h1
      · obtain rfl : j = k := by omega
        exact h.2
theorem turn_keep2 {k : Nat} {st : Store} (κ : List Nat) (h : keep2B k κ st.length = true) (hl : laterP st κ k) : Turn k st (keepSt κ st) fun d d' => d' = pullD κ d := by
  simp only [keep2B, Bool.and_eq_true, decide_eq_true_eq, List.all_eq_true, List.mem_range] at h
  obtain ⟨⟨⟨h1, h2⟩, h3⟩, h4⟩ := h
  have h5 : ∀ j b, κ[j]? = some b → k ≤ b ∨ b = j := by
    intro j b hj
    have := h4 j (List.getElem?_eq_some_iff.1 hj).1
    rw [hj] at this
    simpa [Bool.or_eq_true, decide_eq_true_eq, beq_iff_eq] using this
  refine Turn.keep2 κ h1 h2 (fun j b hj hb => ?_) fun j hj => ?_
  · rcases h5 j b hj with e | e
    · omega
    · exact e.symm
  · rcases laterP_get hl j hj with e | ⟨bj, bb, q1, q2, q3, q4⟩
    · exact .inl e
    · have hjl : j < κ.length := by omega
      have hg := List.getElem?_eq_getElem hjl
      rw [hg] at q2
      rcases h5 j _ hg with e | e
      · exact .inr ⟨κ[j], bj, bb, hg, e, q1, q2, q3, q4⟩
      · exact .inl (by rw [hg, e])
theorem ret_turn {k : Nat} {R : DV → Store → Prop} {d : DV} {st st' : Store} {f : DV → DV} (ht : Turn k st st' fun d d' => d' = f d) (h : RetW k R (f d) st') : RetW k R d st := by
  obtain ⟨d', st2, h1, h2⟩ := h
  exact ⟨d', st2, TellsV.trans (TellsV.turn ht rfl) h1, h2⟩
theorem ret_bump2 {k : Nat} {R : DV → Store → Prop} {d : DV} {st : Store} (b w : Nat) (bx : Box) (hb : st[b]? = some bx) (hl : bx.live = true) (hv : bx.ver ≤ w) (h : RetW k R (bumpD b bx.ver w d) (bumpSt b w st)) : RetW k R d st := ret_turn (Turn.bump b w bx hb hl hv) h
theorem ret_keep2 {k : Nat} {R : DV → Store → Prop} {d : DV} {st : Store} (κ : List Nat) (h : keep2B k κ st.length = true) (hl : laterP st κ k) (hr : RetW k R (pullD κ d) (keepSt κ st)) : RetW k R d st := ret_turn (turn_keep2 κ h hl) hr
theorem ret_freeze {k : Nat} {R : DV → Store → Prop} {d : DV} {st : Store} (b sz : Nat) (xs : List (List PD)) (bx : Box) (hb : st[b]? = some bx) (hl : bx.live = true) (hkb : k ≤ b) (hcells : bx.cells = rowsD xs) (hsz : ∀ x ∈ xs, x.length = sz) (h : RetW k R (fzD b bx.ver sz xs d) (fzSt b sz xs st)) : RetW k R d st := ret_turn (Turn.freeze b sz xs bx hb hl hkb hcells hsz) h
end Go.Proofs.Ytmjmbfcfnhnpmaa
