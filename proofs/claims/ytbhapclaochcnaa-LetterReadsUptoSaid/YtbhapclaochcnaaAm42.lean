/- The program logic, forty-second part: a box's version told as a later one; a box that takes the place of another one; contracts told otherwise. No condition: lemmas of any program. -/
import Derived.Test.YtbhapclaochcnaaAm41
namespace Go.Proofs.Ytbhapclaochcnaa
open Go.RowKit
set_option linter.all false
mutual
/-- A box's version is told as a later one. -/
def bumpD (b v w : Nat) : DV → DV
  | .any => .any
  | .d p => .d p
  | .agg cs => .agg (bumpL b v w cs)
  | .tup cs => .tup (bumpL b v w cs)
  | .ref b' ver o => if b' = b ∧ ver = v then .ref b w o else .ref b' ver o
  | .cref cs => .cref cs
  | .view sz b' ver o n => if b' = b ∧ ver = v then .view sz b w o n else .view sz b' ver o n
  | .fn f cs => .fn f (bumpL b v w cs)
def bumpL (b v w : Nat) : List DV → List DV
  | [] => []
  | d :: ds => bumpD b v w d :: bumpL b v w ds
end
theorem bumpL_eq (b v w : Nat) : ∀ ds : List DV, bumpL b v w ds = ds.map (bumpD b v w)
  | [] => rfl
  | d :: ds => by simp [bumpL, bumpL_eq b v w ds]
def bumpSt (b w : Nat) (st : Store) : Store := match st[b]? with
  | some bx => (st.map fun bi => { bi with cells := bumpL b bx.ver w bi.cells }).set b ⟨bx.ty, bumpL b bx.ver w bx.cells, bx.ext, w, bx.live⟩
  | none => st
theorem Rep.bump {E E' : Env} {b w : Nat} {bx : Box} (hw : E'.w = E.w) (hS : E'.S = E.S) (hb : E.st[b]? = some bx) (hv : bx.ver ≤ w) (hσ : E'.σ = E.σ)
    (h : ∀ (i : Nat) (bi : Box), E.st[i]? = some bi → ∃ bi', E'.st[i]? = some bi' ∧ (i ≠ b → bi'.ver = bi.ver) ∧ (i = b → bi'.ver = w)) :
    ∀ (d : DV) (u : Value), Rep E d u → Rep E' (bumpD b bx.ver w d) u := by
  intro d
  refine DV.rec (motive_1 := fun d => ∀ u, Rep E d u → Rep E' (bumpD b bx.ver w d) u) (motive_2 := fun ds => ∀ vs, Reps E ds vs → Reps E' (bumpL b bx.ver w ds) vs) ?_ ?_ ?_ ?_ ?_ ?_ ?_ ?_ ?_ ?_ d
  · intro u _; trivial
  · intro p u h; simp only [bumpD, Rep] at h ⊢; rw [hw, hS]; exact h
  · intro cs ih u ⟨vs, h1, h3, h2⟩; exact ⟨vs, h1, h3, ih vs h2⟩
  · intro cs ih u ⟨vs, h1, h2⟩; exact ⟨vs, h1, ih vs h2⟩
  · intro b' ver o u ⟨bi, gz, h1, h2, h0, h3, h4⟩
    obtain ⟨bi', q1, q2, q3⟩ := h b' bi h1
    simp only [bumpD]
    split
    · rename_i e
      obtain ⟨rfl, rfl⟩ := e
      rw [hb] at h1; cases h1
      exact ⟨bi', gz, q1, by rw [hσ]; exact h2, h0, by rw [q3 rfl]; exact Nat.le_refl _, fun _ => h4 rfl⟩
    · rename_i e
      refine ⟨bi', gz, q1, by rw [hσ]; exact h2, h0, ?_, ?_⟩
      · by_cases eb : b' = b
        · subst eb; rw [hb] at h1; cases h1; rw [q3 rfl]; omega
        · rw [q2 eb]; exact h3
      · by_cases eb : b' = b
        · subst eb; rw [hb] at h1; cases h1; rw [q3 rfl]; intro ev; exact absurd ⟨rfl, by omega⟩ e
        · rw [q2 eb]; exact h4
  · intro cs u ⟨a, h1, h2, h3⟩
    exact ⟨a, h1, by rw [hS]; exact h2, by rw [hw, hS]; exact h3⟩
  · intro sz' b' ver o n u ⟨bi, gz, h1, h2, h0, h3, h4⟩
    obtain ⟨bi', q1, q2, q3⟩ := h b' bi h1
    simp only [bumpD]
    split
    · rename_i e
      obtain ⟨rfl, rfl⟩ := e
      rw [hb] at h1; cases h1
      exact ⟨bi', gz, q1, by rw [hσ]; exact h2, h0, by rw [q3 rfl]; exact Nat.le_refl _, fun _ => h4 rfl⟩
    · rename_i e
      refine ⟨bi', gz, q1, by rw [hσ]; exact h2, h0, ?_, ?_⟩
      · by_cases eb : b' = b
        · subst eb; rw [hb] at h1; cases h1; rw [q3 rfl]; omega
        · rw [q2 eb]; exact h3
      · by_cases eb : b' = b
        · subst eb; rw [hb] at h1; cases h1; rw [q3 rfl]; intro ev; exact absurd ⟨rfl, by omega⟩ e
        · rw [q2 eb]; exact h4
  · intro f cs ih u ⟨vs, h1, h2⟩; exact ⟨vs, h1, ih vs h2⟩
  · intro vs h; cases vs <;> first | trivial | exact h.elim
  · intro d ds ih1 ih2 vs h
    cases vs with
    | nil => exact h.elim
    | cons v vs => exact ⟨ih1 v h.1, ih2 vs h.2⟩
theorem Turn.bump {k : Nat} {st : Store} (b w : Nat) (bx : Box) (hb : st[b]? = some bx) (hl : bx.live = true) (hv : bx.ver ≤ w) : Turn k st (bumpSt b w st) fun d d' => d' = bumpD b bx.ver w d := by
  intro E hc hst
  subst hst
  have hbl := (List.getElem?_eq_some_iff.1 hb).1
  have est : bumpSt b w E.st = (E.st.map fun bi => { bi with cells := bumpL b bx.ver w bi.cells }).set b ⟨bx.ty, bumpL b bx.ver w bx.cells, bx.ext, w, bx.live⟩ := by unfold bumpSt; rw [hb]
  have hget : ∀ (i : Nat) (bi : Box), E.st[i]? = some bi → (i ≠ b → (bumpSt b w E.st)[i]? = some { bi with cells := bumpL b bx.ver w bi.cells }) ∧ (i = b → (bumpSt b w E.st)[i]? = some ⟨bx.ty, bumpL b bx.ver w bx.cells, bx.ext, w, bx.live⟩) := by
    intro i bi hi
    rw [est]
    constructor
    · intro e; simp [Ne.symm e, hi]
    · intro e; subst e; simp [hbl]
  have key := Rep.bump (E := E) (E' := ⟨E.w, E.S, E.σ, bumpSt b w E.st⟩) rfl rfl hb hv rfl fun i bi hi => by
    by_cases e : i = b
    · exact ⟨_, (hget i bi hi).2 e, fun h => absurd e h, fun _ => rfl⟩
    · exact ⟨_, (hget i bi hi).1 e, fun _ => rfl, fun h => absurd h e⟩
  refine ⟨⟨E.w, E.S, E.σ, bumpSt b w E.st⟩, rfl, rfl, ⟨?_, ?_, hc.inj, hc.old, hc.lt⟩, fun d d' v ht hr => by subst ht; exact key d v hr, fun F hF hFk hx => ?_⟩
  · show E.σ.length = (bumpSt b w E.st).length
    rw [est]; simp [hc.len]
  · intro i bi' g z h1 h2 hli
    simp only at h1 h2
    have hil : i < E.st.length := by
      have := (List.getElem?_eq_some_iff.1 h1).1
      rw [est] at this; simpa using this
    have hi := List.getElem?_eq_getElem hil
    by_cases e : i = b
    · subst e
      rw [(hget i _ hi).2 rfl] at h1
      cases h1
      obtain ⟨cur, a1, a2, a3, a4, a5, a6, a7, a8⟩ := hc.box i bx g z hb h2 hl
      refine ⟨cur, a1, a2, by simpa [bumpL_eq] using a3, fun he => by simpa [bumpL_eq] using a4 he, a5, a6, fun j d hj => ?_, a8⟩
      simp only [bumpL_eq, List.getElem?_map] at hj
      cases hd : bx.cells[j]? with
      | none => rw [hd] at hj; cases hj
      | some d0 =>
        rw [hd] at hj
        simp only [Option.map_some, Option.some.injEq] at hj
        subst hj
        obtain ⟨u, q1, q2, q3⟩ := a7 j d0 hd
        exact ⟨u, q1, q2, key d0 u q3⟩
    · rw [(hget i _ hi).1 e] at h1
      cases h1
      obtain ⟨cur, a1, a2, a3, a4, a5, a6, a7, a8⟩ := hc.box i _ g z hi h2 hli
      refine ⟨cur, a1, a2, by simpa [bumpL_eq] using a3, fun he => by simpa [bumpL_eq] using a4 he, a5, a6, fun j d hj => ?_, a8⟩
      simp only [bumpL_eq, List.getElem?_map] at hj
      cases hd : (E.st[i]).cells[j]? with
      | none => rw [hd] at hj; cases hj
      | some d0 =>
        rw [hd] at hj
        simp only [Option.map_some, Option.some.injEq] at hj
        subst hj
        obtain ⟨u, q1, q2, q3⟩ := a7 j d0 hd
        exact ⟨u, q1, q2, key d0 u q3⟩
  · refine ⟨hx.size, hx.os, hx.tape, hx.output, hx.set, hx.fresh, hx.heap, fun i bi gz h1 h2 => ?_, hx.new⟩
    obtain ⟨bx1, gz1, p1, p2, p3, p4, p5, p6⟩ := hx.box i bi gz h1 h2
    by_cases e : i = b
    · have h9 := (hget i bx1 p1).2 e
      subst e
      rw [hb] at p1; cases p1
      refine ⟨_, gz1, h9, p2, by show bi.ver ≤ w; omega, fun e => p4 (by have e1 : bi.ver = w := e; omega), fun hd => ?_, p6⟩
      have := p5 hd
      rw [hl] at this; cases this
    · exact ⟨_, gz1, (hget i bx1 p1).1 e, p2, p3, p4, p5, p6⟩
theorem ret_turn {k : Nat} {R : DV → Store → Prop} {d : DV} {st st' : Store} {f : DV → DV} (ht : Turn k st st' fun d d' => d' = f d) (h : RetW k R (f d) st') : RetW k R d st := by
  obtain ⟨d', st2, h1, h2⟩ := h
  exact ⟨d', st2, TellsV.trans (TellsV.turn ht rfl) h1, h2⟩
theorem ret_bump2 {k : Nat} {R : DV → Store → Prop} {d : DV} {st : Store} (b w : Nat) (bx : Box) (hb : st[b]? = some bx) (hl : bx.live = true) (hv : bx.ver ≤ w) (h : RetW k R (bumpD b bx.ver w d) (bumpSt b w st)) : RetW k R d st := ret_turn (Turn.bump b w bx hb hl hv) h
end Go.Proofs.Ytbhapclaochcnaa
