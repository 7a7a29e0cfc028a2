/- The program logic, thirty-fifth part: a row's room is told, and hidden again; slices of one's own settled by a call; nothing for a settled slice. No condition: lemmas of any program. -/
import Derived.Test.YtbhapclaochcnaaAm34
namespace Go.Proofs.Ytbhapclaochcnaa
open Go.RowKit
set_option linter.all false
/-- How 'cbv' leaves a number's cast. -/
theorem nc (k : Nat) : (NatCast.natCast k : Int) = (k : Int) := rfl
/-- Versions rise, places stay where they don't. -/
theorem Rep.vers {E E' : Env} (hw : E'.w = E.w) (hS : E'.S = E.S) (h : ∀ (i : Nat) (bx : Box) (gz : Nat × Nat), E.st[i]? = some bx → E.σ[i]? = some gz → ∃ (bx' : Box) (gz' : Nat × Nat), E'.st[i]? = some bx' ∧ E'.σ[i]? = some gz' ∧ bx.ver ≤ bx'.ver ∧ (bx.ver = bx'.ver → gz = gz')) :
    ∀ (d : DV) (u : Value), Rep E d u → Rep E' d u := by
  intro d
  refine DV.rec (motive_1 := fun d => ∀ u, Rep E d u → Rep E' d u) (motive_2 := fun ds => ∀ vs, Reps E ds vs → Reps E' ds vs) ?_ ?_ ?_ ?_ ?_ ?_ ?_ ?_ ?_ ?_ d
  · intro u _; trivial
  · intro p u h; simp only [Rep] at h ⊢; rw [hw, hS]; exact h
  · intro cs ih u ⟨vs, h1, h3, h2⟩; exact ⟨vs, h1, h3, ih vs h2⟩
  · intro cs ih u ⟨vs, h1, h2⟩; exact ⟨vs, h1, ih vs h2⟩
  · intro b' ver o u ⟨bi, gz, h1, h2, h0, h3, h4⟩
    obtain ⟨bi', gz', q1, q2, q3, q4⟩ := h b' bi gz h1 h2
    refine ⟨bi', gz', q1, q2, h0, by omega, fun e => ?_⟩
    have e1 : bi.ver = bi'.ver := by omega
    rw [← q4 e1]
    exact h4 (by omega)
  · intro cs u ⟨a, h1, h2, h3⟩
    exact ⟨a, h1, by rw [hS]; exact h2, by rw [hw, hS]; exact h3⟩
  · intro sz' b' ver o n u ⟨bi, gz, h1, h2, h0, h3, h4⟩
    obtain ⟨bi', gz', q1, q2, q3, q4⟩ := h b' bi gz h1 h2
    refine ⟨bi', gz', q1, q2, h0, by omega, fun e => ?_⟩
    have e1 : bi.ver = bi'.ver := by omega
    rw [← q4 e1]
    exact h4 (by omega)
  · intro f cs ih u ⟨vs, h1, h2⟩; exact ⟨vs, h1, ih vs h2⟩
  · intro vs h; cases vs <;> first | trivial | exact h.elim
  · intro d ds ih1 ih2 vs h
    cases vs with
    | nil => exact h.elim
    | cons v vs => exact ⟨ih1 v h.1, ih2 vs h.2⟩
/-- A row of one's own is told as one of a later version. -/
theorem TellsV.bump {k : Nat} {st : Store} {b sz o n : Nat} {bx : Box} (hb : st[b]? = some bx) (hl : bx.live = true) :
    TellsV k (.view sz b bx.ver o n) st (.view sz b (bx.ver + 1) o n) (st.set b ⟨bx.ty, bx.cells, bx.ext, bx.ver + 1, true⟩) := by
  intro E v hc hst hrep
  subst hst
  have hbl := (List.getElem?_eq_some_iff.1 hb).1
  have hv : ∀ (i : Nat) (bi : Box) (gz : Nat × Nat), E.st[i]? = some bi → E.σ[i]? = some gz → ∃ (bx' : Box) (gz' : Nat × Nat), (E.st.set b ⟨bx.ty, bx.cells, bx.ext, bx.ver + 1, true⟩)[i]? = some bx' ∧ E.σ[i]? = some gz' ∧ bi.ver ≤ bx'.ver ∧ (bi.ver = bx'.ver → gz = gz') := by
    intro i bi gz h1 h2
    by_cases e : i = b
    · subst e
      rw [hb] at h1; cases h1
      exact ⟨⟨bx.ty, bx.cells, bx.ext, bx.ver + 1, true⟩, gz, by simp [hbl], h2, by simp, fun _ => rfl⟩
    · exact ⟨bi, gz, by simp [Ne.symm e, h1], h2, Nat.le_refl _, fun _ => rfl⟩
  have key := Rep.vers (E := E) (E' := ⟨E.w, E.S, E.σ, E.st.set b ⟨bx.ty, bx.cells, bx.ext, bx.ver + 1, true⟩⟩) rfl rfl hv
  refine ⟨⟨E.w, E.S, E.σ, E.st.set b ⟨bx.ty, bx.cells, bx.ext, bx.ver + 1, true⟩⟩, rfl, rfl, ⟨by simp [hc.len], fun i bi g z h1 h2 hli => ?_, hc.inj, hc.old, hc.lt⟩, ?_, fun F hF hk hx => ?_⟩
  · simp only at h1 h2
    by_cases e : i = b
    · subst e
      simp [hbl] at h1
      subst h1
      obtain ⟨cur, a1, a2, a3, a4, a5, a6, a7, a8⟩ := hc.box i bx g z hb h2 hl
      refine ⟨cur, a1, a2, a3, a4, a5, a6, fun j d hj => ?_, a8⟩
      obtain ⟨u, e1, e2, e3⟩ := a7 j d hj
      exact ⟨u, e1, e2, key d u e3⟩
    · simp [Ne.symm e] at h1
      obtain ⟨cur, a1, a2, a3, a4, a5, a6, a7, a8⟩ := hc.box i bi g z h1 h2 hli
      refine ⟨cur, a1, a2, a3, a4, a5, a6, fun j d hj => ?_, a8⟩
      obtain ⟨u, e1, e2, e3⟩ := a7 j d hj
      exact ⟨u, e1, e2, key d u e3⟩
  · obtain ⟨bi, gz, h1, h2, h0, h3, h4⟩ := hrep
    rw [hb] at h1; cases h1
    exact ⟨⟨bx.ty, bx.cells, bx.ext, bx.ver + 1, true⟩, gz, by simp [hbl], h2, h0, Nat.le_refl _, fun _ => h4 rfl⟩
  · refine ⟨hx.size, hx.os, hx.tape, hx.output, hx.set, hx.fresh, hx.heap, fun i bi gz h1 h2 => ?_, hx.new⟩
    obtain ⟨bx1, gz1, p1, p2, p3, p4, p5, p6⟩ := hx.box i bi gz h1 h2
    by_cases e : i = b
    · subst e
      rw [hb] at p1; cases p1
      refine ⟨⟨bx.ty, bx.cells, bx.ext, bx.ver + 1, true⟩, gz1, by simp [hbl], p2, by show bi.ver ≤ bx.ver + 1; omega, fun e => by have e1 : bi.ver = bx.ver + 1 := e; omega, fun hd => ?_, p6⟩
      have := p5 hd
      rw [hl] at this; cases this
    · exact ⟨bx1, gz1, by simp [Ne.symm e, p1], p2, p3, p4, p5, p6⟩
end Go.Proofs.Ytbhapclaochcnaa
