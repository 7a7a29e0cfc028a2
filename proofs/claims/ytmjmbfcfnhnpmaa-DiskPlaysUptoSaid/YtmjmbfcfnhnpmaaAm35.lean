/- The program logic, thirty-fifth part: a row's room is told, and hidden again; slices of one's own settled by a call; nothing for a settled slice. No condition: lemmas of any program. -/
import Derived.Test.YtmjmbfcfnhnpmaaAm34
namespace Go.Proofs.Ytmjmbfcfnhnpmaa
open Go.RowKit
set_option linter.all false
/-- How 'cbv' leaves a number's cast. -/
theorem nc (k : Nat) : (NatCast.natCast k : Int) = (k : Int) := rfl
/-- One box told otherwise: of the same type, version, life. -/
theorem retell_env {E : Env} (hc : Conc E) {b : Nat} {bx bx' : Box} (hb : E.st[b]? = some bx) (hty : bx'.ty = bx.ty) (hver : bx'.ver = bx.ver) (hlive : bx'.live = bx.live)
    (h : ∀ (g z : Nat) (cur : Array Value), E.σ[b]? = some (g, z) → bx.live = true → E.w.heap[g]? = some (.cells cur bx.ty (0, 0)) → cur.size = z → bx.cells.length ≤ z → (bx.ext = false → bx.cells.length = z) →
      bx'.cells.length ≤ z ∧ (bx'.ext = false → bx'.cells.length = z) ∧ ∀ (j : Nat) (d : DV), bx'.cells[j]? = some d → bx.cells[j]? = some d ∨ d = .any) :
    Conc ⟨E.w, E.S, E.σ, E.st.set b bx'⟩ ∧ Ext E ⟨E.w, E.S, E.σ, E.st.set b bx'⟩ := by
  have hbl := (List.getElem?_eq_some_iff.1 hb).1
  have hx : Ext E ⟨E.w, E.S, E.σ, E.st.set b bx'⟩ := by
    refine ⟨Nat.le_refl _, rfl, rfl, rfl, fun _ h => h, fun _ h => .inl h, fun _ _ _ => rfl, fun i bi gz h1 h2 => ?_, fun i gz h1 h2 => by simp only at h2; rw [h1] at h2; cases h2⟩
    by_cases e : i = b
    · subst e
      rw [hb] at h1; cases h1
      exact ⟨bx', gz, by simp [hbl], h2, by omega, fun _ => rfl, fun hl => by rw [hlive]; exact hl, .inl rfl⟩
    · exact ⟨bi, gz, by simp [Ne.symm e, h1], h2, Nat.le_refl _, fun _ => rfl, id, .inl rfl⟩
  refine ⟨⟨by simp [hc.len], fun i bi g z h1 h2 hl => ?_, hc.inj, hc.old, hc.lt⟩, hx⟩
  by_cases e : i = b
  · subst e
    simp [hbl] at h1
    subst h1
    rw [hlive] at hl
    obtain ⟨cur, a1, a2, a3, a4, a5, a6, a7, a8⟩ := hc.box i bx g z hb h2 hl
    obtain ⟨k1, k2, k3⟩ := h g z cur h2 hl a1 a2 a3 a4
    refine ⟨cur, by rw [hty]; exact a1, a2, k1, k2, trivial, a6, fun j d hj => ?_, a8⟩
    rcases k3 j d hj with q | rfl
    · obtain ⟨u, e1, e2, e3⟩ := a7 j d q
      exact ⟨u, e1, e2, Rep.ext hc hx d u e3⟩
    · have hjl := (List.getElem?_eq_some_iff.1 hj).1
      have : j < cur.size := by omega
      exact ⟨cur[j], by simp [this], a8 j _ (by simp [this]), trivial⟩
  · simp [Ne.symm e] at h1
    obtain ⟨cur, a1, a2, a3, a4, a5, a6, a7, a8⟩ := hc.box i bi g z h1 h2 hl
    refine ⟨cur, a1, a2, a3, a4, a5, a6, fun j d hj => ?_, a8⟩
    obtain ⟨u, e1, e2, e3⟩ := a7 j d hj
    exact ⟨u, e1, e2, Rep.ext hc hx d u e3⟩
/-- The room of a row among the arguments is told. -/
theorem FnD.reveal {P : Program} {f : FuncId} {args : List DV} {st : Store} {K : DV → Store → Prop} (b sz n : Nat) (bx : Box) (hb : st[b]? = some bx) (hl : bx.live = true) (hargs : DV.view sz b bx.ver 0 n ∈ args) (hlen : bx.cells.length = n * sz)
    (h : ∀ c : Nat, n ≤ c → FnD P f args (st.set b ⟨bx.ty, bx.cells ++ List.replicate ((c - n) * sz) .any, false, bx.ver, true⟩) K) : FnD P f args st K := by
  intro E vs hc hst hr
  subst hst
  obtain ⟨k, hk⟩ := List.mem_iff_getElem?.1 hargs
  obtain ⟨v, hv, hrep⟩ := hr.get _ _ k _ hk
  obtain ⟨bx1, gz, hb1, hg, _, _, hvv⟩ := hrep
  rw [hb] at hb1; cases hb1
  obtain ⟨c, rfl, hnc, _, hcz⟩ := hvv rfl
  have e1 : n * sz + (c - n) * sz = c * sz := by rw [← Nat.add_mul]; congr 1; omega
  obtain ⟨c1, c2⟩ := retell_env (bx' := ⟨bx.ty, bx.cells ++ List.replicate ((c - n) * sz) .any, false, bx.ver, true⟩) hc hb rfl rfl hl.symm (fun g z cur h1 _ _ _ _ _ => by
    have hz : z = gz.2 := by rw [hg] at h1; cases h1; rfl
    subst hz
    have e2 : (bx.cells ++ List.replicate ((c - n) * sz) DV.any).length = gz.2 := by rw [List.length_append, List.length_replicate]; omega
    refine ⟨by rw [e2]; exact Nat.le_refl _, fun _ => e2, fun j d hj => ?_⟩
    rw [List.getElem?_append] at hj
    split at hj
    · exact .inl hj
    · rw [List.getElem?_replicate] at hj
      split at hj
      · cases hj; exact .inr rfl
      · cases hj)
  refine (h c hnc _ vs c1 rfl (Reps.ext hc c2 _ _ hr)).mono ?_
  rintro e w' ⟨v, E', r, rfl, rfl, h1, h2, h3, h4⟩
  exact ⟨v, E', r, rfl, rfl, h1, h2, Ext.trans hc.len c1.len c2 h3, h4⟩
/-- At the end a row's room is hidden: so many cells of it are told. -/
theorem ret_hide {k : Nat} {R : DV → Store → Prop} {d : DV} {st : Store} (b m : Nat) (bx : Box) (hb : st[b]? = some bx) (h : RetW k R d (st.set b ⟨bx.ty, bx.cells.take m, true, bx.ver, bx.live⟩)) : RetW k R d st := by
  obtain ⟨d', st', ht, hr⟩ := h
  refine ⟨d', st', TellsV.trans ?_ ht, hr⟩
  intro E v hc hst hrep
  subst hst
  obtain ⟨c1, c2⟩ := retell_env (bx' := ⟨bx.ty, bx.cells.take m, true, bx.ver, bx.live⟩) hc hb rfl rfl rfl (fun g z cur _ _ _ _ h1 _ => by
    refine ⟨by rw [List.length_take]; omega, (fun h => by cases h), fun j d hj => ?_⟩
    rw [List.getElem?_take] at hj
    split at hj
    · exact .inl hj
    · cases hj)
  exact ⟨⟨E.w, E.S, E.σ, E.st.set b ⟨bx.ty, bx.cells.take m, true, bx.ver, bx.live⟩⟩, rfl, rfl, c1, Rep.ext hc c2 _ _ hrep, fun F hF _ hx => Ext.trans hF hc.len hx c2⟩
/-- Versions rise, places stay where they don't. -/
theorem Rep.vers {E E' : Env} (hw : E'.w = E.w) (hS : E'.S = E.S) (h : ∀ (i : Nat) (bx : Box) (gz : Nat × Nat), E.st[i]? = some bx → E.σ[i]? = some gz → ∃ (bx' : Box) (gz' : Nat × Nat), E'.st[i]? = some bx' ∧ E'.σ[i]? = some gz' ∧ bx.ver ≤ bx'.ver ∧ (bx.ver = bx'.ver → gz = gz')) :
    ∀ (d : DV) (u : Value), Rep E d u → Rep E' d u := by
  intro d
  refine DV.rec (motive_1 := fun d => ∀ u, Rep E d u → Rep E' d u) (motive_2 := fun ds => ∀ vs, Reps E ds vs → Reps E' ds vs) ?_ ?_ ?_ ?_ ?_ ?_ ?_ ?_ ?_ ?_ d
  · intro u _; trivial
  · intro p u h; simp only [Rep] at h ⊢; rw [hw, hS]; exact h
  · intro cs ih u ⟨vs, h1, h3, h2⟩; exact ⟨vs, h1, h3, ih vs h2⟩
  · intro cs ih u ⟨vs, h1, h2⟩; exact ⟨vs, h1, ih vs h2⟩
  · intro b' ver o u ⟨bi, gz, h1, h2, h0, h3, h4⟩
    obtain ⟨bi', gz', q1, q2, q3, q4⟩ := h b' bi gz h1 h2
    refine ⟨bi', gz', q1, q2, h0, by omega, fun e => ?_⟩
    have e1 : bi.ver = bi'.ver := by omega
    rw [← q4 e1]
    exact h4 (by omega)
  · intro cs u ⟨a, h1, h2, h3⟩
    exact ⟨a, h1, by rw [hS]; exact h2, by rw [hw, hS]; exact h3⟩
  · intro sz' b' ver o n u ⟨bi, gz, h1, h2, h0, h3, h4⟩
    obtain ⟨bi', gz', q1, q2, q3, q4⟩ := h b' bi gz h1 h2
    refine ⟨bi', gz', q1, q2, h0, by omega, fun e => ?_⟩
    have e1 : bi.ver = bi'.ver := by omega
    rw [← q4 e1]
    exact h4 (by omega)
  · intro f cs ih u ⟨vs, h1, h2⟩; exact ⟨vs, h1, ih vs h2⟩
  · intro vs h; cases vs <;> first | trivial | exact h.elim
  · intro d ds ih1 ih2 vs h
    cases vs with
    | nil => exact h.elim
    | cons v vs => exact ⟨ih1 v h.1, ih2 vs h.2⟩
/-- A row of one's own is told as one of a later version. -/
theorem TellsV.bump {k : Nat} {st : Store} {b sz o n : Nat} {bx : Box} (hb : st[b]? = some bx) (hl : bx.live = true) :
    TellsV k (.view sz b bx.ver o n) st (.view sz b (bx.ver + 1) o n) (st.set b ⟨bx.ty, bx.cells, bx.ext, bx.ver + 1, true⟩) := by
  intro E v hc hst hrep
  subst hst
  have hbl := (List.getElem?_eq_some_iff.1 hb).1
  have hv : ∀ (i : Nat) (bi : Box) (gz : Nat × Nat), E.st[i]? = some bi → E.σ[i]? = some gz → ∃ (bx' : Box) (gz' : Nat × Nat), (E.st.set b ⟨bx.ty, bx.cells, bx.ext, bx.ver + 1, true⟩)[i]? = some bx' ∧ E.σ[i]? = some gz' ∧ bi.ver ≤ bx'.ver ∧ (bi.ver = bx'.ver → gz = gz') := by
    intro i bi gz h1 h2
    by_cases e : i = b
    · subst e
      rw [hb] at h1; cases h1
      exact ⟨⟨bx.ty, bx.cells, bx.ext, bx.ver + 1, true⟩, gz, by simp [hbl], h2, by simp, fun _ => rfl⟩
    · exact ⟨bi, gz, by simp [Ne.symm e, h1], h2, Nat.le_refl _, fun _ => rfl⟩
  have key := Rep.vers (E := E) (E' := ⟨E.w, E.S, E.σ, E.st.set b ⟨bx.ty, bx.cells, bx.ext, bx.ver + 1, true⟩⟩) rfl rfl hv
  refine ⟨⟨E.w, E.S, E.σ, E.st.set b ⟨bx.ty, bx.cells, bx.ext, bx.ver + 1, true⟩⟩, rfl, rfl, ⟨by simp [hc.len], fun i bi g z h1 h2 hli => ?_, hc.inj, hc.old, hc.lt⟩, ?_, fun F hF hk hx => ?_⟩
  · simp only at h1 h2
    by_cases e : i = b
    · subst e
      simp [hbl] at h1
      subst h1
      obtain ⟨cur, a1, a2, a3, a4, a5, a6, a7, a8⟩ := hc.box i bx g z hb h2 hl
      refine ⟨cur, a1, a2, a3, a4, a5, a6, fun j d hj => ?_, a8⟩
      obtain ⟨u, e1, e2, e3⟩ := a7 j d hj
      exact ⟨u, e1, e2, key d u e3⟩
    · simp [Ne.symm e] at h1
      obtain ⟨cur, a1, a2, a3, a4, a5, a6, a7, a8⟩ := hc.box i bi g z h1 h2 hli
      refine ⟨cur, a1, a2, a3, a4, a5, a6, fun j d hj => ?_, a8⟩
      obtain ⟨u, e1, e2, e3⟩ := a7 j d hj
      exact ⟨u, e1, e2, key d u e3⟩
  · obtain ⟨bi, gz, h1, h2, h0, h3, h4⟩ := hrep
    rw [hb] at h1; cases h1
    exact ⟨⟨bx.ty, bx.cells, bx.ext, bx.ver + 1, true⟩, gz, by simp [hbl], h2, h0, Nat.le_refl _, fun _ => h4 rfl⟩
  · refine ⟨hx.size, hx.os, hx.tape, hx.output, hx.set, hx.fresh, hx.heap, fun i bi gz h1 h2 => ?_, hx.new⟩
    obtain ⟨bx1, gz1, p1, p2, p3, p4, p5, p6⟩ := hx.box i bi gz h1 h2
    by_cases e : i = b
    · subst e
      rw [hb] at p1; cases p1
      refine ⟨⟨bx.ty, bx.cells, bx.ext, bx.ver + 1, true⟩, gz1, by simp [hbl], p2, by show bi.ver ≤ bx.ver + 1; omega, fun e => by have e1 : bi.ver = bx.ver + 1 := e; omega, fun hd => ?_, p6⟩
      have := p5 hd
      rw [hl] at this; cases this
    · exact ⟨bx1, gz1, by simp [Ne.symm e, p1], p2, p3, p4, p5, p6⟩
theorem ret_bump {k : Nat} {R : DV → Store → Prop} {st : Store} {b sz o n ver ty : Nat} {cells : List DV} {ext : Bool} (hb : st[b]? = some ⟨ty, cells, ext, ver, true⟩) (h : RetW k R (.view sz b (ver + 1) o n) (st.set b ⟨ty, cells, ext, ver + 1, true⟩)) : RetW k R (.view sz b ver o n) st := by
  obtain ⟨d', st', ht, hr⟩ := h
  exact ⟨d', st', TellsV.trans (TellsV.bump (bx := ⟨ty, cells, ext, ver, true⟩) hb rfl) ht, hr⟩
def toldUP (s : SL) : SL → Prop
  | [] => True
  | (i, d) :: l => (UpD (getS s i) d ∨ d = .any) ∧ toldUP s l
theorem toldUP_get {s : SL} : ∀ {l : SL}, toldUP s l → ∀ i, UpD (getS s i) (getS l i) ∨ getS l i = .any
  | [], _, i => .inr rfl
  | (j, d) :: l, h, i => by
      by_cases hi : i = j
      · subst hi
        simpa [getS] using h.1
      · have := toldUP_get h.2 i
        have e : getS ((j, d) :: l) i = getS l i := by
          have e0 : (i == j) = false := by simp [hi]
          simp only [getS, e0]
        rw [e]
        exact this
end Go.Proofs.Ytmjmbfcfnhnpmaa
