/- The program logic, thirty-seventh part: statements and functions with a map of numbers besides the boxes. No condition: lemmas of any program. -/
import Derived.Test.YtmjmbfcfnhnpmaaAm36
namespace Go.Proofs.Ytmjmbfcfnhnpmaa
open Go.RowKit Go.Maps
set_option linter.all false

mutual
theorem RepP.same {w w' : World} {S : Nat → Prop} (h : ∀ a, w'.cell? a = w.cell? a) : ∀ (p : PD) (u : Value), RepP w S p u → RepP w' S p u
  | .sc _, _, hr => hr
  | .slc sz xs, u, .inl h1 => .inl h1
  | .slc sz xs, u, .inr ⟨a, c, h1, h2, h3, h4, h5⟩ => .inr ⟨a, c, h1, h2, h3, h4, RowsP.same h sz xs a h5⟩
theorem RowsP.same {w w' : World} {S : Nat → Prop} (h : ∀ a, w'.cell? a = w.cell? a) (sz : Nat) : ∀ (xs : List (List PD)) (a : Addr), RowsP w S sz xs a → RowsP w' S sz xs a
  | [], _, _ => trivial
  | x :: xs, a, ⟨h1, h2, h3⟩ => ⟨h1, CellsP.same h x a h2, RowsP.same h sz xs (a.add sz) h3⟩
theorem CellsP.same {w w' : World} {S : Nat → Prop} (h : ∀ a, w'.cell? a = w.cell? a) : ∀ (ps : List PD) (a : Addr), CellsP w S ps a → CellsP w' S ps a
  | [], _, _ => trivial
  | p :: ps, a, ⟨⟨u, h1, h2, h3⟩, h4⟩ => ⟨⟨u, (h a).trans h1, h2, RepP.same h p u h3⟩, CellsP.same h ps (a.add 1) h4⟩
end
mutual
theorem Rep.same {E : Env} {w' : World} (h : ∀ a, w'.cell? a = E.w.cell? a) : ∀ (d : DV) (u : Value), Rep E d u → Rep ⟨w', E.S, E.σ, E.st⟩ d u
  | .any, _, _ => trivial
  | .d p, u, hr => RepP.same h p u hr
  | .agg cs, _, ⟨vs, h1, h3, h2⟩ => ⟨vs, h1, h3, Reps.same h cs vs h2⟩
  | .tup cs, _, ⟨vs, h1, h2⟩ => ⟨vs, h1, Reps.same h cs vs h2⟩
  | .fn _ cs, _, ⟨vs, h1, h2⟩ => ⟨vs, h1, Reps.same h cs vs h2⟩
  | .ref b ver o, u, hr => hr
  | .cref cs, _, ⟨a, h1, h2, h3⟩ => ⟨a, h1, h2, CellsP.same h cs a h3⟩
  | .view sz b ver o n, u, hr => hr
theorem Reps.same {E : Env} {w' : World} (h : ∀ a, w'.cell? a = E.w.cell? a) : ∀ (ds : List DV) (vs : List Value), Reps E ds vs → Reps ⟨w', E.S, E.σ, E.st⟩ ds vs
  | [], [], _ => trivial
  | d :: ds, v :: vs, ⟨h1, h2⟩ => ⟨Rep.same h d v h1, Reps.same h ds vs h2⟩
  | [], _ :: _, h => h.elim
  | _ :: _, [], h => h.elim
end
/-- A map turns. -/
theorem mapTurn {B E : Env} (hc : Conc E) {N g : Nat} {s : Slots} {a : Act} (hs : SlotsOk E N s a) (hx : Ext B E) (hBg : B.w.heap.size ≤ g) {es es' : Array MapEntry} {clock clock' : Nat} (hg : E.w.heap[g]? = some (.map es clock)) :
    Conc ⟨{ E.w with heap := E.w.heap.setIfInBounds g (.map es' clock') }, E.S, E.σ, E.st⟩ ∧ SlotsOk ⟨{ E.w with heap := E.w.heap.setIfInBounds g (.map es' clock') }, E.S, E.σ, E.st⟩ N s a ∧ Ext B ⟨{ E.w with heap := E.w.heap.setIfInBounds g (.map es' clock') }, E.S, E.σ, E.st⟩ := by
  have hlt : g < E.w.heap.size := (Array.getElem?_eq_some_iff.1 hg).1
  have hne : ∀ k, k ≠ g → (E.w.heap.setIfInBounds g (.map es' clock'))[k]? = E.w.heap[k]? := fun k hk => by simp [Ne.symm hk]
  have hcell : ∀ ad : Addr, World.cell? { E.w with heap := E.w.heap.setIfInBounds g (.map es' clock') } ad = E.w.cell? ad := by
    intro ad
    unfold World.cell?
    by_cases e : ad.block = g
    · simp only [e, hg, Array.getElem?_setIfInBounds_self, hlt]
      simp [hlt]
    · simp only [hne _ e]
  have hrep := fun d u => Rep.same (E := E) hcell d u
  refine ⟨⟨hc.len, fun b bx g' z h1 h2 hl => ?_, hc.inj, fun k hk => by simpa using hc.old k hk, fun b g' z h => by simpa using hc.lt b g' z h⟩, ⟨hs.size, fun i => hrep _ _ (hs.rep i), hs.defers⟩, ?_⟩
  · obtain ⟨cur, a1, a2, a3, a4, a5, a6, a7, a8⟩ := hc.box b bx g' z h1 h2 hl
    have hgg : g' ≠ g := fun e => by subst e; rw [hg] at a1; cases a1
    refine ⟨cur, by rw [← a1]; exact hne g' hgg, a2, a3, a4, a5, a6, fun j d hj => ?_, a8⟩
    obtain ⟨u, b1, b2, b3⟩ := a7 j d hj
    exact ⟨u, b1, b2, hrep d u b3⟩
  · exact ⟨by simpa using hx.size, hx.os, hx.tape, hx.output, hx.set, hx.fresh, fun k hk hn => by rw [← hx.heap k hk hn]; exact hne k (by omega), hx.box, hx.new⟩

/-- What is known of the map: nothing (there is none yet), or its block and what it holds. -/
abbrev MS := Option (Nat × (Value → Int))
def MapS (P : Program) (kt : TypeId) (B : Env) (y : MS) (w : World) : Prop := match y with
  | none => True
  | some (g, F) => B.w.heap.size ≤ g ∧ MapAny P kt g F w
theorem map_old {E E' : Env} (hc : Conc E) (hx : Ext E E') {g : Nat} {es : Array MapEntry} {clock : Nat} (h : E.w.heap[g]? = some (.map es clock)) : E'.w.heap[g]? = some (.map es clock) := by
  rw [hx.heap g (Array.getElem?_eq_some_iff.1 h).1 fun b z bx h1 h2 => ?_]
  · exact h
  · cases hl : bx.live with
    | false => rfl
    | true =>
      obtain ⟨cur, a1, _⟩ := hc.box b bx g z h2 h1 hl
      rw [h] at a1
      cases a1
theorem MapS.ext {P : Program} {kt : TypeId} {B : Env} {y : MS} {E E' : Env} (hc : Conc E) (h : MapS P kt B y E.w) (hx : Ext E E') : MapS P kt B y E'.w := by
  cases y with
  | none => trivial
  | some p =>
    obtain ⟨h1, es, clock, h2, h3⟩ := h
    exact ⟨h1, es, clock, map_old hc hx h2, h3⟩
/-- What a statement comes to, with a map. -/
def wpG (P : Program) (N : Nat) (B : Env) (kt : TypeId) (c : Code) (Q : Exit → SL → Store → MS → Prop) (s : SL) (st : Store) (y : MS) : Prop :=
  ∀ (E : Env) (a : Act), Conc E → E.st = st → SlotsOk E N (getS s) a → Ext B E → MapS P kt B y E.w →
    c.wp P (fun e a' w' => ∃ (l : SL) (E' : Env) (y' : MS), E'.w = w' ∧ Q e l E'.st y' ∧ Conc E' ∧ Ext B E' ∧ MapS P kt B y' E'.w ∧ SlotsOk E' N (getS l) a') a E.w
section
variable {P : Program} {N : Nat} {B : Env} {kt : TypeId} {Q : Exit → SL → Store → MS → Prop} {s : SL} {st : Store} {y : MS}
theorem wpG_frame (hB : B.σ.length = B.st.length) {c : Code} (h : wpD P N c (lessQ fun e l st' => Q e l st' y) (getS s) st) : wpG P N B kt c Q s st y := by
  intro E a hc hst hs hx hM
  refine wp_mono (h E a hc hst hs) ?_
  rintro e a' w' ⟨s', E', rfl, ⟨l, hl, hq⟩, h1, h2, h3⟩
  exact ⟨l, E', y, rfl, hq, h1, Ext.trans hB hc.len hx h2, hM.ext hc h2, h3.less hl⟩
theorem wpG_mono {c : Code} {Q' : Exit → SL → Store → MS → Prop} (h : wpG P N B kt c Q s st y) (hq : ∀ e l st y, Q e l st y → Q' e l st y) : wpG P N B kt c Q' s st y :=
  fun E a h1 h2 h3 h4 h5 => wp_mono (h E a h1 h2 h3 h4 h5) fun _ _ _ ⟨l, E', y', k1, k2, k3⟩ => ⟨l, E', y', k1, hq _ _ _ _ k2, k3⟩
def thenG (next : SL → Store → MS → Prop) (Q : Exit → SL → Store → MS → Prop) : Exit → SL → Store → MS → Prop
  | .normal, s, st, y => next s st y
  | e, s, st, y => Q e s st y
def blockG (id : Nat) (Q : Exit → SL → Store → MS → Prop) : Exit → SL → Store → MS → Prop
  | .exit id', s, st, y => (match (id' == id) with
    | true => Q .normal s st y
    | false => Q (.exit id') s st y)
  | e, s, st, y => Q e s st y
theorem wpG_seq {x z : Code} (h : wpG P N B kt x (thenG (wpG P N B kt z Q) Q) s st y) : wpG P N B kt (.seq x z) Q s st y := by
  intro E a hc hst hs hx hM
  refine wp_seq (wp_mono (h E a hc hst hs hx hM) ?_)
  rintro e a' w' ⟨l, E', y', rfl, hq, h1, h2, h3, h4⟩
  cases e <;> first
    | exact hq E' a' h1 rfl h4 h2 h3
    | exact ⟨l, E', y', rfl, hq, h1, h2, h3, h4⟩
theorem wpG_block {id : Nat} {c : Code} (h : wpG P N B kt c (blockG id Q) s st y) : wpG P N B kt (.block id c) Q s st y := by
  intro E a hc hst hs hx hM
  refine wp_block (wp_mono (h E a hc hst hs hx hM) ?_)
  rintro e a' w' ⟨l, E', y', rfl, hq, h1, h2, h3, h4⟩
  cases e <;> first
    | exact ⟨l, E', y', rfl, hq, h1, h2, h3, h4⟩
    | (simp only [blockG] at hq
       simp only [Exit.inBlock]
       split
       · rename_i e
         subst e
         simp only [BEq.rfl] at hq
         exact ⟨l, E', y', rfl, hq, h1, h2, h3, h4⟩
       · rename_i e
         rw [beq_eq_false_iff_ne.2 e] at hq
         exact ⟨l, E', y', rfl, hq, h1, h2, h3, h4⟩)
theorem wpG_cond {c : Operand} {x z : Code} (t : Bool) (hc : evL s c = .d (.sc (.bool t))) (h1 : t = true → wpG P N B kt x Q s st y) (h2 : t = false → wpG P N B kt z Q s st y) : wpG P N B kt (.cond c x z) Q s st y := by
  intro E a hcc hst hs hx hM
  have := ev_rep hs c
  rw [show ev (getS s) c = .d (.sc (.bool t)) from hc] at this
  cases t
  · exact wp_cond_false this (h2 rfl E a hcc hst hs hx hM)
  · exact wp_cond_true this (h1 rfl E a hcc hst hs hx hM)
/-- A loop. -/
theorem wpG_loop {c : Code} (I : Nat → SL → Store → MS → Prop) (n0 : Nat) (h0 : I n0 s st y)
    (round : ∀ n s1 st1 y1, I n s1 st1 y1 → wpG P N B kt c (thenG (fun s' st' y' => ∃ m s2 st2, m < n ∧ Told B.st.length s' st' s2 st2 ∧ I m s2 st2 y') Q) s1 st1 y1) (hB : B.σ.length = B.st.length) : wpG P N B kt (.loop c) Q s st y := by
  intro E a hc hst hs hx hM
  subst hst
  let R : Nat → Act → World → Prop := fun n a w => ∃ (s1 : SL) (E1 : Env) (y1 : MS), E1.w = w ∧ I n s1 E1.st y1 ∧ Conc E1 ∧ Ext B E1 ∧ MapS P kt B y1 E1.w ∧ SlotsOk E1 N (getS s1) a
  classical
  refine wp_loop (fun a w => ∃ n, R n a w) (fun a w => if h : ∃ n, R n a w then Classical.choose (least _ h) else 0) ⟨n0, s, E, y, rfl, h0, hc, hx, hM, hs⟩ ?_
  intro a1 w1 hR
  have hspec := (Classical.choose_spec (least _ hR)).1
  rw [dif_pos hR]
  generalize Classical.choose (least _ hR) = n at hspec ⊢
  obtain ⟨s1, E1, y1, rfl, hI, hc1, hx1, hM1, hs1⟩ := hspec
  refine wp_mono (round n s1 E1.st y1 hI E1 a1 hc1 rfl hs1 hx1 hM1) ?_
  rintro e a' w' ⟨l, E', y', rfl, hq, h1, h2, h3, h4⟩
  cases e
  case normal =>
    obtain ⟨m, s2, st2, hm, ht, hI2⟩ := hq
    obtain ⟨E2, b1, b2, b3, b4, b5⟩ := ht E' N a' h1 rfl h4
    have hRm : R m a' E'.w := ⟨s2, E2, y', b1, by rw [b2]; exact hI2, b3, b5 B hB (Nat.le_refl _) h2, by rw [b1]; exact h3, b4⟩
    have hex : ∃ n, R n a' E'.w := ⟨m, hRm⟩
    refine ⟨hex, ?_⟩
    rw [dif_pos hex]
    exact Nat.lt_of_le_of_lt ((Classical.choose_spec (least _ hex)).2 m hRm) hm
  all_goals exact ⟨l, E', y', rfl, hq, h1, h2, h3, h4⟩
theorem wpG_told {c : Code} (hB : B.σ.length = B.st.length) {s2 : SL} {st2 : Store} (ht : Told B.st.length s st s2 st2) (h : wpG P N B kt c Q s2 st2 y) : wpG P N B kt c Q s st y := by
  intro E a hc hst hs hx hM
  obtain ⟨E2, b1, b2, b3, b4, b5⟩ := ht E N a hc hst hs
  rw [← b1]
  exact h E2 a b3 b2 b4 (b5 B hB (Nat.le_refl _) hx) (by rw [b1]; exact hM)
/-- The map is made. -/
theorem wpG_make {id d1 d2 : Nat} {mt t1 t2 : TypeId} {p1 p2 : String} {a1 a2 : Array Edge} (hB : B.σ.length = B.st.length) (hd : d1 < N ∧ d2 < N) (h : ∀ g, Q .normal (setS (setS s d1 (.d (.sc (.map (some g))))) d2 (.d (.sc (.map (some g))))) st (some (g, fun _ => 0))) :
    wpG P N B kt (.region id #[{ dst := some d1, op := .makeMap mt none, type := t1, pos := p1, after := a1, guard := none }, { dst := some d2, op := .assign (.tmp d1), type := t2, pos := p2, after := a2, guard := none }] false) Q s st y := by
  intro E a hc hst hs hx hM
  subst hst
  have hrun : (Instr.makeMap mt none).run P E.w = .ok (.map (some E.w.heap.size)) (E.w.alloc (.map #[] 0)) := by
    simp [Instr.makeMap, Result.andThen]
  obtain ⟨c1, c2⟩ := newNone hc (E.w.alloc (.map #[] 0)) (by simp) (fun k hk => heap_alloc_old _ _ hk) rfl rfl rfl
  have hs1 := (hs.ext hc c2).put hd.1 (d := .d (.sc (.map (some E.w.heap.size)))) (v := .map (some E.w.heap.size)) rfl
  have hs2 := hs1.put hd.2 (d := .d (.sc (.map (some E.w.heap.size)))) (v := .map (some E.w.heap.size)) rfl
  have hev : Act.eval (a.put (some d1) (.map (some E.w.heap.size))) (.tmp d1) = .map (some E.w.heap.size) := by
    have := hs1.rep d1
    rw [upd_same] at this
    exact this
  refine wp_region_lit (l := [_, _]) ?_
  have fin : (∃ (l : SL) (E' : Env) (y' : MS), E'.w = (E.w.alloc (.map #[] 0)) ∧ Q .normal l E'.st y' ∧ Conc E' ∧ Ext B E' ∧ MapS P kt B y' E'.w ∧ SlotsOk E' N (getS l) ((a.put (some d1) (.map (some E.w.heap.size))).put (some d2) (.map (some E.w.heap.size)))) := by
    refine ⟨_, ⟨E.w.alloc (.map #[] 0), E.S, E.σ, E.st⟩, _, rfl, h E.w.heap.size, c1, Ext.trans hB hc.len hx c2, ⟨hx.size, #[], 0, heap_alloc_new _ _, by simp, fun _ _ => rfl, by simp⟩, ?_⟩
    have e : ∀ (s : SL) (k : Nat) (d : DV), getS (setS s k d) = upd (getS s) k d := fun s k d => by funext i; rw [getS_setS, upd_eq]
    rw [e, e]
    exact hs2
  unfold wpList
  rw [if_pos (by rfl)]
  refine .inl ?_
  unfold Oper.wp
  simp only [execOp, Option.map_none, Sem.run_bind, hrun, Result.andThen_ok, Sem.run_pure, Oper.upon]
  unfold wpList
  rw [if_pos (by rfl)]
  refine .inl ?_
  unfold Oper.wp
  simp only [execOp, pure_bind, Sem.run_pure, Oper.upon, hev]
  unfold wpList
  exact fin
end
end Go.Proofs.Ytmjmbfcfnhnpmaa
