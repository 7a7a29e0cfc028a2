/- A function that reads a row of one's own and gives scalars leaves the row one's own. No condition: lemmas of any program. -/
import Derived.Test.YtghkcmgiagodlaaAm44
import Derived.Test.YtghkcmgiagodlaaGB
import Derived.Test.YtghkcmgiagodlaaAm40
namespace Go.Proofs.Ytghkcmgiagodlaa
open Go.RowKit
set_option linter.all false
mutual
/-- Does a value hold no slice and no reference? -/
def scalD : DV → Bool
  | .d (.sc _) => true
  | .agg cs => scalL cs
  | .tup cs => scalL cs
  | _ => false
def scalL : List DV → Bool
  | [] => true
  | d :: ds => scalD d && scalL ds
end
theorem scal_rep {E E' : Env} : ∀ (d : DV) (u : Value), scalD d = true → Rep E d u → Rep E' d u := by
  intro d
  refine DV.rec (motive_1 := fun d => ∀ u, scalD d = true → Rep E d u → Rep E' d u) (motive_2 := fun ds => ∀ vs, scalL ds = true → Reps E ds vs → Reps E' ds vs) ?_ ?_ ?_ ?_ ?_ ?_ ?_ ?_ ?_ ?_ d
  · intro u h _; cases h
  · intro p u h hr
    cases p with
    | sc v => exact hr
    | slc sz xs => cases h
  · intro cs ih u h ⟨vs, h1, h3, h2⟩; exact ⟨vs, h1, h3, ih vs h h2⟩
  · intro cs ih u h ⟨vs, h1, h2⟩; exact ⟨vs, h1, ih vs h h2⟩
  · intro b v o u h _; cases h
  · intro cs u h _; cases h
  · intro a b c d e u h _; cases h
  · intro f cs _ u h _; cases h
  · intro vs _ h; cases vs <;> first | trivial | exact h.elim
  · intro d ds ih1 ih2 vs h hr
    simp only [scalL, Bool.and_eq_true] at h
    cases vs with
    | nil => exact hr.elim
    | cons v vs => exact ⟨ih1 v h.1 hr.1, ih2 vs h.2 hr.2⟩
theorem FnV.ro {P : Program} {f : FuncId} {xs ys : List (List PD)} {o n : Nat} {rest : List DV} {r : DV} {st : Store} {K : DV → Store → Prop} (b sz : Nat) (bx : Box) (hb : st[b]? = some bx) (hl : bx.live = true) (hcells : bx.cells = rowsD xs) (hsz : ∀ x ∈ xs, x.length = sz) (k : Nat) (ho : o = k * sz) (hkn : k + n ≤ xs.length) (hys : ys = (xs.drop k).take n)
    (h : FnV P f (.d (.slc sz ys) :: rest) r) (hcr : closedL 0 rest = true) (hs : scalD r = true) (hk : K r st) : FnD P f (.view sz b bx.ver o n :: rest) st K := by
  intro E vs hc hst hargs
  subst hst
  cases vs with
  | nil => exact hargs.elim
  | cons v vs =>
  obtain ⟨hv, hvs⟩ := hargs
  have hbl := (List.getElem?_eq_some_iff.1 hb).1
  have hlen := hc.len
  obtain ⟨⟨g, z⟩, hg⟩ : ∃ gz, E.σ[b]? = some gz := ⟨E.σ[b]'(by omega), List.getElem?_eq_getElem _⟩
  obtain ⟨cur, a1, a2, a3, a4, a5, a6, a7, a8⟩ := hc.box b bx g z hb hg hl
  let S' : Nat → Prop := fun g' => E.S g' ∨ g' = g
  have hkept : Kept E.w E.w E.S S' := fun g' h => ⟨.inl h, rfl⟩
  have hrows : RowsP E.w S' sz xs ⟨g, 0, none⟩ := by
    refine RowsP.of_flat xs _ hsz (CellsP.of_get _ _ fun j p hj => ?_)
    obtain ⟨u, c1, c2, c3⟩ := a7 j (.d p) (by rw [hcells, rowsD_get, hj]; rfl)
    refine ⟨u, ?_, c2, RepP.keep hkept p u c3⟩
    have hadd : (⟨g, 0, none⟩ : Addr).add j = ⟨g, j, none⟩ := by unfold Addr.add; split <;> simp_all
    rw [hadd]
    simp [World.cell?, a1, c1]
  let Em : Env := ⟨E.w, S', E.σ, E.st⟩
  have hem : Ext E Em := ⟨Nat.le_refl _, rfl, rfl, rfl, fun _ h => .inl h, fun g' h => by
    rcases h with h | h
    · exact .inl h
    · exact .inr (.inr ⟨b, z, by rw [hg, h]⟩), fun _ _ _ => rfl, fun _ bx gz h1 h2 => ⟨bx, gz, h1, h2, Nat.le_refl _, fun _ => rfl, id, .inl rfl⟩, fun _ _ h1 h2 => by rw [show Em.σ = E.σ from rfl, h1] at h2; cases h2⟩
  let E1 : Env := ⟨E.w, S', [], []⟩
  have hold : ∀ g', S' g' → g' < E.w.heap.size := fun g' h => by
    rcases h with h | h
    · exact hc.old g' h
    · rw [h]; exact hc.lt b g z hg
  have hc1 : Conc E1 := by
    refine ⟨rfl, ?_, ?_, hold, ?_⟩
    · intro i bi g' z' h1; cases h1
    · intro i i' g' z' g2 z2 h1; cases h1
    · intro i g' z' h1; cases h1
  have hv1 : Rep E1 (.d (.slc sz ys)) v := by
    obtain ⟨bi, gz, h1, h2, h0, h3, h4⟩ := hv
    rw [hb] at h1; cases h1
    rw [hg] at h2; cases h2
    obtain ⟨c, rfl, c1, c2, c3⟩ := h4 rfl
    have hyl : ys.length = n := by rw [hys, List.length_take, List.length_drop]; omega
    refine .inr ⟨⟨g, o, none⟩, c, by rw [hyl], by rw [hyl]; exact c1, c2, fun _ => .inr rfl, ?_⟩
    have hadd : (⟨g, 0, none⟩ : Addr).add (k * sz) = ⟨g, o, none⟩ := by rw [← ho]; unfold Addr.add; split <;> simp_all
    rw [hys, ← hadd]
    exact RowsP.take _ _ _ (RowsP.cut _ _ _ hrows)
  have hvs1 : Reps E1 rest vs := by
    have h1 := Reps.ext hc hem rest vs hvs
    have hbk : Back Em E1 (fun b => b) 0 := ⟨rfl, rfl, fun i bi hi => absurd hi (by omega), fun i gz hi => absurd hi (by omega)⟩
    exact Reps.back hbk rest vs hcr (by rw [renL_pure _ rest hcr]; exact h1)
  refine (h E1 (v :: vs) hc1 rfl ⟨hv1, hvs1⟩).mono ?_
  rintro e w' ⟨v2, E2, r2, k1, k2, ⟨k3, k4, k5⟩, k6, k7, k8⟩
  have k5 : r2 = r := k5
  subst k5
  have hheap : ∀ x, x < E.w.heap.size → E2.w.heap[x]? = E.w.heap[x]? := fun x hx => k7.heap x hx (fun i z' bi h1 => by cases h1)
  have hS2 : ∀ x, E2.S x → E.S x ∨ x = g ∨ E.w.heap.size ≤ x := fun x hx => by
    rcases k7.fresh x hx with h1 | h1 | ⟨i, z', h1⟩
    · rcases h1 with h1 | h1
      · exact .inl h1
      · exact .inr (.inl h1)
    · exact .inr (.inr h1)
    · cases h1
  have hglt := hc.lt b g z hg
  let E3 : Env := ⟨E2.w, fun x => E2.S x ∧ x ≠ g, E.σ, E.st⟩
  have hx3 : Ext E E3 := ⟨k7.size, k7.os, k7.tape, k7.output, fun x hx => ⟨k7.set x (.inl hx), fun e => a6 (e ▸ hx)⟩, fun x hx => by
    rcases hS2 x hx.1 with h1 | h1 | h1
    · exact .inl h1
    · exact absurd h1 hx.2
    · exact .inr (.inl h1), fun x hx _ => hheap x hx, fun _ bx gz h1 h2 => ⟨bx, gz, h1, h2, Nat.le_refl _, fun _ => rfl, id, .inl rfl⟩, fun _ _ h1 h2 => by rw [show E3.σ = E.σ from rfl, h1] at h2; cases h2⟩
  have hc3 : Conc E3 := by
    refine ⟨hc.len, fun i bi g' z' h1 h2 hli => ?_, hc.inj, fun x hx => k6.old x hx.1, fun i g' z' h1 => Nat.lt_of_lt_of_le (hc.lt i g' z' h1) k7.size⟩
    obtain ⟨cur', c1, c2, c3, c4, c5, c6, c7, c8⟩ := hc.box i bi g' z' h1 h2 hli
    have hlt := hc.lt i g' z' h2
    refine ⟨cur', by rw [show E3.w = E2.w from rfl, hheap g' hlt]; exact c1, c2, c3, c4, c5, fun hS => ?_, fun j d hj => ?_, c8⟩
    · rcases hS2 g' hS.1 with q | q | q
      · exact c6 q
      · exact hS.2 q
      · omega
    · obtain ⟨u, u1, u2, u3⟩ := c7 j d hj
      exact ⟨u, u1, u2, Rep.ext hc hx3 d u u3⟩
  exact ⟨v2, E3, r2, k1, k2, hk, hc3, hx3, scal_rep r2 v2 hs k8⟩
end Go.Proofs.Ytghkcmgiagodlaa
namespace Go.Proofs.Ytghkcmgiagodlaa
open Go.RowKit
set_option linter.all false
theorem ren_box {ρ : List Nat} {n : Nat} {bx : Box} (hb : closedL 0 bx.cells = true) : Box.ren (place ρ n) bx = bx := by
  unfold Box.ren
  have := renL_pure (place ρ n) bx.cells hb
  rw [renL_eq] at this
  rw [this]
theorem set_self {st : Store} {b : Nat} {bx : Box} (hb : st[b]? = some bx) : st.set b bx = st := by
  apply List.ext_getElem?
  intro i
  rw [List.getElem?_set]
  by_cases hi : b = i
  · subst hi
    have hlt := (List.getElem?_eq_some_iff.1 hb).1
    rw [if_pos rfl, if_pos hlt, hb]
  · simp [hi]
theorem FnD.rowKeep {P : Program} {f : FuncId} {args : List DV} {bx : Box} {res : DV} {st : Store} {K : DV → Store → Prop} {sz v o n : Nat} (b : Nat) (h : FnD P f (.view sz 0 v o n :: args) [bx] fun r st' => r = res ∧ st' = [bx]) (hb : st[b]? = some bx)
    (ha : closedL 0 args = true) (hr : closedD 0 res = true) (h1 : closedL 0 bx.cells = true) (hk : K res st) : FnD P f (.view sz b v o n :: args) st K := by
  have hlt : b < st.length := (List.getElem?_eq_some_iff.1 hb).1
  refine FnD.at (args' := .view sz 0 v o n :: args) h [b] (by simp [hlt, closedL, closedD, closedL_mono (Nat.zero_le 1) _ ha]) ?_ (by simp [renL, renD, place, renL_pure _ _ ha]) ?_
  · intro k r bx0 hk hs
    cases k with
    | zero =>
      simp at hk hs
      subst hk; subst hs
      exact ⟨by rw [ren_box h1]; exact hb, closedL_mono (Nat.zero_le _) _ h1⟩
    | succ k => simp at hk
  · rintro r0 stc ⟨rfl, rfl⟩ _
    rw [renD_pure _ _ hr]
    have e2 : mergeL st [b] ([bx].map (Box.ren (place [b] st.length))) = st.set b bx := by
      apply List.ext_getElem?
      intro i
      simp only [mergeL, List.map_cons, List.map_nil, ren_box h1, List.length_singleton, List.drop_one, List.tail_cons, List.append_nil, List.getElem?_mapIdx, List.getElem?_set]
      by_cases hi : b = i
      · subst hi
        simp [hlt, List.idxOf?, List.findIdx?_cons]
      · have : ([b] : List Nat).idxOf? i = none := by rw [List.idxOf?_eq_none_iff]; simpa using fun h => hi h.symm
        simp [this, hi]
    rw [e2, set_self hb]
    exact hk
theorem FnD.rowNew {P : Program} {f : FuncId} {args : List DV} {bx bx2 : Box} {st : Store} {K : DV → Store → Prop} {sz v o n : Nat} (b : Nat) (h : FnD P f (.view sz 0 v o n :: args) [bx] fun r st' => r = .ref 1 0 0 ∧ st' = [bx, bx2]) (hb : st[b]? = some bx)
    (ha : closedL 0 args = true) (h1 : closedL 0 bx.cells = true) (h2 : closedL 0 bx2.cells = true) (hk : K (.ref st.length 0 0) (st ++ [bx2])) : FnD P f (.view sz b v o n :: args) st K := by
  have hlt : b < st.length := (List.getElem?_eq_some_iff.1 hb).1
  refine FnD.at (args' := .view sz 0 v o n :: args) h [b] (by simp [hlt, closedL, closedD, closedL_mono (Nat.zero_le 1) _ ha]) ?_ (by simp [renL, renD, place, renL_pure _ _ ha]) ?_
  · intro k r bx0 hk hs
    cases k with
    | zero =>
      simp at hk hs
      subst hk; subst hs
      exact ⟨by rw [ren_box h1]; exact hb, closedL_mono (Nat.zero_le _) _ h1⟩
    | succ k => simp at hk
  · rintro r0 stc ⟨rfl, rfl⟩ _
    have e2 : mergeL st [b] ([bx, bx2].map (Box.ren (place [b] st.length))) = st.set b bx ++ [bx2] := by
      apply List.ext_getElem?
      intro i
      simp only [mergeL, List.map_cons, List.map_nil, ren_box h1, ren_box h2, List.length_singleton, List.drop_one, List.tail_cons]
      by_cases hl : i < st.length
      · rw [List.getElem?_append_left (by simpa using hl), List.getElem?_append_left (by simpa using hl), List.getElem?_mapIdx, List.getElem?_set]
        by_cases hi : b = i
        · subst hi
          simp [hlt, List.idxOf?, List.findIdx?_cons]
        · have : ([b] : List Nat).idxOf? i = none := by rw [List.idxOf?_eq_none_iff]; simpa using fun h => hi h.symm
          simp [this, hi]
      · rw [List.getElem?_append_right (by simpa using hl), List.getElem?_append_right (by simpa using hl)]
        simp
    rw [e2, set_self hb]
    have e3 : renD (place [b] st.length) (.ref 1 0 0) = .ref st.length 0 0 := by simp [renD, place]
    rw [e3]
    exact hk
/-- At the end: boxes are kept, what holds nothing is told as settled. -/
theorem ret_upk {k : Nat} {κ : List Nat} {R : DV → Store → Prop} {d r : DV} {st st2 : Store} (h : keepB k κ st.length = true) (hu : UpD (pullD κ d) r) (hst : keepSt κ st = st2) (hR : R r st2) : RetW k R d st := by
  subst hst
  exact ⟨r, _, TellsV.trans (TellsV.turn (turn_keep κ h) rfl) (TellsV.up k _ hu), hR⟩
/-- A part of a row of one's own, between two places. -/
theorem sliceL {P : Program} {N : Nat} {X : Cps} (hX : X = X0 P N) {T : Tab} (hT : TabOk P T) {t sz e : Nat} {x lo hi : Operand} {s : SL} {st : Store} {K : DV → Store → Prop} {b o n : Nat} {li hj : Int} (l h : Nat) (bx : Box)
    (h1 : T.sl t = some (e, sz)) (hx : ev (getS s) x = .view sz b bx.ver o n) (hl : ev (getS s) lo = .d (.sc (.int .i64 li))) (hh : ev (getS s) hi = .d (.sc (.int .i64 hj))) (hb : st[b]? = some bx) (hli : li = (l : Int)) (hhj : hj = (h : Int)) (hr : l ≤ h ∧ h ≤ n)
    (k1 : 0 < l → l = h → K (.d (.slc sz [])) st) (k2 : (l = 0 ∨ l < h) → ∀ q m, q = o + l * sz → m = h - l → K (.view sz b bx.ver q m) st) :
    X.op (.slice t x (some lo) (some hi) none) s st K := by
  refine opL hX ?_
  have h2 : slD P t = some (e, sz) := hT.sl _ _ h1
  subst hli hhj
  simp only [opD, hx, Option.map_some, hl, hh, sliceD, h2, boundD, hb]
  refine ⟨rfl, rfl, .inl ⟨⟨by omega, by omega, by omega⟩, fun hz => ?_, fun h3 h4 => k1 (by omega) (by omega), fun h3 h4 => ?_⟩⟩
  · exact k2 (.inl (by omega)) _ _ (by have : l = 0 := by omega
                                       rw [this]; omega) (by omega)
  · exact k2 (.inr (by omega)) _ _ (by simp) (by simp)
end Go.Proofs.Ytghkcmgiagodlaa
namespace Go.Proofs.Ytghkcmgiagodlaa
open Go.RowKit
set_option linter.all false
set_option maxHeartbeats 4000000
structure Attr where
  seq : Int
  d0 : Int
  d1 : Int
  d2 : Int
  d3 : Int
  d4 : Int
  d5 : Int
  d6 : Int
  deriving DecidableEq
def Attr.D (x : Attr) : DV := .agg [intD x.seq, intD x.d0, intD x.d1, intD x.d2, intD x.d3, intD x.d4, intD x.d5, intD x.d6]
structure Deps where
  d0 : Int
  d1 : Int
  d2 : Int
  d3 : Int
  d4 : Int
  d5 : Int
  d6 : Int
  deriving DecidableEq
def Deps.D (x : Deps) : DV := .agg [intD x.d0, intD x.d1, intD x.d2, intD x.d3, intD x.d4, intD x.d5, intD x.d6]
structure Inst where
  replica : Int
  slot : Int
  deriving DecidableEq
def Inst.D (x : Inst) : DV := .agg [intD x.replica, intD x.slot]
def rightI (i : Inst) : Bool := decide (0 ≤ i.replica) && decide (i.replica < 7) && decide (1 ≤ i.slot) && decide (i.slot ≤ 1073741824)
def okK (k : Int) : Bool := decide (0 ≤ k) && decide (k ≤ 1073741824)
def rightDs (d : Deps) : Bool := okK d.d0 && okK d.d1 && okK d.d2 && okK d.d3 && okK d.d4 && okK d.d5 && okK d.d6
def Attr.deps (a : Attr) : Deps := ⟨a.d0, a.d1, a.d2, a.d3, a.d4, a.d5, a.d6⟩
def rightA (a : Attr) : Bool := decide (0 ≤ a.seq) && decide (a.seq ≤ 1099511627776) && rightDs a.deps
def coversD (a b : Deps) : Bool := decide (b.d0 ≤ a.d0) && decide (b.d1 ≤ a.d1) && decide (b.d2 ≤ a.d2) && decide (b.d3 ≤ a.d3) && decide (b.d4 ≤ a.d4) && decide (b.d5 ≤ a.d5) && decide (b.d6 ≤ a.d6)
def Deps.at (d : Deps) (r : Int) : Int := if r = 0 then d.d0 else if r = 1 then d.d1 else if r = 2 then d.d2 else if r = 3 then d.d3 else if r = 4 then d.d4 else if r = 5 then d.d5 else d.d6
def reachD (d : Deps) (i : Inst) : Bool := rightI i && decide (i.slot ≤ d.at i.replica)
def lessI (a b : Inst) : Bool := decide (a.replica < b.replica) || (decide (a.replica = b.replica) && decide (a.slot < b.slot))
def joinA (a b : Attr) : Attr := ⟨max a.seq b.seq, max a.d0 b.d0, max a.d1 b.d1, max a.d2 b.d2, max a.d3 b.d3, max a.d4 b.d4, max a.d5 b.d5, max a.d6 b.d6⟩
structure FsIa where
  rightI : Inst → Bool
  rightD : Deps → Bool
  rightA : Attr → Bool
  rightAR : Attr → Bool
  imgR : Deps → Bool
  covers : Deps → Deps → Bool
  reach : Deps → Inst → Bool
  less : Inst → Inst → Bool
  join2 : Attr → Attr → Attr
def FsIa0 : FsIa where
  rightI := rightI
  rightD := rightDs
  rightA := rightA
  rightAR := rightA
  imgR := rightDs
  covers := coversD
  reach := reachD
  less := lessI
  join2 := joinA
set_option maxRecDepth 100000 in
theorem v_rightD (d : Deps) : FnV Try.prog 44 [Deps.D d] (boolD ((rightDs d))) := by
  obtain ⟨d_d0, d_d1, d_d2, d_d3, d_d4, d_d5, d_d6⟩ := d
  refine FnD_cbv (T := fun _ => tabY [5003] []) (H := fun _ => []) (tabY_ok _ _) noK_ok follows_mixed Try.func44 rfl Try.ntmps44 (by simp) fun A X W hA hX hW => ?_
  cbv
  have l0 : A.cmp .lss 0 7 = true := by subst hA; rfl
  cbv at l0
  have l1 : A.cmp .lss 1 7 = true := by subst hA; rfl
  cbv at l1
  have l2 : A.cmp .lss 2 7 = true := by subst hA; rfl
  cbv at l2
  have l3 : A.cmp .lss 3 7 = true := by subst hA; rfl
  cbv at l3
  have l4 : A.cmp .lss 4 7 = true := by subst hA; rfl
  cbv at l4
  have l5 : A.cmp .lss 5 7 = true := by subst hA; rfl
  cbv at l5
  have l6 : A.cmp .lss 6 7 = true := by subst hA; rfl
  cbv at l6
  have l7 : A.cmp .lss 7 7 = false := by subst hA; rfl
  cbv at l7
  have b0 : A.bin .add .i64 0 1 = 1 := by subst hA; rfl
  cbv at b0
  have b1 : A.bin .add .i64 1 1 = 2 := by subst hA; rfl
  cbv at b1
  have b2 : A.bin .add .i64 2 1 = 3 := by subst hA; rfl
  cbv at b2
  have b3 : A.bin .add .i64 3 1 = 4 := by subst hA; rfl
  cbv at b3
  have b4 : A.bin .add .i64 4 1 = 5 := by subst hA; rfl
  cbv at b4
  have b5 : A.bin .add .i64 5 1 = 6 := by subst hA; rfl
  cbv at b5
  have b6 : A.bin .add .i64 6 1 = 7 := by subst hA; rfl
  cbv at b6
  refine unrollL (T := fun _ => tabY [5003] []) (H := fun _ => []) (tabY_ok _ _) noK_ok follows_mixed hA hX 8 fun R hR => ?_
  repeat' first
    | (simp only [l0, l1, l2, l3, l4, l5, l6, l7, b0, b1, b2, b3, b4, b5, b6, decide_true]; cbv)
    | (refine part (fun h => ?_) (fun h => ?_) <;> try cbv)
    | (refine And.intro ?_ ?_)
    | (refine hR _ _ _ ?_; cbv)
  all_goals clear l0 l1 l2 l3 l4 l5 l6 l7 b0 b1 b2 b3 b4 b5 b6
  all_goals try clear hR
  all_goals subst hA hX hW
  all_goals simp only [A0, nc, FsIa0, decide_eq_true_eq, decide_eq_false_iff_not, Bool.not_eq_true', Bool.not_eq_false'] at *
  all_goals first
    | (show Region.lexB _ _ = true; kernel_rfl)
    | (show turnsB _ = true; kernel_rfl)
    | (intros; first | assumption | trivial | omega | (simp_all; done))
    | (refine ret_v ?_ rfl; first | rfl | (simp_all [boolD, rightDs, okK]; done) | (simp_all [boolD, rightDs, okK]; omega) | (simp_all [boolD, rightDs, okK]; grind))
def kn_rightD (F : FsIa) : FuncId × (List DV → RV) := (44, fun args => match args with
  | [.agg [.d (.sc (.int .i64 d_d0)), .d (.sc (.int .i64 d_d1)), .d (.sc (.int .i64 d_d2)), .d (.sc (.int .i64 d_d3)), .d (.sc (.int .i64 d_d4)), .d (.sc (.int .i64 d_d5)), .d (.sc (.int .i64 d_d6))]] => some ([], boolD ((F.rightD ⟨d_d0, d_d1, d_d2, d_d3, d_d4, d_d5, d_d6⟩)))
  | _ => none)
theorem ok_rightD (args : List DV) (cs : List Prop) (r : DV) (h : (kn_rightD FsIa0).2 args = some (cs, r)) (hc : allP cs True) : FnV Try.prog 44 args r ∧ closedL 0 args = true := by
  unfold kn_rightD at h
  simp only at h
  split at h
  · cases h; exact ⟨v_rightD ⟨_, _, _, _, _, _, _⟩, rfl⟩
  · cases h
set_option maxRecDepth 100000 in
theorem v_rightA (a : Attr) : FnV Try.prog 77 [Attr.D a] (boolD ((rightA a))) := by
  obtain ⟨a_seq, a_d0, a_d1, a_d2, a_d3, a_d4, a_d5, a_d6⟩ := a
  refine FnD_cbv (T := fun _ => tabY [5003] []) (H := fun _ => []) (tabY_ok _ _) noK_ok follows_mixed Try.func77 rfl Try.ntmps77 (by simp) fun A X W hA hX hW => ?_
  cbv
  have l0 : A.cmp .lss 0 7 = true := by subst hA; rfl
  cbv at l0
  have l1 : A.cmp .lss 1 7 = true := by subst hA; rfl
  cbv at l1
  have l2 : A.cmp .lss 2 7 = true := by subst hA; rfl
  cbv at l2
  have l3 : A.cmp .lss 3 7 = true := by subst hA; rfl
  cbv at l3
  have l4 : A.cmp .lss 4 7 = true := by subst hA; rfl
  cbv at l4
  have l5 : A.cmp .lss 5 7 = true := by subst hA; rfl
  cbv at l5
  have l6 : A.cmp .lss 6 7 = true := by subst hA; rfl
  cbv at l6
  have l7 : A.cmp .lss 7 7 = false := by subst hA; rfl
  cbv at l7
  have b0 : A.bin .add .i64 0 1 = 1 := by subst hA; rfl
  cbv at b0
  have b1 : A.bin .add .i64 1 1 = 2 := by subst hA; rfl
  cbv at b1
  have b2 : A.bin .add .i64 2 1 = 3 := by subst hA; rfl
  cbv at b2
  have b3 : A.bin .add .i64 3 1 = 4 := by subst hA; rfl
  cbv at b3
  have b4 : A.bin .add .i64 4 1 = 5 := by subst hA; rfl
  cbv at b4
  have b5 : A.bin .add .i64 5 1 = 6 := by subst hA; rfl
  cbv at b5
  have b6 : A.bin .add .i64 6 1 = 7 := by subst hA; rfl
  cbv at b6
  refine unrollL (T := fun _ => tabY [5003] []) (H := fun _ => []) (tabY_ok _ _) noK_ok follows_mixed hA hX 8 fun R hR => ?_
  repeat' first
    | (simp only [l0, l1, l2, l3, l4, l5, l6, l7, b0, b1, b2, b3, b4, b5, b6, decide_true]; cbv)
    | (refine part (fun h => ?_) (fun h => ?_) <;> try cbv)
    | (refine And.intro ?_ ?_)
    | (refine hR _ _ _ ?_; cbv)
  all_goals clear l0 l1 l2 l3 l4 l5 l6 l7 b0 b1 b2 b3 b4 b5 b6
  all_goals try clear hR
  all_goals subst hA hX hW
  all_goals simp only [A0, nc, FsIa0, decide_eq_true_eq, decide_eq_false_iff_not, Bool.not_eq_true', Bool.not_eq_false'] at *
  all_goals first
    | (show Region.lexB _ _ = true; kernel_rfl)
    | (show turnsB _ = true; kernel_rfl)
    | (intros; first | assumption | trivial | omega | (simp_all; done))
    | (refine ret_v ?_ rfl; first | rfl | (simp_all [boolD, rightA, rightDs, okK, Attr.deps]; done) | (simp_all [boolD, rightA, rightDs, okK, Attr.deps]; omega) | (simp_all [boolD, rightA, rightDs, okK, Attr.deps]; grind))
def kn_rightA (F : FsIa) : FuncId × (List DV → RV) := (77, fun args => match args with
  | [.agg [.d (.sc (.int .i64 a_seq)), .d (.sc (.int .i64 a_d0)), .d (.sc (.int .i64 a_d1)), .d (.sc (.int .i64 a_d2)), .d (.sc (.int .i64 a_d3)), .d (.sc (.int .i64 a_d4)), .d (.sc (.int .i64 a_d5)), .d (.sc (.int .i64 a_d6))]] => some ([], boolD ((F.rightA ⟨a_seq, a_d0, a_d1, a_d2, a_d3, a_d4, a_d5, a_d6⟩)))
  | _ => none)
theorem ok_rightA (args : List DV) (cs : List Prop) (r : DV) (h : (kn_rightA FsIa0).2 args = some (cs, r)) (hc : allP cs True) : FnV Try.prog 77 args r ∧ closedL 0 args = true := by
  unfold kn_rightA at h
  simp only at h
  split at h
  · cases h; exact ⟨v_rightA ⟨_, _, _, _, _, _, _, _⟩, rfl⟩
  · cases h
set_option maxRecDepth 100000 in
theorem v_imgR (d : Deps) : FnV Try.prog 35 [Deps.D d] (boolD ((rightDs d))) := by
  obtain ⟨d_d0, d_d1, d_d2, d_d3, d_d4, d_d5, d_d6⟩ := d
  obtain ⟨F, hF⟩ : ∃ F, F = FsIa0 := ⟨_, rfl⟩
  have hH : SoundK Try.prog [kn_rightA F] := by subst hF; exact orK_ok ok_rightA noK_ok
  refine FnD_cbv (T := fun _ => tabY [] []) (H := fun _ => [kn_rightA F]) (tabY_ok _ _) hH follows_mixed Try.func35 rfl Try.ntmps35 (by simp) fun A X W hA hX hW => ?_
  cbv
  repeat' first
    | (refine And.intro ?_ ?_)
  all_goals subst hA hX hW hF
  all_goals first
    | exact rfl
    | (refine ret_v (congrArg boolD ?_) rfl
       show rightA ⟨0, d_d0, d_d1, d_d2, d_d3, d_d4, d_d5, d_d6⟩ = rightDs ⟨d_d0, d_d1, d_d2, d_d3, d_d4, d_d5, d_d6⟩
       simp [rightA, Attr.deps])
    | fail
def kn_imgR (F : FsIa) : FuncId × (List DV → RV) := (35, fun args => match args with
  | [.agg [.d (.sc (.int .i64 d_d0)), .d (.sc (.int .i64 d_d1)), .d (.sc (.int .i64 d_d2)), .d (.sc (.int .i64 d_d3)), .d (.sc (.int .i64 d_d4)), .d (.sc (.int .i64 d_d5)), .d (.sc (.int .i64 d_d6))]] => some ([], boolD ((F.imgR ⟨d_d0, d_d1, d_d2, d_d3, d_d4, d_d5, d_d6⟩)))
  | _ => none)
theorem ok_imgR (args : List DV) (cs : List Prop) (r : DV) (h : (kn_imgR FsIa0).2 args = some (cs, r)) (hc : allP cs True) : FnV Try.prog 35 args r ∧ closedL 0 args = true := by
  unfold kn_imgR at h
  simp only at h
  split at h
  · cases h; exact ⟨v_imgR ⟨_, _, _, _, _, _, _⟩, rfl⟩
  · cases h
end Go.Proofs.Ytghkcmgiagodlaa
namespace Go.Proofs.Ytghkcmgiagodlaa
open Go.RowKit
set_option linter.all false
set_option maxHeartbeats 4000000
def M32 : Nat := 4294967295
def crcStep (c : Nat) : Nat := if c % 2 = 1 then (c / 2) ^^^ 3988292384 else c / 2
def crcN : Nat → Nat → Nat
  | 0, c => c
  | n + 1, c => crcN n (crcStep c)
def crcB (c : Nat) (x : UInt8) : Nat := crcN 8 (c ^^^ x.toNat)
def crcL (c : Nat) (bs : List UInt8) : Nat := bs.foldl crcB c
/-- The sum gone on with bytes. -/
def onX (c : Int) (xs : List (List PD)) : Int := ((crcL (c.toNat ^^^ M32) (bytesOf xs) ^^^ M32 : Nat) : Int)
def ofX (xs : List (List PD)) : Int := onX 0 xs
theorem wrap_u32 {n : Int} (h0 : 0 ≤ n) (h1 : n < 4294967296) : IntKind.wrap .u32 n = n := by
  simp only [IntKind.wrap, IntKind.bits, IntKind.signed]
  simp
  omega
theorem xor_lt {a b : Nat} (ha : a < 4294967296) (hb : b < 4294967296) : a ^^^ b < 4294967296 := Nat.xor_lt_two_pow (n := 32) ha hb
theorem xor_u32 (a b : Nat) (ha : a < 4294967296) (hb : b < 4294967296) : bitsV .u32 (· ^^^ ·) (a : Int) (b : Int) = ((a ^^^ b : Nat) : Int) := by
  show IntKind.wrap .u32 ((BitVec.ofInt 32 (a : Int) ^^^ BitVec.ofInt 32 (b : Int)).toNat : Int) = _
  have e : ∀ n : Nat, BitVec.ofInt 32 (n : Int) = BitVec.ofNat 32 n := fun n => by simp
  rw [e, e, BitVec.toNat_xor, BitVec.toNat_ofNat, BitVec.toNat_ofNat, Nat.mod_eq_of_lt (show a < 2 ^ 32 by omega), Nat.mod_eq_of_lt (show b < 2 ^ 32 by omega)]
  have := xor_lt ha hb
  exact wrap_u32 (by omega) (by omega)
theorem and_u32 (a : Nat) (ha : a < 4294967296) : bitsV .u32 (· &&& ·) (a : Int) 1 = ((a % 2 : Nat) : Int) := by
  show IntKind.wrap .u32 ((BitVec.ofInt 32 (a : Int) &&& BitVec.ofInt 32 1).toNat : Int) = _
  have e : ∀ n : Nat, BitVec.ofInt 32 (n : Int) = BitVec.ofNat 32 n := fun n => by simp
  rw [e, show (BitVec.ofInt 32 1 : BitVec 32) = BitVec.ofNat 32 1 from rfl, BitVec.toNat_and, BitVec.toNat_ofNat, BitVec.toNat_ofNat, Nat.mod_eq_of_lt (show a < 2 ^ 32 by omega), show 1 % 2 ^ 32 = 1 from rfl, Nat.and_one_is_mod]
  exact wrap_u32 (by omega) (by omega)
theorem half_u32 (a : Nat) : (a : Int).fdiv (2 ^ min (Int.toNat 1) (IntKind.bits .u32)) = ((a / 2 : Nat) : Int) := by
  rw [show (2 : Int) ^ min (Int.toNat 1) (IntKind.bits .u32) = 2 by decide, Int.fdiv_eq_ediv_of_nonneg _ (by omega)]
  omega
theorem not_u32 (a : Nat) (ha : a < 4294967296) : bitsV .u32 (· ^^^ ·) (if IntKind.u32.signed = true then (-1 : Int) else IntKind.u32.max) (a : Int) = ((a ^^^ M32 : Nat) : Int) := by
  rw [show (if IntKind.u32.signed = true then (-1 : Int) else IntKind.u32.max) = ((M32 : Nat) : Int) from rfl, xor_u32 _ _ (by decide) ha, Nat.xor_comm]
theorem crcStep_lt {c : Nat} (h : c < 4294967296) : crcStep c < 4294967296 := by
  unfold crcStep
  split
  · exact xor_lt (by omega) (by decide)
  · omega
theorem crcN_lt : ∀ (n : Nat) {c : Nat}, c < 4294967296 → crcN n c < 4294967296
  | 0, _, h => h
  | n + 1, _, h => crcN_lt n (crcStep_lt h)
theorem crcB_lt {c : Nat} (h : c < 4294967296) (x : UInt8) : crcB c x < 4294967296 := crcN_lt 8 (xor_lt h (by have := x.toNat_lt; omega))
theorem crcL_lt : ∀ (bs : List UInt8) {c : Nat}, c < 4294967296 → crcL c bs < 4294967296
  | [], _, h => h
  | x :: bs, _, h => crcL_lt bs (crcB_lt h x)
theorem crcL_drop {bs : List UInt8} {c : Nat} {i : Nat} (h : i < bs.length) : crcL c (bs.drop i) = crcL (crcB c (bs[i]'h)) (bs.drop (i + 1)) := by
  rw [List.drop_eq_getElem_cons h]
  rfl
theorem onX_range (c : Int) (h : 0 ≤ c ∧ c < 4294967296) (xs : List (List PD)) : 0 ≤ onX c xs ∧ onX c xs < 4294967296 := by
  have := xor_lt (crcL_lt (bytesOf xs) (xor_lt (a := c.toNat) (b := M32) (by omega) (by decide))) (b := M32) (by decide)
  unfold onX
  omega
def u32 (c : Int) : Prop := 0 ≤ c ∧ c < 4294967296
structure FsCr where
  on : Int → List (List PD) → Int
  onR : Int → List (List PD) → Int
  sof : List (List PD) → Int
  isB : List (List PD) → Prop
  u32 : Int → Prop
def FsCr0 : FsCr where
  on := onX
  onR := onX
  sof := ofX
  isB := isB
  u32 := u32
set_option maxRecDepth 100000 in
theorem v_on (c : Int) (xs : List (List PD)) (hp0 : FsCr0.u32 c) (hp1 : FsCr0.isB xs) : FnV Try.prog 80 [.d (.sc (.int .u32 c)), .d (.slc 1 xs)] (.d (.sc (.int .u32 ((onX c xs))))) := by
  refine FnD_cbv (T := fun _ => tabY [14] []) (H := fun _ => []) (tabY_ok _ _) noK_ok follows_mixed Try.func80 rfl Try.ntmps80 (by simp) fun A X W hA hX hW => ?_
  cbv
  obtain ⟨bs, hxs, hb⟩ := hp1
  have hl : xs.length = bs.length := by rw [hxs]; exact bytesP_length bs
  have hby : bytesOf xs = bs := by rw [hxs]; exact bytesOf_bytesP bs
  obtain ⟨c0, hc0⟩ : ∃ c0 : Nat, c = (c0 : Int) := ⟨c.toNat, by have := hp0.1; omega⟩
  have hc1 : c0 < 4294967296 := by have := hp0.2; omega
  obtain ⟨n, hn⟩ : ∃ n : Int, n = bs.length := ⟨_, rfl⟩
  obtain ⟨T, hT⟩ : ∃ T : Nat, T = crcL (c0 ^^^ M32) bs := ⟨_, rfl⟩
  have hTX : onX c xs = ((T ^^^ M32 : Nat) : Int) := by unfold onX; rw [hby, hc0, hT]; rfl
  subst hc0
  have e0 : A.un .xor .u32 (c0 : Int) = ((c0 ^^^ M32 : Nat) : Int) := by subst hA; exact not_u32 c0 hc1
  have en : A.len xs = n := by subst hA; show (xs.length : Int) = n; rw [hl, hn]
  replace hn : n = (bs.length : Int) := hn
  refine loopL (T := fun _ => tabY [14] []) (H := fun _ => []) (tabY_ok _ _) noK_ok follows_mixed hA hX (fun x : Int × Int => (0 ≤ x.1 ∧ x.1 ≤ n) ∧ ∃ k : Nat, x.2 = k ∧ k < 4294967296 ∧ crcL k (bs.drop x.1.toNat) = T)
    (fun x => [(0, .d (.sc (.int .u32 x.2))), (10, .d (.slc 1 xs)), (11, .d (.sc (.int .i64 n))), (12, .d (.sc (.int .i64 x.1)))]) (fun _ => []) (fun x => n.toNat - x.1.toNat) (0, ((c0 ^^^ M32 : Nat) : Int)) ?_ ?_ ?_
  · exact ⟨⟨by simp only; omega, by simp only; omega⟩, c0 ^^^ M32, rfl, xor_lt hc1 (by decide), hT.symm⟩
  · exact told_less ⟨.inl (congrArg (fun z => DV.d (.sc (.int .u32 z))) e0).symm, .inl rfl, .inl (congrArg (fun z => DV.d (.sc (.int .i64 z))) en).symm, .inl rfl, trivial⟩
  rintro R ⟨i, c⟩ hR ⟨hi, k, hk, hk2, hk3⟩
  replace hi : 0 ≤ i ∧ i ≤ n := hi
  replace hk : c = (k : Int) := hk
  replace hk3 : crcL k (bs.drop i.toNat) = T := hk3
  cbv
  repeat' first
    | (refine And.intro ?_ ?_)
    | (refine part (fun h => ?_) (fun h => ?_) <;> cbv)
  rotate_right 2
  · have hin : i.toNat < bs.length := by
      subst hA
      have h : i < n := by simpa [A0] using h
      replace hn : n = (bs.length : Int) := hn
      omega
    have hrow : xs.getD i.toNat [] = [.sc (.int .u8 ((bs[i.toNat]'hin).toNat : Int))] := by
      have := rowB (bs := bs) (i := i) hxs hi.1 (by omega)
      exact this
    have hbl := (bs[i.toNat]'hin).toNat_lt
    have hk4 := crcL_drop (c := k) hin
    rw [hk3] at hk4
    obtain ⟨b, hb9⟩ : ∃ b, b = bs[i.toNat]'hin := ⟨_, rfl⟩
    rw [← hb9] at hrow hbl hk4
    refine loopL (T := fun _ => tabY [14] []) (H := fun _ => []) (tabY_ok _ _) noK_ok follows_mixed hA hX (fun x : Int × Int => (0 ≤ x.1 ∧ x.1 ≤ 8) ∧ ∃ m : Nat, x.2 = m ∧ m < 4294967296 ∧ crcN (8 - x.1.toNat) m = crcB k b)
      (fun x => [(0, .d (.sc (.int .u32 x.2))), (10, .d (.slc 1 xs)), (11, .d (.sc (.int .i64 n))), (12, .d (.sc (.int .i64 i))), (20, .d (.sc (.int .i64 x.1)))]) (fun _ => []) (fun x => 8 - x.1.toNat) (0, ((k ^^^ b.toNat : Nat) : Int)) ?_ ?_ ?_
    · exact ⟨⟨by simp only; omega, by simp only; omega⟩, _, rfl, xor_lt hk2 (by omega), rfl⟩
    · subst hA
      have hxv : A0.bin .xor .u32 c (IntKind.wrap .u32 (b.toNat : Int)) = ((k ^^^ b.toNat : Nat) : Int) := by
        rw [hk, wrap_u32 (by omega) (by omega)]
        exact xor_u32 k b.toNat hk2 (by omega)
      refine told_less ?_
      simp only [A0, hrow] at hxv ⊢
      exact ⟨.inl (congrArg (fun z => DV.d (.sc (.int .u32 z))) hxv).symm, .inl rfl, .inl rfl, .inl rfl, .inl rfl, trivial⟩
    rintro R2 ⟨j, d⟩ hR2 ⟨hj, m, hm, hm2, hm3⟩
    replace hj : 0 ≤ j ∧ j ≤ 8 := hj
    replace hm : d = (m : Int) := hm
    replace hm3 : crcN (8 - j.toNat) m = crcB k b := hm3
    cbv
    repeat' first
      | (refine And.intro ?_ ?_)
      | (refine part (fun h3 => ?_) (fun h3 => ?_) <;> cbv)
    all_goals subst hA hX hW hR hR2
    all_goals have ej : IntKind.wrap .i64 (j + 1) = j + 1 := wrap_i64 (by unfold r64; omega)
    all_goals have ei : IntKind.wrap .i64 (i + 1) = i + 1 := wrap_i64 (by unfold r64; omega)
    all_goals have hnd := and_u32 m hm2
    all_goals have hsh := half_u32 m
    all_goals have hxo := xor_u32 (m / 2) 3988292384 (by omega) (by decide)
    all_goals try simp only [nc] at hm hk
    all_goals subst hm
    all_goals replace hxo : bitsV .u32 (· ^^^ ·) (((m / 2 : Nat) : Int)) 3988292384 = (((m / 2) ^^^ 3988292384 : Nat) : Int) := hxo
    all_goals simp only [A0, nc, hnd, hsh, hxo, ej, ei, decide_eq_true_eq, decide_eq_false_iff_not] at *
    all_goals first
      | exact rfl
      | trivial
      | omega
      | decide
      | skip
    all_goals first
      | (have hj8 : j < 8 := by omega
         have hs := hm3
         rw [show 8 - j.toNat = (8 - (j + 1).toNat) + 1 by omega] at hs
         replace hs : crcN (8 - (j + 1).toNat) (crcStep m) = crcB k b := hs
         have hst : crcStep m = (if m % 2 = 1 then (m / 2) ^^^ 3988292384 else m / 2) := rfl
         first
           | (rw [if_pos (by omega)] at hst
              refine ⟨(j + 1, ((crcStep m : Nat) : Int)), ⟨⟨by simp only; omega, by simp only; omega⟩, crcStep m, rfl, crcStep_lt hm2, hs⟩, by simp only; omega, told_less ?_⟩
              simp only [hst]
              simp [toldP, getS])
           | (rw [if_neg (by omega)] at hst
              refine ⟨(j + 1, ((crcStep m : Nat) : Int)), ⟨⟨by simp only; omega, by simp only; omega⟩, crcStep m, rfl, crcStep_lt hm2, hs⟩, by simp only; omega, told_less ?_⟩
              simp only [hst]
              simp [toldP, getS]))
      | (have hj8 : j = 8 := by omega
         subst hj8
         replace hm3 : m = crcB k b := hm3
         refine ⟨(i + 1, ((m : Nat) : Int)), ⟨⟨by simp only; omega, by simp only; omega⟩, m, rfl, hm2, ?_⟩, by simp only; omega, told_less ?_⟩
         · simp only
           rw [show (i + 1).toNat = i.toNat + 1 by omega, hm3]
           exact hk4.symm
         · simp [toldP, getS])
  all_goals subst hA hX hW hR
  all_goals try simp only [nc] at hk hn
  all_goals try simp only [A0, nc, decide_eq_true_eq, decide_eq_false_iff_not] at h
  all_goals first
    | exact rfl
    | trivial
    | (simp only [A0]; omega)
    | (have hin : i.toNat < bs.length := by omega
       have hrow : xs.getD i.toNat [] = [.sc (.int .u8 ((bs[i.toNat]'hin).toNat : Int))] := rowB (bs := bs) (i := i) hxs hi.1 (by omega)
       simp only [A0, hrow]
       exact ⟨rfl, by simp, rfl⟩)
    | (have hin : i = n := by omega
       have hdr : bs.drop i.toNat = [] := List.drop_eq_nil_of_le (by omega)
       rw [hdr] at hk3
       replace hk3 : k = T := hk3
       refine ret_v ?_ rfl
       rw [hTX, hk, ← hk3]
       exact congrArg (fun z => DV.d (.sc (.int .u32 z))) (not_u32 k hk2))
def kn_on (F : FsCr) : FuncId × (List DV → RV) := (80, fun args => match args with
  | [.d (.sc (.int .u32 c)), .d (.slc 1 xs)] => some ([F.u32 c, F.isB xs], .d (.sc (.int .u32 ((F.on c xs)))))
  | [.d (.sc (.int .u32 c)), .d (.sc (.slice none 0 0))] => some ([F.u32 c, F.isB []], .d (.sc (.int .u32 ((F.on c [])))))
  | _ => none)
theorem ok_on (args : List DV) (cs : List Prop) (r : DV) (h : (kn_on FsCr0).2 args = some (cs, r)) (hc : allP cs True) : FnV Try.prog 80 args r ∧ closedL 0 args = true := by
  unfold kn_on at h
  simp only at h
  split at h
  · cases h; exact ⟨v_on _ _ hc.1 hc.2.1, rfl⟩
  · cases h; exact ⟨FnP.nils (v_on _ [] hc.1 hc.2.1) ⟨.inl rfl, ⟨.inr ⟨rfl, _, rfl⟩, trivial⟩⟩, rfl⟩
  · cases h
set_option maxRecDepth 100000 in
theorem v_onR (c : Int) (xs : List (List PD)) (hp0 : FsCr0.u32 c) (hp1 : FsCr0.isB xs) : FnV Try.prog 17 [.d (.sc (.int .u32 c)), .d (.slc 1 xs)] (.d (.sc (.int .u32 ((onX c xs))))) := by
  refine FnD_cbv (T := fun _ => tabY [19] []) (H := fun _ => []) (tabY_ok _ _) noK_ok follows_mixed Try.func17 rfl Try.ntmps17 (by simp) fun A X W hA hX hW => ?_
  cbv
  obtain ⟨bs, hxs, hb⟩ := hp1
  have hl : xs.length = bs.length := by rw [hxs]; exact bytesP_length bs
  have hby : bytesOf xs = bs := by rw [hxs]; exact bytesOf_bytesP bs
  obtain ⟨c0, hc0⟩ : ∃ c0 : Nat, c = (c0 : Int) := ⟨c.toNat, by have := hp0.1; omega⟩
  have hc1 : c0 < 4294967296 := by have := hp0.2; omega
  obtain ⟨n, hn⟩ : ∃ n : Int, n = bs.length := ⟨_, rfl⟩
  obtain ⟨T, hT⟩ : ∃ T : Nat, T = crcL (c0 ^^^ M32) bs := ⟨_, rfl⟩
  have hTX : onX c xs = ((T ^^^ M32 : Nat) : Int) := by unfold onX; rw [hby, hc0, hT]; rfl
  subst hc0
  have e0 : A.un .xor .u32 (c0 : Int) = ((c0 ^^^ M32 : Nat) : Int) := by subst hA; exact not_u32 c0 hc1
  have en : A.len xs = n := by subst hA; show (xs.length : Int) = n; rw [hl, hn]
  replace hn : n = (bs.length : Int) := hn
  refine loopL (T := fun _ => tabY [19] []) (H := fun _ => []) (tabY_ok _ _) noK_ok follows_mixed hA hX (fun x : Int × Int => (0 ≤ x.1 ∧ x.1 ≤ n) ∧ ∃ k : Nat, x.2 = k ∧ k < 4294967296 ∧ crcL k (bs.drop x.1.toNat) = T)
    (fun x => [(0, .d (.sc (.int .u32 x.2))), (1, .d (.slc 1 xs)), (5, .d (.sc (.int .i64 x.1)))]) (fun _ => []) (fun x => n.toNat - x.1.toNat) (0, ((c0 ^^^ M32 : Nat) : Int)) ?_ ?_ ?_
  · exact ⟨⟨by simp only; omega, by simp only; omega⟩, c0 ^^^ M32, rfl, xor_lt hc1 (by decide), hT.symm⟩
  · exact told_less ⟨.inl (congrArg (fun z => DV.d (.sc (.int .u32 z))) e0).symm, .inl rfl, .inl rfl, trivial⟩
  rintro R ⟨i, c⟩ hR ⟨hi, k, hk, hk2, hk3⟩
  replace hi : 0 ≤ i ∧ i ≤ n := hi
  replace hk : c = (k : Int) := hk
  replace hk3 : crcL k (bs.drop i.toNat) = T := hk3
  cbv
  repeat' first
    | (refine And.intro ?_ ?_)
    | (refine part (fun h => ?_) (fun h => ?_) <;> cbv)
  rotate_right 2
  · have hin : i.toNat < bs.length := by
      subst hA
      have h : i < (xs.length : Int) := by simpa [A0] using h
      replace hn : n = (bs.length : Int) := hn
      omega
    have hrow : xs.getD i.toNat [] = [.sc (.int .u8 ((bs[i.toNat]'hin).toNat : Int))] := by
      have := rowB (bs := bs) (i := i) hxs hi.1 (by omega)
      exact this
    have hbl := (bs[i.toNat]'hin).toNat_lt
    have hk4 := crcL_drop (c := k) hin
    rw [hk3] at hk4
    obtain ⟨b, hb9⟩ : ∃ b, b = bs[i.toNat]'hin := ⟨_, rfl⟩
    rw [← hb9] at hrow hbl hk4
    refine loopL (T := fun _ => tabY [19] []) (H := fun _ => []) (tabY_ok _ _) noK_ok follows_mixed hA hX (fun x : Int × Int => (0 ≤ x.1 ∧ x.1 ≤ 8) ∧ ∃ m : Nat, x.2 = m ∧ m < 4294967296 ∧ crcN (8 - x.1.toNat) m = crcB k b)
      (fun x => [(0, .d (.sc (.int .u32 x.2))), (1, .d (.slc 1 xs)), (5, .d (.sc (.int .i64 i))), (6, .d (.sc (.int .i64 x.1)))]) (fun _ => []) (fun x => 8 - x.1.toNat) (0, ((k ^^^ b.toNat : Nat) : Int)) ?_ ?_ ?_
    · exact ⟨⟨by simp only; omega, by simp only; omega⟩, _, rfl, xor_lt hk2 (by omega), rfl⟩
    · subst hA
      have hxv : A0.bin .xor .u32 c (IntKind.wrap .u32 (b.toNat : Int)) = ((k ^^^ b.toNat : Nat) : Int) := by
        rw [hk, wrap_u32 (by omega) (by omega)]
        exact xor_u32 k b.toNat hk2 (by omega)
      refine told_less ?_
      simp only [A0, hrow] at hxv ⊢
      exact ⟨.inl (congrArg (fun z => DV.d (.sc (.int .u32 z))) hxv).symm, .inl rfl, .inl rfl, .inl rfl, trivial⟩
    rintro R2 ⟨j, d⟩ hR2 ⟨hj, m, hm, hm2, hm3⟩
    replace hj : 0 ≤ j ∧ j ≤ 8 := hj
    replace hm : d = (m : Int) := hm
    replace hm3 : crcN (8 - j.toNat) m = crcB k b := hm3
    cbv
    repeat' first
      | (refine And.intro ?_ ?_)
      | (refine part (fun h3 => ?_) (fun h3 => ?_) <;> cbv)
    all_goals subst hA hX hW hR hR2
    all_goals have ej : IntKind.wrap .i64 (j + 1) = j + 1 := wrap_i64 (by unfold r64; omega)
    all_goals have ei : IntKind.wrap .i64 (i + 1) = i + 1 := wrap_i64 (by unfold r64; omega)
    all_goals have hnd := and_u32 m hm2
    all_goals have hsh := half_u32 m
    all_goals have hxo := xor_u32 (m / 2) 3988292384 (by omega) (by decide)
    all_goals try simp only [nc] at hm hk
    all_goals subst hm
    all_goals replace hxo : bitsV .u32 (· ^^^ ·) (((m / 2 : Nat) : Int)) 3988292384 = (((m / 2) ^^^ 3988292384 : Nat) : Int) := hxo
    all_goals simp only [A0, nc, hnd, hsh, hxo, ej, ei, decide_eq_true_eq, decide_eq_false_iff_not] at *
    all_goals first
      | exact rfl
      | trivial
      | omega
      | decide
      | skip
    all_goals first
      | (have hj8 : j < 8 := by omega
         have hs := hm3
         rw [show 8 - j.toNat = (8 - (j + 1).toNat) + 1 by omega] at hs
         replace hs : crcN (8 - (j + 1).toNat) (crcStep m) = crcB k b := hs
         have hst : crcStep m = (if m % 2 = 1 then (m / 2) ^^^ 3988292384 else m / 2) := rfl
         first
           | (rw [if_pos (by omega)] at hst
              refine ⟨(j + 1, ((crcStep m : Nat) : Int)), ⟨⟨by simp only; omega, by simp only; omega⟩, crcStep m, rfl, crcStep_lt hm2, hs⟩, by simp only; omega, told_less ?_⟩
              simp only [hst]
              simp [toldP, getS])
           | (rw [if_neg (by omega)] at hst
              refine ⟨(j + 1, ((crcStep m : Nat) : Int)), ⟨⟨by simp only; omega, by simp only; omega⟩, crcStep m, rfl, crcStep_lt hm2, hs⟩, by simp only; omega, told_less ?_⟩
              simp only [hst]
              simp [toldP, getS]))
      | (have hj8 : j = 8 := by omega
         subst hj8
         replace hm3 : m = crcB k b := hm3
         refine ⟨(i + 1, ((m : Nat) : Int)), ⟨⟨by simp only; omega, by simp only; omega⟩, m, rfl, hm2, ?_⟩, by simp only; omega, told_less ?_⟩
         · simp only
           rw [show (i + 1).toNat = i.toNat + 1 by omega, hm3]
           exact hk4.symm
         · simp [toldP, getS])
  all_goals subst hA hX hW hR
  all_goals try simp only [nc] at hk hn
  all_goals try simp only [A0, nc, decide_eq_true_eq, decide_eq_false_iff_not] at h
  all_goals first
    | exact rfl
    | trivial
    | (simp only [A0]; omega)
    | (have hin : i.toNat < bs.length := by omega
       have hrow : xs.getD i.toNat [] = [.sc (.int .u8 ((bs[i.toNat]'hin).toNat : Int))] := rowB (bs := bs) (i := i) hxs hi.1 (by omega)
       simp only [A0, hrow]
       exact ⟨rfl, by simp, rfl⟩)
    | (have hin : i = n := by omega
       have hdr : bs.drop i.toNat = [] := List.drop_eq_nil_of_le (by omega)
       rw [hdr] at hk3
       replace hk3 : k = T := hk3
       refine ret_v ?_ rfl
       rw [hTX, hk, ← hk3]
       exact congrArg (fun z => DV.d (.sc (.int .u32 z))) (not_u32 k hk2))
def kn_onR (F : FsCr) : FuncId × (List DV → RV) := (17, fun args => match args with
  | [.d (.sc (.int .u32 c)), .d (.slc 1 xs)] => some ([F.u32 c, F.isB xs], .d (.sc (.int .u32 ((F.onR c xs)))))
  | [.d (.sc (.int .u32 c)), .d (.sc (.slice none 0 0))] => some ([F.u32 c, F.isB []], .d (.sc (.int .u32 ((F.onR c [])))))
  | _ => none)
theorem ok_onR (args : List DV) (cs : List Prop) (r : DV) (h : (kn_onR FsCr0).2 args = some (cs, r)) (hc : allP cs True) : FnV Try.prog 17 args r ∧ closedL 0 args = true := by
  unfold kn_onR at h
  simp only at h
  split at h
  · cases h; exact ⟨v_onR _ _ hc.1 hc.2.1, rfl⟩
  · cases h; exact ⟨FnP.nils (v_onR _ [] hc.1 hc.2.1) ⟨.inl rfl, ⟨.inr ⟨rfl, _, rfl⟩, trivial⟩⟩, rfl⟩
  · cases h
set_option maxRecDepth 100000 in
theorem v_sof (xs : List (List PD)) (hp0 : FsCr0.isB xs) : FnV Try.prog 38 [.d (.slc 1 xs)] (.d (.sc (.int .u32 ((ofX xs))))) := by
  obtain ⟨F, hF⟩ : ∃ F, F = FsCr0 := ⟨_, rfl⟩
  have hH : SoundK Try.prog [kn_on F] := by subst hF; exact orK_ok ok_on noK_ok
  refine FnD_cbv (T := fun _ => tabY [] []) (H := fun _ => [kn_on F]) (tabY_ok _ _) hH follows_mixed Try.func38 rfl Try.ntmps38 (by simp) fun A X W hA hX hW => ?_
  cbv
  repeat' (refine And.intro ?_ ?_)
  all_goals subst hA hX hW hF
  all_goals first
    | exact rfl
    | exact ⟨by decide, by decide⟩
    | exact hp0
    | (refine ret_v ?_ rfl; rfl)
    | fail
def kn_sof (F : FsCr) : FuncId × (List DV → RV) := (38, fun args => match args with
  | [.d (.slc 1 xs)] => some ([F.isB xs], .d (.sc (.int .u32 ((F.sof xs)))))
  | [.d (.sc (.slice none 0 0))] => some ([F.isB []], .d (.sc (.int .u32 ((F.sof [])))))
  | _ => none)
theorem ok_sof (args : List DV) (cs : List Prop) (r : DV) (h : (kn_sof FsCr0).2 args = some (cs, r)) (hc : allP cs True) : FnV Try.prog 38 args r ∧ closedL 0 args = true := by
  unfold kn_sof at h
  simp only at h
  split at h
  · cases h; exact ⟨v_sof _ hc.1, rfl⟩
  · cases h; exact ⟨FnP.nils (v_sof [] hc.1) ⟨.inr ⟨rfl, _, rfl⟩, trivial⟩, rfl⟩
  · cases h
end Go.Proofs.Ytghkcmgiagodlaa
namespace Go.Proofs.Ytghkcmgiagodlaa
open Go.RowKit
set_option linter.all false
set_option maxHeartbeats 4000000
/-- Four bytes of a number, the least first. -/
def le4 (u : Int) : List UInt8 := [UInt8.ofNat (u.toNat % 256), UInt8.ofNat (u.toNat / 256 % 256), UInt8.ofNat (u.toNat / 65536 % 256), UInt8.ofNat (u.toNat / 16777216 % 256)]
theorem fd8 (u : Int) (h : 0 ≤ u) : u.fdiv (2 ^ min (Int.toNat 8) (IntKind.bits .u64)) = u / 256 := by
  rw [show (2 : Int) ^ min (Int.toNat 8) (IntKind.bits .u64) = 256 by decide, Int.fdiv_eq_ediv_of_nonneg _ (by omega)]
theorem b8 (u : Int) (h : 0 ≤ u) : IntKind.wrap .u8 u = (((UInt8.ofNat (u.toNat % 256)).toNat : Nat) : Int) := by
  have e : (UInt8.ofNat (u.toNat % 256)).toNat = u.toNat % 256 := by simp
  rw [e]
  simp only [IntKind.wrap, IntKind.bits, IntKind.signed]
  simp
  omega
set_option maxRecDepth 100000 in
theorem w_wput (bs : List UInt8) (xs : List (List PD)) (u : Int) (hxs : xs = bytesP bs) (hb : bs.length ≤ 8000000) (hu : u64 u) : FnD Try.prog 37 [.d (.slc 1 xs), intD 4, .d (.sc (.int .u64 u))] [] (fun r st' => ∃ v cs m, cs = rowsD (bytesP (bs ++ le4 u)) ∧ m = (bs ++ le4 u).length ∧ r = .view 1 0 v 0 m ∧ st' = [⟨5, cs, true, v, true⟩]) := by
  refine FnD_cbv (T := fun _ => tabY [5003] []) (H := fun _ => []) (tabY_ok _ _) noK_ok follows_mixed Try.func37 rfl Try.ntmps37 (by simp) fun A X W hA hX hW => ?_
  cbv
  have l0 : A.cmp .lss 0 4 = true := by subst hA; rfl
  cbv at l0
  have l1 : A.cmp .lss 1 4 = true := by subst hA; rfl
  cbv at l1
  have l2 : A.cmp .lss 2 4 = true := by subst hA; rfl
  cbv at l2
  have l3 : A.cmp .lss 3 4 = true := by subst hA; rfl
  cbv at l3
  have l4 : A.cmp .lss 4 4 = false := by subst hA; rfl
  cbv at l4
  have b0 : A.bin .add .i64 0 1 = 1 := by subst hA; rfl
  cbv at b0
  have b1 : A.bin .add .i64 1 1 = 2 := by subst hA; rfl
  cbv at b1
  have b2 : A.bin .add .i64 2 1 = 3 := by subst hA; rfl
  cbv at b2
  have b3 : A.bin .add .i64 3 1 = 4 := by subst hA; rfl
  cbv at b3
  have o0_0 : A.off 0 0 1 = 0 := by subst hA; rfl
  cbv at o0_0
  have o0_1 : A.off 0 1 1 = 1 := by subst hA; rfl
  cbv at o0_1
  have o0_2 : A.off 0 2 1 = 2 := by subst hA; rfl
  cbv at o0_2
  have o0_3 : A.off 0 3 1 = 3 := by subst hA; rfl
  cbv at o0_3
  have mm : A.mm false (A.mm true 4 0) 8 = 4 := by subst hA; rfl
  cbv at mm
  have hl : xs.length = bs.length := by rw [hxs]; exact bytesP_length bs
  have q1 : u.fdiv (2 ^ min (Int.toNat 8) (IntKind.bits .u64)) = u / 256 := fd8 u hu.1
  repeat' (refine And.intro ?_ ?_)
  rotate_right 1
  · refine unrollL (T := fun _ => tabY [5003] []) (H := fun _ => []) (tabY_ok _ _) noK_ok follows_mixed hA hX 5 fun R hR => ?_
    cbv
    repeat' first
      | (simp only [l0, l1, l2, l3, l4, b0, b1, b2, b3, o0_0, o0_1, o0_2, o0_3, mm, decide_true]; cbv)
      | (refine part (fun h => ?_) (fun h => ?_) <;> try cbv)
      | (refine And.intro ?_ ?_)
      | (refine hR _ _ _ ?_; cbv)
    all_goals clear l0 l1 l2 l3 l4 b0 b1 b2 b3 o0_0 o0_1 o0_2 o0_3 mm
    all_goals try clear hR
    all_goals subst hA hX hW
    all_goals simp only [A0, nc, decide_eq_true_eq, decide_eq_false_iff_not]
    all_goals first
      | exact rfl
      | trivial
      | (simp; done)
      | (simp [rowsD_len (bytesP_sz bs), hxs]; done)
      | skip
    all_goals first
      | (simp only [show Int.toNat 0 = 0 from rfl]; omega)
      | skip
    have d1 := fd8 u hu.1
    have d2 := fd8 (u / 256) (by have := hu.1; omega)
    have d3 := fd8 (u / 256 / 256) (by have := hu.1; omega)
    have c0 := b8 u hu.1
    have c1 := b8 (u / 256) (by have := hu.1; omega)
    have c2 := b8 (u / 256 / 256) (by have := hu.1; omega)
    have c3 := b8 (u / 256 / 256 / 256) (by have := hu.1; omega)
    rw [show (u / 256).toNat = u.toNat / 256 by omega] at c1
    rw [show (u / 256 / 256).toNat = u.toNat / 65536 by omega] at c2
    rw [show (u / 256 / 256 / 256).toNat = u.toNat / 16777216 by omega] at c3
    have hcell : rowsD (bytesP (bs ++ le4 u)) = rowsD xs ++ [.d (.sc (.int .u8 (((UInt8.ofNat (u.toNat % 256)).toNat : Nat) : Int)))] ++ [.d (.sc (.int .u8 (((UInt8.ofNat (u.toNat / 256 % 256)).toNat : Nat) : Int)))] ++ [.d (.sc (.int .u8 (((UInt8.ofNat (u.toNat / 65536 % 256)).toNat : Nat) : Int)))] ++ [.d (.sc (.int .u8 (((UInt8.ofNat (u.toNat / 16777216 % 256)).toNat : Nat) : Int)))] := by
      rw [rowsB_append, ← hxs]
      simp only [List.append_assoc]
      rfl
    have hpr : ∀ κ, pullL κ (rowsD (bytesP (bs ++ le4 u))) = rowsD (bytesP (bs ++ le4 u)) := fun κ => by rw [pullL_eq]; exact pull_rows κ _
    rw [d1, d2, d3, c0, c1, c2, c3]
    refine ret_keep [0] rfl ⟨5, rowsD (bytesP (bs ++ le4 u)), (bs ++ le4 u).length, rfl, rfl, ?_, ?_⟩
    · simp [pullD, hl, le4]
    · refine congrArg (fun z => [({ ty := 5, cells := z, ext := true, ver := 5, live := true } : Box)]) (?_ : pullL [0] _ = rowsD (bytesP (bs ++ le4 u)))
      refine Eq.trans (congrArg (pullL [0]) ?_) (hpr [0])
      rw [hcell]
      rfl
  all_goals subst hA hX hW
  all_goals simp only [A0, nc]
  all_goals first
    | exact rfl
    | trivial
    | omega
    | (simp; done)
    | (rw [wrap_i64 (by unfold r64; omega)]; omega)
    | fail
end Go.Proofs.Ytghkcmgiagodlaa
namespace Go.Proofs.Ytghkcmgiagodlaa
open Go.RowKit
set_option linter.all false
set_option maxHeartbeats 4000000
/-- Four bytes as a number. -/
def leV (bs : List UInt8) : Int := ((bs.getD 0 0).toNat : Int) + 256 * ((bs.getD 1 0).toNat : Int) + 65536 * ((bs.getD 2 0).toNat : Int) + 16777216 * ((bs.getD 3 0).toNat : Int)
theorem four {l : List UInt8} (h : 4 ≤ l.length) : ∃ a b c d, l.take 4 = [a, b, c, d] := by
  match l, h with
  | a :: b :: c :: d :: l, _ => exact ⟨a, b, c, d, rfl⟩
theorem wrap_u64 {n : Int} (h : 0 ≤ n ∧ n < 18446744073709551616) : IntKind.wrap .u64 n = n := wrap64_of h.1 h.2
theorem shl_k (x k : Nat) (hx : x < 256) (hk : k ≤ 24) : IntKind.wrap .u64 (IntKind.wrap .u64 (x : Int) * 2 ^ min (Int.toNat (IntKind.wrap .u64 (k : Int))) (IntKind.bits .u64)) = ((x * 2 ^ k : Nat) : Int) := by
  rw [wrap_u64 (n := (x : Int)) (by omega), wrap_u64 (n := (k : Int)) (by omega)]
  have e : min (Int.toNat (k : Int)) (IntKind.bits .u64) = k := by show min k 64 = k; omega
  rw [e]
  have h2 : x * 2 ^ k ≤ 255 * 2 ^ 24 := Nat.mul_le_mul (by omega) (Nat.pow_le_pow_right (by decide) hk)
  have e4 : (x : Int) * 2 ^ k = ((x * 2 ^ k : Nat) : Int) := by push_cast; rfl
  rw [e4]
  exact wrap_u64 (by omega)
theorem le_or (a b c d : Nat) (ha : a < 256) (hb : b < 256) (hc : c < 256) (hd : d < 256) : bitsV .u64 (· ||| ·) (bitsV .u64 (· ||| ·) (bitsV .u64 (· ||| ·) (bitsV .u64 (· ||| ·) ((0 : Nat) : Int) ((a * 2 ^ 0 : Nat) : Int)) ((b * 2 ^ 8 : Nat) : Int)) ((c * 2 ^ 16 : Nat) : Int)) ((d * 2 ^ 24 : Nat) : Int) = ((a + 256 * b + 65536 * c + 16777216 * d : Nat) : Int) := by
  rw [or_add 0 a 0 (by decide) (by omega), or_add _ b 8 (by omega) (by omega), or_add _ c 16 (by omega) (by omega), or_add _ d 24 (by omega) (by omega)]
  congr 1
  omega
def getW4 (xs : List (List PD)) (at_ : Int) : Int := leV ((bytesOf xs).drop at_.toNat)
def okAt (xs : List (List PD)) (at_ n : Int) : Prop := 0 ≤ at_ ∧ at_.toNat + 4 = xs.length ∧ n = 4
set_option maxRecDepth 100000 in
theorem v_wget (xs : List (List PD)) (at_ : Int) (hp0 : isB xs) (hp1 : 0 ≤ at_) (hp2 : at_.toNat + 4 = xs.length) : FnV Try.prog 39 [.d (.slc 1 xs), intD at_, intD 4] (.tup [.d (.sc (.int .u64 (getW4 xs at_))), intD 0]) := by
  refine FnD_cbv (T := fun _ => tabY [43, 5003] [6]) (H := fun _ => []) (tabY_ok _ _) noK_ok follows_mixed Try.func39 rfl Try.ntmps39 (by simp) fun A X W hA hX hW => ?_
  cbv
  have l0 : A.cmp .lss 0 4 = true := by subst hA; rfl
  cbv at l0
  have l1 : A.cmp .lss 1 4 = true := by subst hA; rfl
  cbv at l1
  have l2 : A.cmp .lss 2 4 = true := by subst hA; rfl
  cbv at l2
  have l3 : A.cmp .lss 3 4 = true := by subst hA; rfl
  cbv at l3
  have l4 : A.cmp .lss 4 4 = false := by subst hA; rfl
  cbv at l4
  have b0 : A.bin .add .i64 0 1 = 1 := by subst hA; rfl
  cbv at b0
  have b1 : A.bin .add .i64 1 1 = 2 := by subst hA; rfl
  cbv at b1
  have b2 : A.bin .add .i64 2 1 = 3 := by subst hA; rfl
  cbv at b2
  have b3 : A.bin .add .i64 3 1 = 4 := by subst hA; rfl
  cbv at b3
  have o0_0 : A.off 0 0 1 = 0 := by subst hA; rfl
  cbv at o0_0
  have o0_1 : A.off 0 1 1 = 1 := by subst hA; rfl
  cbv at o0_1
  have o0_2 : A.off 0 2 1 = 2 := by subst hA; rfl
  cbv at o0_2
  have o0_3 : A.off 0 3 1 = 3 := by subst hA; rfl
  cbv at o0_3
  have m0 : A.bin .mul .i64 8 0 = 0 := by subst hA; rfl
  cbv at m0
  have m1 : A.bin .mul .i64 8 1 = 8 := by subst hA; rfl
  cbv at m1
  have m2 : A.bin .mul .i64 8 2 = 16 := by subst hA; rfl
  cbv at m2
  have m3 : A.bin .mul .i64 8 3 = 24 := by subst hA; rfl
  cbv at m3
  have g0 : A.cond false true false = false := by subst hA; rfl
  cbv at g0
  obtain ⟨bs, hxs, hb⟩ := id hp0
  have hl : xs.length = bs.length := by rw [hxs]; exact bytesP_length bs
  obtain ⟨n, hn⟩ : ∃ n : Int, n = xs.length := ⟨_, rfl⟩
  obtain ⟨e, he⟩ : ∃ e : Int, e = at_ + 4 := ⟨_, rfl⟩
  try simp only [nc] at *
  have f1 : A.cmp .lss 4 1 = false := by subst hA; rfl
  have f2 : A.cmp .gtr 4 8 = false := by subst hA; rfl
  have f3 : A.cmp .lss at_ 0 = false := by subst hA; simp only [A0, nc, decide_eq_false_iff_not]; omega
  have f4 : A.cmp .gtr at_ (A.len xs) = false := by subst hA; simp only [A0, nc, decide_eq_false_iff_not]; omega
  have f5 : A.bin .sub .i64 (A.len xs) at_ = 4 := by subst hA; show IntKind.wrap .i64 ((xs.length : Int) - at_) = 4; rw [wrap_i64 (by unfold r64; omega)]; omega
  have f6 : A.bin .add .i64 at_ 4 = e := by subst hA; show IntKind.wrap .i64 (at_ + 4) = e; rw [wrap_i64 (by unfold r64; omega), he]
  have f7 : A.cmp .lss 4 4 = false := by subst hA; rfl
  cbv at f1
  cbv at f2
  cbv at f3
  cbv at f4
  cbv at f5
  cbv at f6
  cbv at f7
  repeat' first
    | (simp only [f1, f2, f3, f4, f5, f6, f7, g0]; cbv)
    | (refine And.intro ?_ ?_)
    | (refine part (fun h => ?_) (fun h => ?_) <;> try cbv)
    | (with_reducible refine goL (c := .region 6 _ _) (T := fun _ => tabY [43, 5003] []) (H := fun _ => []) (tabY_ok _ _) noK_ok follows_mixed hA hX ?_) <;> cbv
  all_goals try (subst hA; simp [A0]; done)
  · have f6' : IntKind.wrap .i64 (at_ + 4) = e := by subst hA; exact f6
    subst hA
    simp only [A0]
    refine ⟨?_, ?_, ?_⟩ <;> omega
  have hbl : 4 ≤ (bs.drop at_.toNat).length := by rw [List.length_drop]; omega
  obtain ⟨y0, y1, y2, y3, hbb⟩ := four hbl
  obtain ⟨ws, hws⟩ : ∃ ws, ws = bytesP [y0, y1, y2, y3] := ⟨_, rfl⟩
  have e8 : A.sub xs at_ e = ws := by
    subst hA
    show (xs.drop at_.toNat).take (e.toNat - at_.toNat) = ws
    rw [hxs, bytesP_drop, bytesP_take, hws, show e.toNat - at_.toNat = 4 by omega, hbb]
  have e9 : A.len ws = 4 := by subst hA; rw [hws]; rfl
  cbv at e8
  cbv at e9
  simp only [e8, e9]
  refine unrollL (T := fun _ => tabY [43, 5003] [6]) (H := fun _ => []) (tabY_ok _ _) noK_ok follows_mixed hA hX 5 fun R hR => ?_
  cbv
  repeat' first
    | (simp only [l0, l1, l2, l3, l4, b0, b1, b2, b3, o0_0, o0_1, o0_2, o0_3, m0, m1, m2, m3, g0, decide_true]; cbv)
    | (refine part (fun h => ?_) (fun h => ?_) <;> try cbv)
    | (refine And.intro ?_ ?_)
    | (refine hR _ _ _ ?_; cbv)
  all_goals subst hA hX hW hws
  all_goals first
    | (simp only [A0, bytesP_length, List.length_cons, List.length_nil]; exact ⟨by decide, by decide⟩)
    | exact ⟨rfl, Nat.le_refl 1, rfl⟩
    | exact rfl
    | (show (0 : Int) ≤ _; decide)
    | skip
  refine ret_v ?_ rfl
  have z0 := shl_k y0.toNat 0 y0.toNat_lt (by decide)
  have z1 := shl_k y1.toNat 8 y1.toNat_lt (by decide)
  have z2 := shl_k y2.toNat 16 y2.toNat_lt (by decide)
  have z3 := shl_k y3.toNat 24 y3.toNat_lt (by decide)
  have hv : getW4 xs at_ = ((y0.toNat + 256 * y1.toNat + 65536 * y2.toNat + 16777216 * y3.toNat : Nat) : Int) := by
    unfold getW4 leV
    rw [hxs, bytesOf_bytesP]
    have hg : ∀ k, k < 4 → (bs.drop at_.toNat).getD k 0 = ([y0, y1, y2, y3] : List UInt8).getD k 0 := fun k hk => by
      rw [← hbb, List.getD_eq_getElem?_getD, List.getD_eq_getElem?_getD, List.getElem?_take, if_pos hk]
    rw [hg 0 (by decide), hg 1 (by decide), hg 2 (by decide), hg 3 (by decide)]
    simp
  rw [hv]
  have hle := le_or y0.toNat y1.toNat y2.toNat y3.toNat y0.toNat_lt y1.toNat_lt y2.toNat_lt y3.toNat_lt
  refine congrArg (fun z => DV.tup [DV.d (.sc (.int .u64 z)), intD 0]) ?_
  rw [← hle, ← z0, ← z1, ← z2, ← z3]
  rfl
def getWX (xs : List (List PD)) (at_ n : Int) : Int × Int := (getW4 xs at_, 0)
theorem v_wget2 (xs : List (List PD)) (at_ n : Int) (hp0 : isB xs) (hp1 : okAt xs at_ n) : FnV Try.prog 39 [.d (.slc 1 xs), intD at_, intD n] (.tup [.d (.sc (.int .u64 (getWX xs at_ n).1)), intD (getWX xs at_ n).2]) := by
  obtain ⟨h1, h2, rfl⟩ := hp1
  exact v_wget xs at_ hp0 h1 h2
structure FsWg where
  wget2 : List (List PD) → Int → Int → Int × Int
  isB : List (List PD) → Prop
  okAt : List (List PD) → Int → Int → Prop
def FsWg0 : FsWg where
  wget2 := getWX
  isB := isB
  okAt := okAt
def kn_wget2 (F : FsWg) : FuncId × (List DV → RV) := (39, fun args => match args with
  | [.d (.slc 1 xs), .d (.sc (.int .i64 at_)), .d (.sc (.int .i64 n))] => some ([F.isB xs, F.okAt xs at_ n], .tup [.d (.sc (.int .u64 (((F.wget2 xs at_ n)).1))), intD (((F.wget2 xs at_ n)).2)])
  | [.d (.sc (.slice none 0 0)), .d (.sc (.int .i64 at_)), .d (.sc (.int .i64 n))] => some ([F.isB [], F.okAt [] at_ n], .tup [.d (.sc (.int .u64 (((F.wget2 [] at_ n)).1))), intD (((F.wget2 [] at_ n)).2)])
  | _ => none)
theorem ok_wget2 (args : List DV) (cs : List Prop) (r : DV) (h : (kn_wget2 FsWg0).2 args = some (cs, r)) (hc : allP cs True) : FnV Try.prog 39 args r ∧ closedL 0 args = true := by
  unfold kn_wget2 at h
  simp only at h
  split at h
  · cases h; exact ⟨v_wget2 _ _ _ hc.1 hc.2.1, rfl⟩
  · cases h; exact ⟨FnP.nils (v_wget2 [] _ _ hc.1 hc.2.1) ⟨.inr ⟨rfl, _, rfl⟩, ⟨.inl rfl, ⟨.inl rfl, trivial⟩⟩⟩, rfl⟩
  · cases h
set_option maxRecDepth 100000 in
theorem w_pnum (bs : List UInt8) (xs : List (List PD)) (n : Int) (hxs : xs = bytesP bs) (hb : bs.length ≤ 8000000) (hp1 : r64 n) : FnD Try.prog 36 [.d (.slc 1 xs), intD n] [] (fun r st' => ∃ v cs m, cs = rowsD (bytesP (bs ++ numB n)) ∧ m = (bs ++ numB n).length ∧ r = .view 1 0 v 0 m ∧ st' = [⟨5, cs, true, v, true⟩]) := by
  refine FnD_cbv (T := fun _ => tabY [] []) (H := fun _ => []) (tabY_ok _ _) noK_ok follows_mixed Try.func36 rfl Try.ntmps36 (by simp) fun A X W hA hX hW => ?_
  cbv
  refine callL hX ((w_grown bs xs 10 hxs (by decide) (by decide) (by omega)).mono ?_)
  rintro r st ⟨cs, m, hcs, hm, rfl, rfl⟩
  cbv
  refine callL hX ((w_num bs cs m n 1 hcs hm hp1 (by omega)).mono ?_)
  rintro r st ⟨v, cs2, m2, hcs2, hm2, rfl, rfl⟩
  cbv
  subst hA hX hW
  exact RetW.refl ⟨v, cs2, m2, hcs2, hm2, rfl, rfl⟩
theorem rows_closed (xs : List (List PD)) : closedL 0 (rowsD xs) = true := closedL_data 0 _
/-- A contract that makes a row of bytes of one's own, whatever boxes there are. -/
theorem FnD.newRow {P : Program} {f : FuncId} {args : List DV} {T : TypeId} {L : List UInt8} (h : FnD P f args [] (fun r st' => ∃ v cs m, cs = rowsD (bytesP L) ∧ m = L.length ∧ r = .view 1 0 v 0 m ∧ st' = [⟨T, cs, true, v, true⟩])) (ha : closedL 0 args = true) {st : Store} {K : DV → Store → Prop} (hk : ∀ v cs m, cs = rowsD (bytesP L) → m = L.length → K (.view 1 st.length v 0 m) (st ++ [⟨T, cs, true, v, true⟩])) : FnD P f args st K := by
  refine FnD.at (args' := args) h [] (by simp [ha]) (by simp) (by rw [renL_pure _ _ ha]) ?_
  rintro r0 stc ⟨v, cs, m, rfl, rfl, rfl, rfl⟩ _
  have e2 : mergeL st [] ([(⟨T, rowsD (bytesP L), true, v, true⟩ : Box)].map (Box.ren (place [] st.length))) = st ++ [⟨T, rowsD (bytesP L), true, v, true⟩] := by
    have e3 : (rowsD (bytesP L)).map (renD (place [] st.length)) = rowsD (bytesP L) := by rw [← renL_eq]; exact renL_pure _ _ (rows_closed _)
    simp only [List.map_cons, List.map_nil, Box.ren, e3]
    apply List.ext_getElem?
    intro i
    rw [mergeL]
    simp only [List.idxOf?_nil, List.length_nil, List.drop_zero]
    congr 2
    apply List.ext_getElem?
    intro j
    simp
  rw [e2]
  have e4 : renD (place [] st.length) (.view 1 0 v 0 L.length) = .view 1 st.length v 0 L.length := by simp [renD, place]
  rw [e4]
  exact hk v _ _ rfl rfl
end Go.Proofs.Ytghkcmgiagodlaa
namespace Go.Proofs.Ytghkcmgiagodlaa
open Go.RowKit
set_option linter.all false
set_option maxHeartbeats 4000000
def dpB (d : Deps) : List UInt8 := numB d.d0 ++ numB d.d1 ++ numB d.d2 ++ numB d.d3 ++ numB d.d4 ++ numB d.d5 ++ numB d.d6
/-- The bytes ahead of an image's sum. -/
noncomputable def imgH (d : Deps) (s : List DV) : List UInt8 := dpB d ++ bytesOf (bytesSt s)
noncomputable def imgI (d : Deps) (s : List DV) : List UInt8 := imgH d s ++ le4 (ofX (bytesP (imgH d s)))
theorem FnD.freezeTo {P : Program} {f : FuncId} {args args' : List DV} {st : Store} {K : DV → Store → Prop} (b sz : Nat) (xs : List (List PD)) (bx : Box) (hb : st[b]? = some bx) (hl : bx.live = true) (hcells : bx.cells = rowsD xs) (hsz : ∀ x ∈ xs, x.length = sz) (ha : args.map (fzD b bx.ver sz xs) = args') (h : FnD P f args' (fzSt b sz xs st) K) : FnD P f args st K := by
  subst ha
  exact FnD.freeze b sz xs bx hb hl hcells hsz h
def rDeps (d : Deps) : Prop := r64 d.d0 ∧ r64 d.d1 ∧ r64 d.d2 ∧ r64 d.d3 ∧ r64 d.d4 ∧ r64 d.d5 ∧ r64 d.d6
/-- A state's bytes, if they are few. -/
def smallS (s : List DV) : Prop := ∃ bs, bytesSt s = bytesP bs ∧ bs.length ≤ 1000000
set_option maxRecDepth 100000 in
theorem w_iput (d : Deps) (s : List DV) (hs : isSt s) (hv : okV s) (hsm : smallS s) (hrd : rDeps d) (hr : rightSt s = true) (hd : rightDs d = true) : FnD Try.prog 10 [Deps.D d, .agg s] [] (fun r st' => ∃ v cs m, cs = rowsD (bytesP (imgI d s)) ∧ m = (imgI d s).length ∧ r = .view 1 0 v 0 m ∧ st' = [⟨5, cs, true, v, true⟩]) := by
  obtain ⟨d0, d1, d2, d3, d4, d5, d6⟩ := d
  have hsl := hs.len
  obtain ⟨GFsS4, hFsS4⟩ : ∃ F, F = FsS40 := ⟨_, rfl⟩
  obtain ⟨GFsIa, hFsIa⟩ : ∃ F, F = FsIa0 := ⟨_, rfl⟩
  obtain ⟨GFsPu, hFsPu⟩ : ∃ F, F = FsPu0 := ⟨_, rfl⟩
  have hH : SoundK Try.prog [kn_rightSt GFsS4, kn_imgR GFsIa, kn_stPut GFsPu] := by subst hFsS4 hFsIa hFsPu; exact orK_ok ok_rightSt (orK_ok ok_imgR (orK_ok ok_stPut noK_ok))
  have hB : SoundB Try.prog [] := by subst hFsS4 hFsIa hFsPu; exact noB_ok
  refine FnD_cbv (T := fun _ => tabY [1, 1003, 1008, 1025, 5003, 5004] []) (H := fun _ => [kn_rightSt GFsS4, kn_imgR GFsIa, kn_stPut GFsPu]) (tabY_ok _ _) hH follows_mixed Try.func10 rfl Try.ntmps10 (by simp) fun A X W hA hX hW => ?_
  cbv
  have l0 : A.cmp .lss 0 7 = true := by subst hA; rfl
  cbv at l0
  have l1 : A.cmp .lss 1 7 = true := by subst hA; rfl
  cbv at l1
  have l2 : A.cmp .lss 2 7 = true := by subst hA; rfl
  cbv at l2
  have l3 : A.cmp .lss 3 7 = true := by subst hA; rfl
  cbv at l3
  have l4 : A.cmp .lss 4 7 = true := by subst hA; rfl
  cbv at l4
  have l5 : A.cmp .lss 5 7 = true := by subst hA; rfl
  cbv at l5
  have l6 : A.cmp .lss 6 7 = true := by subst hA; rfl
  cbv at l6
  have l7 : A.cmp .lss 7 7 = false := by subst hA; rfl
  cbv at l7
  have b0 : A.bin .add .i64 0 1 = 1 := by subst hA; rfl
  cbv at b0
  have b1 : A.bin .add .i64 1 1 = 2 := by subst hA; rfl
  cbv at b1
  have b2 : A.bin .add .i64 2 1 = 3 := by subst hA; rfl
  cbv at b2
  have b3 : A.bin .add .i64 3 1 = 4 := by subst hA; rfl
  cbv at b3
  have b4 : A.bin .add .i64 4 1 = 5 := by subst hA; rfl
  cbv at b4
  have b5 : A.bin .add .i64 5 1 = 6 := by subst hA; rfl
  cbv at b5
  have b6 : A.bin .add .i64 6 1 = 7 := by subst hA; rfl
  cbv at b6
  have o0_0 : A.off 0 0 1 = 0 := by subst hA; rfl
  cbv at o0_0
  have o0_1 : A.off 0 1 1 = 1 := by subst hA; rfl
  cbv at o0_1
  have o0_2 : A.off 0 2 1 = 2 := by subst hA; rfl
  cbv at o0_2
  have o0_3 : A.off 0 3 1 = 3 := by subst hA; rfl
  cbv at o0_3
  have o0_4 : A.off 0 4 1 = 4 := by subst hA; rfl
  cbv at o0_4
  have o0_5 : A.off 0 5 1 = 5 := by subst hA; rfl
  cbv at o0_5
  have o0_6 : A.off 0 6 1 = 6 := by subst hA; rfl
  cbv at o0_6
  have v0 : A.gi [.d (.sc (.int .i64 d0)), .d (.sc (.int .i64 d1)), .d (.sc (.int .i64 d2)), .d (.sc (.int .i64 d3)), .d (.sc (.int .i64 d4)), .d (.sc (.int .i64 d5)), .d (.sc (.int .i64 d6))] 0 = d0 := by subst hA; rfl
  cbv at v0
  have v1 : A.gi [.d (.sc (.int .i64 d0)), .d (.sc (.int .i64 d1)), .d (.sc (.int .i64 d2)), .d (.sc (.int .i64 d3)), .d (.sc (.int .i64 d4)), .d (.sc (.int .i64 d5)), .d (.sc (.int .i64 d6))] 1 = d1 := by subst hA; rfl
  cbv at v1
  have v2 : A.gi [.d (.sc (.int .i64 d0)), .d (.sc (.int .i64 d1)), .d (.sc (.int .i64 d2)), .d (.sc (.int .i64 d3)), .d (.sc (.int .i64 d4)), .d (.sc (.int .i64 d5)), .d (.sc (.int .i64 d6))] 2 = d2 := by subst hA; rfl
  cbv at v2
  have v3 : A.gi [.d (.sc (.int .i64 d0)), .d (.sc (.int .i64 d1)), .d (.sc (.int .i64 d2)), .d (.sc (.int .i64 d3)), .d (.sc (.int .i64 d4)), .d (.sc (.int .i64 d5)), .d (.sc (.int .i64 d6))] 3 = d3 := by subst hA; rfl
  cbv at v3
  have v4 : A.gi [.d (.sc (.int .i64 d0)), .d (.sc (.int .i64 d1)), .d (.sc (.int .i64 d2)), .d (.sc (.int .i64 d3)), .d (.sc (.int .i64 d4)), .d (.sc (.int .i64 d5)), .d (.sc (.int .i64 d6))] 4 = d4 := by subst hA; rfl
  cbv at v4
  have v5 : A.gi [.d (.sc (.int .i64 d0)), .d (.sc (.int .i64 d1)), .d (.sc (.int .i64 d2)), .d (.sc (.int .i64 d3)), .d (.sc (.int .i64 d4)), .d (.sc (.int .i64 d5)), .d (.sc (.int .i64 d6))] 5 = d5 := by subst hA; rfl
  cbv at v5
  have v6 : A.gi [.d (.sc (.int .i64 d0)), .d (.sc (.int .i64 d1)), .d (.sc (.int .i64 d2)), .d (.sc (.int .i64 d3)), .d (.sc (.int .i64 d4)), .d (.sc (.int .i64 d5)), .d (.sc (.int .i64 d6))] 6 = d6 := by subst hA; rfl
  cbv at v6
  obtain ⟨x1, hx1⟩ : ∃ x, x = numX [] d0 := ⟨_, rfl⟩
  have hN0 : FnV Try.prog 36 [.d (.sc (.slice none 0 0)), .d (.sc (.int .i64 d0))] (.d (.slc 1 x1)) := by
    refine FnP.ups (args := [.d (.sc (.slice none 0 0)), .d (.sc (.int .i64 d0))]) (?_ : FnV Try.prog 36 [.d (.slc 1 []), .d (.sc (.int .i64 d0))] (.d (.slc 1 x1))) (UpL.nil (UpL.keep UpL.done))
    rw [hx1]
    exact v_num [] d0 ⟨[], rfl, by decide⟩ hrd.1
  have hy1 : isLn 10 x1 := by rw [hx1]; exact isLn.nil.num d0
  obtain ⟨x2, hx2⟩ : ∃ x, x = numX x1 d1 := ⟨_, rfl⟩
  have hN1 : FnV Try.prog 36 [.d (.slc 1 x1), .d (.sc (.int .i64 d1))] (.d (.slc 1 x2)) := by
    rw [hx2]
    exact v_num x1 d1 (hy1.le (by decide)) hrd.2.1
  have hy2 : isLn 20 x2 := by rw [hx2]; exact hy1.num d1
  obtain ⟨x3, hx3⟩ : ∃ x, x = numX x2 d2 := ⟨_, rfl⟩
  have hN2 : FnV Try.prog 36 [.d (.slc 1 x2), .d (.sc (.int .i64 d2))] (.d (.slc 1 x3)) := by
    rw [hx3]
    exact v_num x2 d2 (hy2.le (by decide)) hrd.2.2.1
  have hy3 : isLn 30 x3 := by rw [hx3]; exact hy2.num d2
  obtain ⟨x4, hx4⟩ : ∃ x, x = numX x3 d3 := ⟨_, rfl⟩
  have hN3 : FnV Try.prog 36 [.d (.slc 1 x3), .d (.sc (.int .i64 d3))] (.d (.slc 1 x4)) := by
    rw [hx4]
    exact v_num x3 d3 (hy3.le (by decide)) hrd.2.2.2.1
  have hy4 : isLn 40 x4 := by rw [hx4]; exact hy3.num d3
  obtain ⟨x5, hx5⟩ : ∃ x, x = numX x4 d4 := ⟨_, rfl⟩
  have hN4 : FnV Try.prog 36 [.d (.slc 1 x4), .d (.sc (.int .i64 d4))] (.d (.slc 1 x5)) := by
    rw [hx5]
    exact v_num x4 d4 (hy4.le (by decide)) hrd.2.2.2.2.1
  have hy5 : isLn 50 x5 := by rw [hx5]; exact hy4.num d4
  obtain ⟨x6, hx6⟩ : ∃ x, x = numX x5 d5 := ⟨_, rfl⟩
  have hN5 : FnV Try.prog 36 [.d (.slc 1 x5), .d (.sc (.int .i64 d5))] (.d (.slc 1 x6)) := by
    rw [hx6]
    exact v_num x5 d5 (hy5.le (by decide)) hrd.2.2.2.2.2.1
  have hy6 : isLn 60 x6 := by rw [hx6]; exact hy5.num d5
  obtain ⟨c6, hc6, hc6l⟩ := id hy6
  have hW6 := w_pnum c6 x6 d6 hc6 (by omega) hrd.2.2.2.2.2.2
  obtain ⟨sb, hsb, hsbl⟩ := hsm
  obtain ⟨sx, hsx⟩ : ∃ sx, sx = bytesSt s := ⟨_, rfl⟩
  obtain ⟨hb, hbe⟩ : ∃ hb, hb = imgH ⟨d0, d1, d2, d3, d4, d5, d6⟩ s := ⟨_, rfl⟩
  obtain ⟨hx, hhx⟩ : ∃ hx, hx = bytesP hb := ⟨_, rfl⟩
  have hc6e : c6 = numB d0 ++ numB d1 ++ numB d2 ++ numB d3 ++ numB d4 ++ numB d5 := by
    have h1 : bytesP c6 = bytesP (numB d0 ++ numB d1 ++ numB d2 ++ numB d3 ++ numB d4 ++ numB d5) := by
      rw [← hc6, hx6, hx5, hx4, hx3, hx2, hx1]
      simp only [numX, List.nil_append, bytesP_append]
    exact bytesP_inj.1 h1
  have hsb2 : bytesOf sx = sb := by rw [hsx, hsb]; exact bytesOf_bytesP sb
  have hbe2 : hb = c6 ++ numB d6 ++ sb := by rw [hbe, hc6e, imgH, ← hsx, hsb2]; rfl
  have hbl : hb.length ≤ 8000000 := by
    have := numB_length d6
    rw [hbe2, List.length_append, List.length_append]
    omega
  have hxB : isB hx := ⟨hb, hhx, hbl⟩
  have hsz := bytesP_sz hb
  rw [← hhx] at hsz
  obtain ⟨su, hsu0⟩ : ∃ su, su = ofX hx := ⟨_, rfl⟩
  have hsu1 := onX_range 0 (by decide) hx
  have hsu : u64 su := by rw [hsu0]; exact ⟨hsu1.1, Int.lt_trans hsu1.2 (by decide)⟩
  have hrow : rowsD (bytesP (c6 ++ numB d6)) ++ rowsD sx = rowsD hx := by
    rw [hhx, hbe2, rowsB_append (c6 ++ numB d6) sb, hsx, hsb]
  have es : GFsPu.stPut s = sx := by subst hFsPu; exact hsx.symm
  have er : GFsS4.rightSt s = true := by subst hFsS4; exact hr
  have ed : GFsIa.imgR ⟨d0, d1, d2, d3, d4, d5, d6⟩ = true := by subst hFsIa; exact hd
  have en : A.not true = false := by subst hA; rfl
  cbv at er
  cbv at ed
  cbv at en
  cbv at es
  repeat' first
    | (simp only [er, ed, en]; cbv)
    | (refine And.intro ?_ ?_)
    | (refine part (fun h => ?_) (fun h => ?_) <;> try cbv)
  rotate_right 1
  · refine unrollL (T := fun _ => tabY [1, 1003, 1008, 1025, 5003, 5004] []) (H := fun _ => [kn_rightSt GFsS4, kn_imgR GFsIa, kn_stPut GFsPu]) (tabY_ok _ _) hH follows_mixed hA hX 8 fun R hR => ?_
    cbv
    repeat' first
      | (simp only [l0, l1, l2, l3, l4, l5, l6, l7, b0, b1, b2, b3, b4, b5, b6, o0_0, o0_1, o0_2, o0_3, o0_4, o0_5, o0_6, v0, v1, v2, v3, v4, v5, v6, er, ed, en, decide_true]; cbv)
      | (refine And.intro ?_ ?_)
      | (refine callL hX (FnV.use hN0 rfl ?_); cbv)
      | (refine callL hX (FnV.use hN1 rfl ?_); cbv)
      | (refine callL hX (FnV.use hN2 rfl ?_); cbv)
      | (refine callL hX (FnV.use hN3 rfl ?_); cbv)
      | (refine callL hX (FnV.use hN4 rfl ?_); cbv)
      | (refine callL hX (FnV.use hN5 rfl ?_); cbv)
      | (refine hR _ _ _ ?_; cbv)
    rotate_right 1
    · refine callL hX (FnD.newRow hW6 rfl fun v c7 m7 hc7 hm7 => ?_)
      cbv
      repeat' first
        | (simp only [l0, l1, l2, l3, l4, l5, l6, l7, b0, b1, b2, b3, b4, b5, b6, o0_0, o0_1, o0_2, o0_3, o0_4, o0_5, o0_6, v0, v1, v2, v3, v4, v5, v6, er, ed, en, es, decide_true]; cbv)
        | (refine And.intro ?_ ?_)
        | (refine hR _ _ _ ?_; cbv)
      rotate_right 1
      · have hsof : FnV Try.prog 38 [.d (.slc 1 hx)] (.d (.sc (.int .u32 su))) := by rw [hsu0]; exact v_sof hx hxB
        have hn7 : m7 + sx.length = hx.length := by
          have h9 := congrArg List.length hrow
          rw [List.length_append, rowsB_length, ← hm7, rowsD_len hsz, hsx, hsb, rowsB_length] at h9
          rw [hsx, hsb, bytesP_length]
          omega
        refine callL hX (FnV.ro (o := 0) (ys := hx) 2 1 ⟨5, A.app c7 (A.rows sx), true, A.nxt v, true⟩ rfl rfl (xs := hx) ?_ hsz 0 rfl ?_ ?_ hsof rfl rfl ?_)
        rotate_right 1
        · cbv
          refine callL hX (FnD.freezeTo (args' := [.d (.slc 1 hx), .d (.sc (.int .i64 4)), .d (.sc (.int .u64 su))]) 2 1 hx ⟨5, A.app c7 (A.rows sx), true, A.nxt v, true⟩ rfl rfl ?_ hsz ?_ (FnD.newRow (w_wput hb hx su hhx hbl hsu) rfl fun v8 c8 m8 hc8 hm8 => ?_))
          rotate_right 1
          · cbv
            subst hA hX hW
            have hpr : pullL [3] c8 = c8 := by rw [hc8, pullL_eq]; exact pull_rows _ _
            have hI : imgI ⟨d0, d1, d2, d3, d4, d5, d6⟩ s = hb ++ le4 su := by unfold imgI; rw [← hbe, ← hhx, ← hsu0]
            rw [hI]
            refine ret_keep [3] rfl ⟨v8, c8, m8, hc8, hm8, rfl, ?_⟩
            show [(⟨5, pullL [3] c8, true, v8, true⟩ : Box)] = _
            rw [hpr]
          · subst hA
            show c7 ++ rowsD sx = rowsD hx
            rw [hc7]
            exact hrow
          · subst hA
            have hw : IntKind.wrap .u64 su = su := wrap_u64 hsu
            show [fzD 2 _ 1 hx (.view 1 2 _ 0 (m7 + sx.length)), .d (.sc (.int .i64 4)), .d (.sc (.int .u64 (IntKind.wrap .u64 su)))] = _
            rw [hw, hn7]
            simp [fzD]
        · subst hA
          show c7 ++ rowsD sx = rowsD hx
          rw [hc7]
          exact hrow
        · subst hA
          show 0 + (m7 + sx.length) ≤ hx.length
          omega
        · subst hA
          show hx = List.take (m7 + sx.length) (List.drop 0 hx)
          rw [hn7, List.drop_zero, List.take_length]
      all_goals subst hA hX hFsS4 hFsIa hFsPu
      all_goals first
        | exact rfl
        | assumption
        | (show List.length _ = 49 * 1; exact hsl)
        | trivial
        | (show c7.length = m7 * 1; rw [hc7, rowsB_length, hm7]; omega)
        | (have hm7l : m7 ≤ 1000000 := by
             have := numB_length d6
             rw [hm7, List.length_append]
             omega
           have hsxl : sx.length ≤ 1000000 := by rw [hsx, hsb, bytesP_length]; exact hsbl
           simp only [A0]
           omega)
        | fail
    all_goals subst hA hX
    all_goals first
      | exact ⟨by decide, by decide⟩
      | exact ⟨rfl, Nat.le_of_ble_eq_true rfl, rfl⟩
      | exact rfl
      | fail
  all_goals subst hA hX hW hFsS4 hFsIa hFsPu
  all_goals first
    | exact rfl
    | assumption
    | trivial
    | exact id
    | (intro hq; exact hq)
    | (show List.length _ = 49 * 1; exact hsl)
    | (show s.length ≤ 1000000; rw [hsl]; decide)
    | (exfalso; revert h; simp [A0]; done)
    | fail
end Go.Proofs.Ytghkcmgiagodlaa
namespace Go.Proofs.Ytghkcmgiagodlaa
open Go.RowKit
set_option linter.all false
set_option maxHeartbeats 4000000
theorem rowsB_map (bs : List UInt8) : rowsD (bytesP bs) = bs.map fun b => DV.d (.sc (.int .u8 (b.toNat : Int))) := by
  simp [rowsD, bytesP_flat]
theorem rowsB_cut (bs : List UInt8) (o n : Nat) : ((rowsD (bytesP bs)).drop o).take n = rowsD (((bytesP bs).drop o).take n) := by
  rw [bytesP_drop, bytesP_take, rowsB_map, rowsB_map, List.map_take, List.map_drop]
set_option maxRecDepth 100000 in
theorem w_grownV (xs ys : List (List PD)) (cs : List DV) (v o n : Nat) (hp0 : isB8 xs) (hcs : cs = rowsD xs) (hon : o + n ≤ xs.length) (hys : ys = (xs.drop o).take n) : FnD Try.prog 79 [.view 1 0 v o n, intD 0] [⟨5, cs, true, v, true⟩] (fun r st' => ∃ c2, c2 = rowsD ys ∧ r = .view 1 1 1 0 n ∧ st' = [⟨5, cs, true, v, true⟩, ⟨5, c2, true, 1, true⟩]) := by
  refine FnD_cbv (T := fun _ => tabY [] []) (H := fun _ => []) (tabY_ok _ _) noK_ok follows_mixed Try.func79 rfl Try.ntmps79 (by simp) fun A X W hA hX hW => ?_
  cbv
  obtain ⟨bs, hxs, hb⟩ := hp0
  have hl : xs.length = bs.length := by rw [hxs]; exact bytesP_length bs
  repeat' first
    | (refine And.intro ?_ ?_)
  all_goals subst hA hX hW
  all_goals first
    | exact rfl
    | (simp only [A0]
       rw [wrap_i64 (by unfold r64; omega)]
       omega)
    | (show o + n * 1 ≤ cs.length
       rw [hcs, hxs, rowsB_length]
       omega)
    | (show List.length [] = _; rfl)
    | (simp only [A0]; omega)
    | (refine RetW.refl ⟨rowsD ys, rfl, ?_, ?_⟩
       · show DV.view 1 1 1 0 (Int.toNat 0 + n) = _
         simp
       · show [(_ : Box), (⟨_, [] ++ (cs.drop o).take (n * 1), true, 1, true⟩ : Box)] = _
         rw [List.nil_append, Nat.mul_one, hcs, hys, hxs, rowsB_cut])
    | fail
set_option maxRecDepth 100000 in
theorem w_readV (xs ys : List (List PD)) (cs : List DV) (v o n : Nat) (hp0 : isB8 xs) (hcs : cs = rowsD xs) (hon : o + n ≤ xs.length) (hys : ys = (xs.drop o).take n) : FnD Try.prog 40 [.view 1 0 v o n] [⟨5, cs, true, v, true⟩] (fun r st' => r = .ref 1 0 0 ∧ st' = [⟨5, cs, true, v, true⟩, rdB 113 ys 0 0]) := by
  refine FnD_cbv (T := fun _ => tabY [] []) (H := fun _ => []) (tabY_ok _ _) noK_ok follows_mixed Try.func40 rfl Try.ntmps40 (by simp) fun A X W hA hX hW => ?_
  cbv
  refine callL hX ((w_grownV xs ys cs v o n hp0 hcs hon hys).mono ?_)
  rintro r st ⟨c2, hc2, rfl, rfl⟩
  cbv
  repeat' (refine And.intro ?_ ?_)
  all_goals subst hA hX hW
  have hyl : n = ys.length := by rw [hys, List.length_take, List.length_drop]; omega
  have hysz : ∀ x ∈ ys, x.length = 1 := by
    obtain ⟨bs, hxs, _⟩ := hp0
    intro x hx
    rw [hys, hxs] at hx
    exact bytesP_sz bs x (List.mem_of_mem_drop (List.mem_of_mem_take hx))
  have hfz : ∀ b w zs, fzL b w 1 zs cs = cs := fun b w zs => by
    rw [fzL_eq, hcs, rowsD, List.map_map]
    rfl
  have hpl : ∀ κ, pullL κ cs = cs := fun κ => by rw [hcs, pullL_eq]; exact pull_rows κ _
  refine ret_freeze 1 1 ys _ rfl rfl (Nat.le_refl 1) hc2 hysz ?_
  refine ret_keep [0, 2] rfl ⟨rfl, ?_⟩
  rw [hyl]
  have e1 : fzL 1 1 1 ys [DV.view 1 1 1 0 ys.length, DV.d (.sc (.int .i64 0)), DV.d (.sc (.int .i64 0))] = [DV.d (.slc 1 ys), DV.d (.sc (.int .i64 0)), DV.d (.sc (.int .i64 0))] := by simp [fzL, fzD]
  show [(⟨_, pullL [0, 2] (fzL 1 1 1 ys cs), true, v, true⟩ : Box), ⟨_, pullL [0, 2] (fzL 1 1 1 ys [DV.view 1 1 1 0 ys.length, DV.d (.sc (.int .i64 0)), DV.d (.sc (.int .i64 0))]), false, 0, true⟩] = _
  rw [hfz, hpl, e1]
  rfl
end Go.Proofs.Ytghkcmgiagodlaa
namespace Go.Proofs.Ytghkcmgiagodlaa
open Go.RowKit
set_option linter.all false
set_option maxHeartbeats 4000000
theorem isB8_cut {rx xs : List (List PD)} {o n : Nat} (h : isB8 rx) (e : xs = (rx.drop o).take n) : isB8 xs := by
  obtain ⟨bs, rfl, hb⟩ := h
  refine ⟨(bs.drop o).take n, by rw [e, bytesP_drop, bytesP_take], ?_⟩
  rw [List.length_take, List.length_drop]
  omega
set_option maxRecDepth 1000000 in
theorem w_getS (rx xs : List (List PD)) (rc : List DV) (v o n : Nat) (hrx : isB8 rx) (hrc : rc = rowsD rx) (hon : o + n ≤ rx.length) (hxs : xs = (rx.drop o).take n) : FnD Try.prog 32 [.view 1 0 v o n] [⟨5, rc, true, v, true⟩] (fun r st' => r = .tup [.agg (getSt xs).1, .d (.sc (.int .i64 (getSt xs).2))] ∧ st' = [⟨5, rc, true, v, true⟩]) := by
  have hp0 : isB8 xs := isB8_cut hrx hxs
  have hrcl : closedL 0 rc = true := by rw [hrc]; exact rows_closed rx
  obtain ⟨GFsS4, hFsS4⟩ : ∃ F, F = FsS40 := ⟨_, rfl⟩
  obtain ⟨GFsGl, hFsGl⟩ : ∃ F, F = FsGl0 := ⟨_, rfl⟩
  obtain ⟨GFsRr, hFsRr⟩ : ∃ F, F = FsRr0 := ⟨_, rfl⟩
  have hH : SoundK Try.prog [kn_rightSt GFsS4] := by subst hFsS4 hFsGl hFsRr; exact orK_ok ok_rightSt noK_ok
  have hB : SoundB Try.prog [kb_list GFsGl, kb_pNum GFsRr, kb_pFlag GFsRr, kb_pText GFsRr, kb_pEnd GFsRr] := by subst hFsS4 hFsGl hFsRr; exact orB_ok okb_list (orB_ok okb_pNum (orB_ok okb_pFlag (orB_ok okb_pText (orB_ok okb_pEnd noB_ok))))
  refine FnD_cbv (T := fun _ => tabY [7, 19, 20, 23, 24, 25, 26, 27, 30, 33, 34, 35, 36, 39, 40, 41, 42, 45, 46, 47, 48, 51, 52, 53, 54, 57, 58, 59, 1002, 1005, 1065, 1070, 1071, 5004] []) (H := fun _ => [kn_rightSt GFsS4]) (tabY_ok _ _) hH follows_mixed Try.func32 rfl Try.ntmps32 (by simp) fun A X W hA hX hW => ?_
  cbv
  obtain ⟨z, hz⟩ : ∃ z, z = DV.d (.sc (.slice none 0 0)) :: Z48 := ⟨_, rfl⟩
  have h0 := rd0 hp0
  have hup : ∀ xl : List (List PD), UpL (.d (.slc 3 xl) :: Z48) (.d (.slc 3 xl) :: ownsD (List.replicate 8 ⟨0, zeroRep⟩)) := fun xl => by
    have e : upCs (.d (.slc 3 xl) :: Z48) = .d (.slc 3 xl) :: ownsD (List.replicate 8 ⟨0, zeroRep⟩) := rfl
    rw [← e]
    exact upL_upCs _
  have hup0 : UpL (DV.d (.sc (.slice none 0 0)) :: Z48) zeroSt := by
    have e : upCs (DV.d (.sc (.slice none 0 0)) :: Z48) = zeroSt := rfl
    rw [← e]
    exact upL_upCs _
  obtain ⟨⟨pl, b0, u0⟩, hq⟩ : ∃ q, lstR xs 0 0 32 = q := ⟨_, rfl⟩
  have hl := lstR_rd h0 (most := 32) (by decide)
  rw [hq] at hl
  obtain ⟨hr0, hpl, hpv⟩ := hl
  replace hr0 : isRd xs b0 u0 := hr0
  have hpn : pl.length ≤ 4194304 := by simp only at hpl; omega
  obtain ⟨xl, hxl⟩ : ∃ xl, xl = pairsX pl := ⟨_, rfl⟩
  have eq1 : GFsGl.list xs 0 0 32 = (xl, b0, u0) := by subst hFsGl; show lsX xs 0 0 32 = _; unfold lsX; rw [hq, hxl]
  cbv at eq1
  refine callL hX (FnD.rowNew 0 (w_readV rx xs rc v o n hrx hrc hon hxs) rfl rfl hrcl rfl ?_)
  cbv
  refine callB hX hB ?_
  cbv
  refine ⟨by subst hFsGl; exact h0, by subst hFsGl; exact ⟨by decide, by decide⟩, ?_⟩
  simp only [eq1]
  refine loopL (T := fun _ => tabY [7, 19, 20, 23, 24, 25, 26, 27, 30, 33, 34, 35, 36, 39, 40, 41, 42, 45, 46, 47, 48, 51, 52, 53, 54, 57, 58, 59, 1002, 1005, 1065, 1070, 1071, 5004] []) (H := fun _ => [kn_rightSt GFsS4]) (tabY_ok _ _) hH follows_mixed hA hX (fun x : Int × Int × Int × List DV => (0 ≤ x.1 ∧ x.1 ≤ 8) ∧ ∃ os, x.2.2.2 = ownsD os ∧ owsR xs x.1.toNat b0 u0 = (os.take x.1.toNat, x.2.1, x.2.2.1) ∧ os.length = 8 ∧ os.drop x.1.toNat = List.replicate (8 - x.1.toNat) ⟨0, zeroRep⟩)
    (fun x => [(2, .ref 1 0 0), (4, .ref 2 0 0), (5, .ref 3 0 0), (14, .d (.sc (.int .i64 x.1)))]) (fun x => [⟨5, rc, true, v, true⟩, ⟨34, z, false, 0, true⟩, rdB 113 xs x.2.1 x.2.2.1, ⟨34, .d (.slc 3 xl) :: x.2.2.2, false, 0, true⟩])
    (fun x => 8 - x.1.toNat) (0, b0, u0, ownsD (List.replicate 8 ⟨0, zeroRep⟩)) ?_ ?_ ?_
  · exact ⟨⟨by simp only; omega, by simp only; omega⟩, _, rfl, rfl, rfl, rfl⟩
  · subst hz
    exact told_upst ⟨_, _, rfl, ⟨rfl, rfl, rfl, rfl, UpL.refl fun a _ => UpD.refl a⟩, _, _, rfl, ⟨rfl, rfl, rfl, rfl, UpL.refl fun a _ => UpD.refl a⟩, _, _, rfl, ⟨rfl, rfl, rfl, rfl, UpL.refl fun a _ => UpD.refl a⟩, _, _, rfl, ⟨rfl, rfl, rfl, rfl, hup xl⟩, rfl⟩ ⟨.inl (UpD.refl _), .inl (UpD.refl _), .inl (UpD.refl _), .inl (UpD.refl _), trivial⟩
  rintro R ⟨i, b, u, cs⟩ hR ⟨hi, hls⟩
  replace hi : 0 ≤ i ∧ i ≤ 8 := hi
  obtain ⟨os, hcs, hls, ho8, hod⟩ := hls
  replace hcs : cs = ownsD os := hcs
  replace hls : owsR xs i.toNat b0 u0 = (os.take i.toNat, b, u) := hls
  replace hod : os.drop i.toNat = List.replicate (8 - i.toNat) ⟨0, zeroRep⟩ := hod
  have hrd : isRd xs b u := by have := (owsR_rd hr0 i.toNat).1; rw [hls] at this; exact this
  cbv
  refine part (fun h => ?_) (fun h => ?_)
  · cbv
    have hi8 : i < 8 := by subst hA; simpa [A0] using h
    have hin : i.toNat < os.length := by omega
    have hoz : os[i.toNat]'hin = ⟨0, zeroRep⟩ := by
      have h1 := List.drop_eq_getElem_cons hin
      rw [hod, show 8 - i.toNat = (7 - i.toNat) + 1 by omega, List.replicate_succ] at h1
      exact (List.cons.inj h1).1.symm
    obtain ⟨P, hP, hPl, S, hdec, hset⟩ := own_dec (.d (.slc 3 xl)) hcs i.toNat hin
    rw [hoz] at hdec
    replace hdec : DV.d (.slc 3 xl) :: cs = P ++ (zero6 ++ S) := hdec
    have hsu := owsR_succ hls
    have hrw := owR_eq xs b u
    have k0 : ∀ d0 : DV, splice (P ++ (zero6 ++ S)) (1 + i.toNat * 6 + 0) [d0] = P ++ ([d0, .d (.sc (.int .i64 0)), .d (.sc (.bool false)), .d (.sc (.string none8)), .d (.sc (.int .i64 0)), .d (.slc 3 [])] ++ S) := fun d0 => splice_at 0 (by omega) (by decide) _
    have k1 : ∀ d0 d1 : DV, splice (P ++ ([d0, .d (.sc (.int .i64 0)), .d (.sc (.bool false)), .d (.sc (.string none8)), .d (.sc (.int .i64 0)), .d (.slc 3 [])] ++ S)) (1 + i.toNat * 6 + 1 + 0) [d1] = P ++ ([d0, d1, .d (.sc (.bool false)), .d (.sc (.string none8)), .d (.sc (.int .i64 0)), .d (.slc 3 [])] ++ S) := fun d0 d1 => splice_at 1 (by omega) (by simp only [List.length_cons, List.length_nil]; omega) _
    have k2 : ∀ d0 d1 d2 : DV, splice (P ++ ([d0, d1, .d (.sc (.bool false)), .d (.sc (.string none8)), .d (.sc (.int .i64 0)), .d (.slc 3 [])] ++ S)) (1 + i.toNat * 6 + 1 + 1) [d2] = P ++ ([d0, d1, d2, .d (.sc (.string none8)), .d (.sc (.int .i64 0)), .d (.slc 3 [])] ++ S) := fun d0 d1 d2 => splice_at 2 (by omega) (by simp only [List.length_cons, List.length_nil]; omega) _
    have k3 : ∀ d0 d1 d2 d3 : DV, splice (P ++ ([d0, d1, d2, .d (.sc (.string none8)), .d (.sc (.int .i64 0)), .d (.slc 3 [])] ++ S)) (1 + i.toNat * 6 + 1 + 2) [d3] = P ++ ([d0, d1, d2, d3, .d (.sc (.int .i64 0)), .d (.slc 3 [])] ++ S) := fun d0 d1 d2 d3 => splice_at 3 (by omega) (by simp only [List.length_cons, List.length_nil]; omega) _
    have k4 : ∀ d0 d1 d2 d3 d4 : DV, splice (P ++ ([d0, d1, d2, d3, .d (.sc (.int .i64 0)), .d (.slc 3 [])] ++ S)) (1 + i.toNat * 6 + 1 + 3) [d4] = P ++ ([d0, d1, d2, d3, d4, .d (.slc 3 [])] ++ S) := fun d0 d1 d2 d3 d4 => splice_at 4 (by omega) (by simp only [List.length_cons, List.length_nil]; omega) _
    have k5 : ∀ d0 d1 d2 d3 d4 d5 : DV, splice (P ++ ([d0, d1, d2, d3, d4, .d (.slc 3 [])] ++ S)) (1 + i.toNat * 6 + 1 + 4) [d5] = P ++ ([d0, d1, d2, d3, d4, d5] ++ S) := fun d0 d1 d2 d3 d4 d5 => splice_at 5 (by omega) (by simp only [List.length_cons, List.length_nil]; omega) _
    have g0 : ∀ (d : DV) (Q : List DV), (P ++ ((d :: Q) ++ S))[1 + i.toNat * 6 + 0]? = some d := fun d Q => (get_at 0 (by omega) (by simp)).trans rfl
    have t0 : ∀ (d : DV) (Q : List DV), ((P ++ ((d :: Q) ++ S)).drop (1 + i.toNat * 6 + 0)).take 1 = [d] := fun d Q => by rw [show 1 + i.toNat * 6 + 0 = P.length by omega, List.drop_left]; rfl
    have hrp : pullL [0, 1, 2, 3] rc = rc := pullL_closed _ _ hrcl
    have hzp : pullL [0, 1, 2, 3] z = z := by rw [hz]; exact pullL_closed _ _ rfl
    repeat' first
      | (refine part (fun h2 => ?_) (fun h2 => ?_) <;> try cbv)
      | (refine And.intro ?_ ?_)
      | (with_reducible refine callB hX hB ?_) <;> cbv
    all_goals subst hA hX hW hR hFsRr hFsGl hFsS4
    all_goals clear hH hB
    all_goals try rw [hdec]
    all_goals simp only [A0, nc, FsRr0, FsGl0, decide_eq_true_eq, decide_eq_false_iff_not] at *
    all_goals have x1 := num_rd hrd
    all_goals generalize numR xs b u = q1 at *
    all_goals obtain ⟨n1, b1, u1⟩ := q1
    all_goals try simp only at *
    all_goals have x2 := num_rd x1.1
    all_goals generalize numR xs b1 u1 = q2 at *
    all_goals obtain ⟨n2, b2, u2⟩ := q2
    all_goals try simp only at *
    all_goals have x3 := flag_rd x2.1
    all_goals generalize flagR xs b2 u2 = q3 at *
    all_goals obtain ⟨n3, b3, u3⟩ := q3
    all_goals try simp only at *
    all_goals have x4 := text_rd 64 x3
    all_goals generalize textR xs b3 u3 64 = q4 at *
    all_goals obtain ⟨n4, b4, u4⟩ := q4
    all_goals try simp only at *
    all_goals have x5 := num_rd x4
    all_goals generalize numR xs b4 u4 = q5 at *
    all_goals obtain ⟨n5, b5, u5⟩ := q5
    all_goals try simp only at *
    all_goals generalize lsX xs b5 u5 8 = q6 at *
    all_goals obtain ⟨n6, b6, u6⟩ := q6
    all_goals try simp only at *
    all_goals try simp only [k0, k1, k2, k3, k4, k5, g0, t0]
    all_goals first
      | assumption
      | exact x1.1
      | exact x2.1
      | exact x3
      | exact x4
      | exact x5.1
      | exact ⟨hi.1, hi8⟩
      | exact ⟨by decide, by decide⟩
      | (simp only [List.length_append, List.length_cons, List.length_nil, zero6, hPl]; omega)
      | (refine ⟨rfl, ?_, rfl⟩; simp only [List.length_append, List.length_cons, List.length_nil, zero6, hPl]; omega)
      | skip
    all_goals have ei : IntKind.wrap .i64 (i + 1) = i + 1 := wrap_i64 (by unfold r64; omega)
    all_goals obtain ⟨o, ho⟩ : ∃ o, o = owR xs b u := ⟨_, rfl⟩
    all_goals have how := hrw
    all_goals rw [← ho] at how
    all_goals rw [← ho] at hsu
    all_goals first
      | (refine ⟨rfl, ?_, trivial⟩; simp only [List.length_append, List.length_cons, List.length_nil, zero6, hPl]; omega)
      | skip
    all_goals rw [hdec, k0, g0] at h2
    · replace h2 : n1 = 0 := h2
      rw [if_pos h2] at how
      obtain ⟨y1, y2⟩ := own_next ⟨n1, zeroRep⟩ ho8 (show i.toNat < 8 by omega) hod
      refine ⟨(i + 1, b1, u1, ownsD (os.set i.toNat ⟨n1, zeroRep⟩)), ⟨⟨by simp only; omega, by simp only; omega⟩, os.set i.toNat ⟨n1, zeroRep⟩, rfl, ?_, by rw [List.length_set]; exact ho8, ?_⟩, by simp only; omega, told_keep [0, 1, 2, 3] rfl ?_ ?_⟩
      · simp only
        rw [show (i + 1).toNat = i.toNat + 1 by omega, hsu, how, y1]
      · simp only
        rw [show (i + 1).toNat = i.toNat + 1 by omega]
        exact y2
      · have hc1 : pullL [0, 1, 2, 3] (.d (.slc 3 xl) :: ownsD (os.set i.toNat ⟨n1, zeroRep⟩)) = .d (.slc 3 xl) :: ownsD (os.set i.toNat ⟨n1, zeroRep⟩) := pullL_closed _ _ (own_clo _)
        rw [hset] at hc1
        simp only
        rw [hset]
        simp [keepSt, pullBox, hzp, hrp, pullL, pullD]
        exact hc1.symm
      · simp [toldP, getS, pullD, ei]
        try exact ⟨rfl, rfl, rfl⟩
    · replace h2 : ¬ n1 = 0 := h2
      rw [if_neg h2] at how
      obtain ⟨y1, y2⟩ := own_next ⟨n1, ⟨n2, n3, n4, n5, n6⟩⟩ ho8 (show i.toNat < 8 by omega) hod
      refine ⟨(i + 1, b6, u6, ownsD (os.set i.toNat ⟨n1, ⟨n2, n3, n4, n5, n6⟩⟩)), ⟨⟨by simp only; omega, by simp only; omega⟩, os.set i.toNat ⟨n1, ⟨n2, n3, n4, n5, n6⟩⟩, rfl, ?_, by rw [List.length_set]; exact ho8, ?_⟩, by simp only; omega, told_keep [0, 1, 2, 3] rfl ?_ ?_⟩
      · simp only
        rw [show (i + 1).toNat = i.toNat + 1 by omega, hsu, how, y1]
      · simp only
        rw [show (i + 1).toNat = i.toNat + 1 by omega]
        exact y2
      · have hc1 : pullL [0, 1, 2, 3] (.d (.slc 3 xl) :: ownsD (os.set i.toNat ⟨n1, ⟨n2, n3, n4, n5, n6⟩⟩)) = .d (.slc 3 xl) :: ownsD (os.set i.toNat ⟨n1, ⟨n2, n3, n4, n5, n6⟩⟩) := pullL_closed _ _ (own_clo _)
        rw [hset] at hc1
        simp only
        rw [hset]
        simp [keepSt, pullBox, hzp, hrp, pullL, pullD]
        exact hc1.symm
      · simp [toldP, getS, pullD, ei]
        try exact ⟨rfl, rfl, rfl⟩
  · cbv
    have hi8 : i = 8 := by
      subst hA
      simp only [A0, decide_eq_false_iff_not] at h
      replace h : ¬ i < 8 := h
      omega
    subst hi8
    have hto : os.take (Int.toNat 8) = os := List.take_of_length_le (by show os.length ≤ 8; omega)
    rw [hto] at hls
    replace hls : owsR xs 8 b0 u0 = (os, b, u) := hls
    have hgs : getSt xs = (if endR xs b u = 0 then (if rightSt (.d (.slc 3 xl) :: cs) = true then (.d (.slc 3 xl) :: cs, 0) else (zeroSt, 4)) else (zeroSt, endR xs b u)) := by
      unfold getSt
      simp only [hq, hls]
      rw [hxl, hcs]
      rfl
    have hP : isP xl := by rw [hxl]; exact ⟨pl, rfl, hpn⟩
    have hO : isOwn cs := ⟨os, ho8, hcs, fun o ho => by
      have h9 := (owsR_rd hr0 8).2.2
      rw [hls] at h9
      obtain ⟨_, ps, e, hl, _⟩ := h9 o ho
      rw [e]
      exact ⟨ps, rfl, by omega⟩⟩
    have hst := isSt.mk hP hO
    have hcl := hO.len
    have hzl : z.length = 49 := by rw [hz]; rfl
    repeat' first
      | (refine part (fun h2 => ?_) (fun h2 => ?_) <;> try cbv)
      | (refine And.intro ?_ ?_)
      | (with_reducible refine callB hX hB ?_) <;> cbv
    all_goals subst hA hX hW hR hFsRr hFsGl hFsS4
    all_goals clear hH hB
    all_goals simp only [A0, nc, FsRr0, FsGl0, FsS40, decide_eq_true_eq, decide_eq_false_iff_not] at *
    all_goals first
      | assumption
      | (simp [hcl, hzl]; done)
      | skip
    all_goals have hkr : pullL [0] rc = rc := pullL_closed _ _ hrcl
    · have he : ¬ endR xs b u = 0 := by simpa using h2
      rw [hgs, if_neg he]
      refine ret_upk (κ := [0]) rfl ⟨_, rfl, UpL.agg (hup0) (UpL.keep UpL.done)⟩ rfl ⟨rfl, ?_⟩
      show [(⟨_, pullL [0] rc, true, v, true⟩ : Box)] = _
      rw [hkr]
      rfl
    · rename_i h3
      have he : endR xs b u = 0 := by simpa using h3
      have hr : ¬ rightSt (.d (.slc 3 xl) :: cs) = true := by simpa using h2
      rw [hgs, if_pos he, if_neg hr]
      refine ret_upk (κ := [0]) rfl ⟨_, rfl, UpL.agg (hup0) (UpL.keep UpL.done)⟩ rfl ⟨rfl, ?_⟩
      show [(⟨_, pullL [0] rc, true, v, true⟩ : Box)] = _
      rw [hkr]
      rfl
    · rename_i h3
      have he : endR xs b u = 0 := by simpa using h3
      have hr : rightSt (.d (.slc 3 xl) :: cs) = true := by simpa using h2
      have hclo := hst.closed
      rw [hgs, if_pos he, if_pos hr]
      refine ret_keep [0] rfl ⟨?_, ?_⟩
      · show DV.tup [.agg (pullL [0] (.d (.slc 3 xl) :: cs)), _] = _
        rw [pullL_closed _ _ hclo]
        rfl
      · show [(⟨_, pullL [0] rc, true, v, true⟩ : Box)] = _
        rw [hkr]
        rfl
end Go.Proofs.Ytghkcmgiagodlaa
