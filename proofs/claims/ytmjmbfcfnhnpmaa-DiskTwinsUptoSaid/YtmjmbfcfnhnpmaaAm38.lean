/- The program logic, thirty-eighth part: regions with a map's operations, the evaluation of statements with a map. No condition: lemmas of any program. -/
import Derived.Test.YtmjmbfcfnhnpmaaAm37
namespace Go.Proofs.Ytmjmbfcfnhnpmaa
open Go.RowKit Go.Maps
set_option linter.all false

def scL : List DV → Option (List Value)
  | [] => some []
  | .d (.sc v) :: l => (match scL l with
    | some vs => some (v :: vs)
    | none => none)
  | _ => none
theorem scL_rep {E : Env} : ∀ (ds : List DV) (vs us : List Value), scL ds = some vs → Reps E ds us → us = vs
  | [], vs, [], h, _ => by cases h; rfl
  | [], _, _ :: _, _, h => h.elim
  | d :: ds, vs, [], _, h => by cases d <;> exact h.elim
  | d :: ds, vs, u :: us, h, ⟨h1, h2⟩ => by
      unfold scL at h
      split at h
      · cases ‹_ :: _ = [] ›
      · rename_i v l heq
        cases heq
        split at h
        · rename_i ws hw
          cases h
          rw [scL_rep _ _ us hw h2]
          simp only [Rep, RepP] at h1
          rw [h1]
        · cases h
      · cases h
def valueOf : DV → Option Value
  | .d (.sc v) => some v
  | .agg cs => (match scL cs with
    | some vs => some (.agg vs.toArray)
    | none => none)
  | _ => none
theorem valueOf_rep {E : Env} {d : DV} {v u : Value} (h : valueOf d = some v) (hr : Rep E d u) : u = v := by
  unfold valueOf at h
  split at h
  · cases h; exact hr
  · rename_i cs
    split at h
    · rename_i vs hv
      cases h
      obtain ⟨us, rfl, _, h2⟩ := hr
      rw [scL_rep _ _ _ hv h2]
    · cases h
  · cases h
/-- What the operations of a map ask and give (a record, so that the reckoning leaves it shut). -/
structure Gr where
  isT : Nat → Prop
  isM : DV → Prop
  isKey : Value → Prop
  isX : Value → Prop
  isB : DV → Prop
  bD : DV
  x0 : Value
  look : (Value → Int) → Value → Int
  put : (Value → Int) → Value → Int → Value → Int
noncomputable def G0 (P : Program) (mt kt : TypeId) (g : Nat) (x0 : Value) (b0 : Nat) : Gr where
  isT t := t = mt
  isM d := d = .d (.sc (.map (some g)))
  isKey x := ∃ l, keyOf P kt x = some l
  isX x := x = x0
  isB d := d = .d (.sc (.int .i64 b0))
  bD := .d (.sc (.int .i64 b0))
  x0 := x0
  look F x := F x
  put := putF
abbrev YS := (Value → Int) × Bool
def opGC (T : Unit → Tab) (A : Ar) (C : Gr) (o : Op) (s : SL) (st : Store) (y : YS) (K : DV → Store → YS → Prop) : Prop :=
  match o with
  | .lookup t m k false => (match valueOf (evL s k) with
    | some x => C.isT t ∧ C.isM (evL s m) ∧ C.isKey x ∧ K (.d (.sc (.int .i64 (C.look y.1 x)))) st y
    | none => False)
  | .mapEntry t m k => (match valueOf (evL s k) with
    | some x => C.isT t ∧ C.isM (evL s m) ∧ C.isKey x ∧ C.isX x ∧ K (.tup [.any, C.bD]) st (y.1, true)
    | none => False)
  | .entryStore t m b v => (match evL s v, y.2 with
    | .d (.sc (.int .i64 n)), true => C.isM (evL s m) ∧ C.isB (evL s b) ∧ K (.d (.sc undef)) st (C.put y.1 C.x0 n, true)
    | _, _ => False)
  | o => (match opV T A o s st with
    | some (cs, d, st') => allP cs (K d st' y)
    | none => False)
def stepGC (T : Unit → Tab) (A : Ar) (C : Gr) (N : Nat) (o : Oper) (s : SL) (st : Store) (y : YS) (K : SL → Store → YS → Prop) : Prop :=
  match dstB N o.dst, o.guard with
  | true, none => opGC T A C o.op s st y fun d st' y' => K (putL o.dst d s) st' y'
  | _, _ => False
def rowGC (T : Unit → Tab) (A : Ar) (C : Gr) (N : Nat) : List Oper → SL → Store → YS → (SL → Store → YS → Prop) → Prop
  | [], s, st, y, Q => Q s st y
  | o :: rest, s, st, y, Q => stepGC T A C N o s st y fun s' st' y' => rowGC T A C N rest s' st' y' Q
def allN : List Nat → (Nat → Prop) → Prop
  | [], _ => True
  | i :: l, f => f i ∧ allN l f
theorem allN_mem {f : Nat → Prop} : ∀ {l : List Nat}, allN l f → ∀ i ∈ l, f i
  | i :: l, h, j, hj => by
      rcases List.mem_cons.1 hj with rfl | hj
      · exact h.1
      · exact allN_mem h.2 j hj
def anyGC (T : Unit → Tab) (A : Ar) (C : Gr) (N : Nat) (ops : Array Oper) (Q : SL → Store → YS → Prop) : Nat → Array Bool → SL → Store → YS → Prop
  | 0, listed, s, st, y => (match Region.ready .any ops listed with
    | [] => Q s st y
    | _ => False)
  | fuel + 1, listed, s, st, y => (match Region.ready .any ops listed with
    | [] => Q s st y
    | i :: l => allN (i :: l) fun i => match ops[i]? with
      | none => anyGC T A C N ops Q fuel (listed.setIfInBounds i true) s st y
      | some o => stepGC T A C N o s st y (anyGC T A C N ops Q fuel (listed.setIfInBounds i true)))
section
variable {P : Program} {T : Unit → Tab} (hT : TabOk P (T ())) {N : Nat} {B : Env} (hB : B.σ.length = B.st.length) {mt kt et : TypeId} (hK : Keyed P kt) (hmt : P.underlying mt = some (.map kt et)) (hz : ∃ i, P.info? et = some i ∧ i.zero = some (.int .i64 0)) {g : Nat} (hg : B.w.heap.size ≤ g) {x0 : Value} {b0 : Nat}
include hT hB hK hmt hz hg
theorem opGC_ok {E : Env} {s : SL} {a : Act} (hc : Conc E) (hs : SlotsOk E N (getS s) a) (hx : Ext B E) {y : YS} (hM : MapAt P kt g x0 b0 y.1 y.2 E.w) (o : Oper) {K : DV → Store → YS → Prop} (h : opGC T A0 (G0 P mt kt g x0 b0) o.op s E.st y K) {next : Act → World → Prop} {Q : Exit → Act → World → Prop}
    (hn : ∀ (d : DV) (v : Value) (E' : Env) (y' : YS), K d E'.st y' → Conc E' → Ext B E' → SlotsOk E' N (getS s) a → MapAt P kt g x0 b0 y'.1 y'.2 E'.w → Rep E' d v → next (a.put o.dst v) E'.w) : o.wp P a E.w next Q := by
  have evr : ∀ {k : Operand} {x : Value}, valueOf (evL s k) = some x → a.eval k = x := fun hv => valueOf_rep hv (ev_rep hs _)
  unfold opGC at h
  split at h
  · rename_i t m k ho
    split at h
    · rename_i x hv
      obtain ⟨rfl, hm, ⟨l, hl⟩, hk⟩ := h
      have e1 : a.eval m = .map (some g) := valueOf_rep (d := evL s m) (by rw [show evL s m = _ from hm]; rfl) (ev_rep hs m)
      unfold Oper.wp
      simp only [execOp, ho, Sem.run_bind, e1, evr hv, run_look hK hmt hz hM.any hl, Result.andThen_ok, Sem.run_pure, Oper.upon]
      exact hn _ _ E y hk hc hx hs hM rfl
    · exact h.elim
  · rename_i t m k ho
    split at h
    · rename_i x hv
      obtain ⟨rfl, hm, ⟨l, hl⟩, hxx, hk⟩ := h
      have hxx : x = x0 := hxx
      subst hxx
      have e1 : a.eval m = .map (some g) := valueOf_rep (d := evL s m) (by rw [show evL s m = _ from hm]; rfl) (ev_rep hs m)
      obtain ⟨es', clock', r1, r2⟩ := run_entry hK hmt hz hM hl
      obtain ⟨es, clock, q1, _⟩ := hM
      obtain ⟨c1, c2, c3⟩ := mapTurn (es' := es') (clock' := clock') hc hs hx hg q1
      unfold Oper.wp
      simp only [execOp, ho, Sem.run_bind, e1, evr hv, r1, Result.andThen_ok, Sem.run_pure, Oper.upon]
      exact hn _ _ ⟨{ E.w with heap := E.w.heap.setIfInBounds g (.map es' clock') }, E.S, E.σ, E.st⟩ (y.1, true) hk c1 c3 c2 r2 ⟨[.int .i64 (y.1 x), .int .i64 b0], rfl, trivial, rfl, trivial⟩
    · exact h.elim
  · rename_i t m b v ho
    split at h
    · rename_i n hv hy
      obtain ⟨hm, hb, hk⟩ := h
      have e1 : a.eval m = .map (some g) := valueOf_rep (d := evL s m) (by rw [show evL s m = _ from hm]; rfl) (ev_rep hs m)
      have e2 : a.eval b = .int .i64 b0 := valueOf_rep (d := evL s b) (by rw [show evL s b = _ from hb]; rfl) (ev_rep hs b)
      have e3 : a.eval v = .int .i64 n := valueOf_rep (d := evL s v) (by rw [hv]; rfl) (ev_rep hs v)
      rw [hy] at hM
      obtain ⟨es', clock', r1, r2⟩ := run_estore (P := P) (mt := t) (n := n) hM
      obtain ⟨es, clock, q1, _⟩ := hM
      obtain ⟨c1, c2, c3⟩ := mapTurn (es' := es') (clock' := clock') hc hs hx hg q1
      unfold Oper.wp
      simp only [execOp, ho, Sem.run_bind, e1, e2, e3, r1, Result.andThen_ok, Sem.run_pure, Oper.upon]
      exact hn _ _ ⟨{ E.w with heap := E.w.heap.setIfInBounds g (.map es' clock') }, E.S, E.σ, E.st⟩ (putF y.1 x0 n, true) hk c1 c3 c2 r2 rfl
    · exact h.elim
  · split at h
    · rename_i cs d st' hv
      rw [allP_iff] at h
      have := opV_D (K := fun d st' => K d st' y) hT hv h.1 h.2
      refine op_ok hc hs o this fun d v E' k1 k2 k3 k4 => ?_
      refine hn d v E' y k1 k2 (Ext.trans hB hc.len hx k3) (hs.ext hc k3) ?_ k4
      obtain ⟨es, clock, q1, q2⟩ := hM
      exact ⟨es, clock, map_old hc k3 q1, q2⟩
    · exact h.elim
theorem stepGC_ok {E : Env} {s : SL} {a : Act} (hc : Conc E) (hs : SlotsOk E N (getS s) a) (hx : Ext B E) {y : YS} (hM : MapAt P kt g x0 b0 y.1 y.2 E.w) (ops : Array Oper) (o : Oper) {K : SL → Store → YS → Prop} (h : stepGC T A0 (G0 P mt kt g x0 b0) N o s E.st y K) {next : Act → World → Prop} {Q : Exit → Act → World → Prop}
    (hn : ∀ (s' : SL) (a' : Act) (E' : Env) (y' : YS), K s' E'.st y' → Conc E' → Ext B E' → MapAt P kt g x0 b0 y'.1 y'.2 E'.w → SlotsOk E' N (getS s') a' → next a' E'.w) :
    if Region.wanted o (yielded ops a.tmps) then o.wp P a E.w next Q ∨ (o.asks P a E.w ∧ LetsOut Q) else next (a.put o.dst undef) E.w := by
  unfold stepGC at h
  split at h
  · rename_i hd hgd
    rw [show Region.wanted o (yielded ops a.tmps) = true from wantedD_spec hs (by rw [hgd]; rfl), if_pos rfl]
    refine .inl (opGC_ok hT hB hK hmt hz hg hc hs hx hM o h fun d v E' y' k1 k2 k3 k4 k5 k6 => ?_)
    refine hn _ _ E' y' k1 k2 k3 k5 ?_
    rw [getS_putL]
    exact k4.putS (dstB_ok hd) k6
  · exact h.elim
theorem rowGC_ok {ops : Array Oper} {Q : Exit → Act → World → Prop} : ∀ (l : List Oper) (s : SL) (E : Env) (a : Act) (y : YS) (K : SL → Store → YS → Prop), Conc E → SlotsOk E N (getS s) a → Ext B E → MapAt P kt g x0 b0 y.1 y.2 E.w → rowGC T A0 (G0 P mt kt g x0 b0) N l s E.st y K →
    (∀ (s' : SL) (a' : Act) (E' : Env) (y' : YS), K s' E'.st y' → Conc E' → Ext B E' → MapAt P kt g x0 b0 y'.1 y'.2 E'.w → SlotsOk E' N (getS s') a' → Q .normal a' E'.w) → wpList P ops Q l a E.w
  | [], s, E, a, y, K, hc, hs, hx, hM, h, hn => hn s a E y h hc hx hM hs
  | o :: rest, s, E, a, y, K, hc, hs, hx, hM, h, hn => by
      have := stepGC_ok hT hB hK hmt hz hg (Q := Q) (next := wpList P ops Q rest) hc hs hx hM ops o h fun s' a' E' y' k1 k2 k3 k4 k5 => rowGC_ok rest s' E' a' y' K k2 k5 k3 k4 k1 hn
      unfold wpList
      exact this
theorem anyGC_ok {ops : Array Oper} {Q : Exit → Act → World → Prop} {K : SL → Store → YS → Prop} : ∀ (fuel : Nat) (listed : Array Bool) (s : SL) (E : Env) (a : Act) (y : YS), Conc E → SlotsOk E N (getS s) a → Ext B E → MapAt P kt g x0 b0 y.1 y.2 E.w → anyGC T A0 (G0 P mt kt g x0 b0) N ops K fuel listed s E.st y →
    (∀ (s' : SL) (a' : Act) (E' : Env) (y' : YS), K s' E'.st y' → Conc E' → Ext B E' → MapAt P kt g x0 b0 y'.1 y'.2 E'.w → SlotsOk E' N (getS s') a' → Q .normal a' E'.w) → wpAny P .any ops Q fuel listed a E.w
  | 0, listed, s, E, a, y, hc, hs, hx, hM, h, hn => by
      unfold anyGC at h
      split at h
      · rename_i hr
        exact ⟨hr, hn s a E y h hc hx hM hs⟩
      · exact h.elim
  | fuel + 1, listed, s, E, a, y, hc, hs, hx, hM, h, hn => by
      unfold anyGC at h
      split at h
      · rename_i hr
        exact ⟨fun _ => hn s a E y h hc hx hM hs, fun i hi => (by rw [hr] at hi; cases hi)⟩
      · rename_i i0 l0 hr
        refine ⟨fun h0 => (by rw [hr] at h0; cases h0), fun i hi => ?_⟩
        rw [hr] at hi
        have hstep := allN_mem h i hi
        unfold wpOp
        cases ho : ops[i]? with
        | none =>
          simp only [ho] at hstep
          exact anyGC_ok fuel _ s E a y hc hs hx hM hstep hn
        | some o =>
          simp only [ho] at hstep
          exact stepGC_ok hT hB hK hmt hz hg (Q := Q) (next := wpAny P .any ops Q fuel (listed.setIfInBounds i true)) hc hs hx hM ops o hstep fun s' a' E' y' k1 k2 k3 k4 k5 => anyGC_ok fuel _ s' E' a' y' k2 k5 k3 k4 k1 hn
end
section
variable {P : Program} {T : Unit → Tab} (hT : TabOk P (T ())) {N : Nat} {B : Env} (hB : B.σ.length = B.st.length) {mt kt et : TypeId} (hK : Keyed P kt) (hmt : P.underlying mt = some (.map kt et)) (hz : ∃ i, P.info? et = some i ∧ i.zero = some (.int .i64 0)) {g : Nat} (x0 : Value)
include hT hB hK hmt hz
/-- A region in order, with a map's operations. -/
theorem regionGr {id : Nat} {ops : Array Oper} {Q : Exit → SL → Store → MS → Prop} {s : SL} {st : Store} {F : Value → Int} {A : Ar} (hA : A = A0)
    (h : ∀ b0 C, C = G0 P mt kt g x0 b0 → rowGC T A C N ops.toList s st (F, false) fun s' st' y' => Q .normal s' st' (some (g, y'.1))) : wpG P N B kt (.region id ops false) Q s st (some (g, F)) := by
  subst hA
  obtain ⟨l⟩ := ops
  intro E a hc hst hs hx hM
  subst hst
  obtain ⟨b0, hb⟩ := hM.2.at x0
  refine wp_region_lit (rowGC_ok hT hB hK hmt hz hM.1 l s E a (F, false) _ hc hs hx hb (h b0 _ rfl) fun s' a' E' y' k1 k2 k3 k4 k5 => ?_)
  exact ⟨s', E', _, rfl, k1, k2, k3, ⟨hM.1, k4.any⟩, k5⟩
/-- A region in any order, with a map's operations. -/
theorem regionGa (hm : P.follows .mixedOrders = true) {id : Nat} {ops : Array Oper} {Q : Exit → SL → Store → MS → Prop} {s : SL} {st : Store} {F : Value → Int} {A : Ar} (hA : A = A0)
    (h : ∀ b0 C, C = G0 P mt kt g x0 b0 → anyGC T A C N ops (fun s' st' y' => Q .normal s' st' (some (g, y'.1))) ops.size (Array.replicate ops.size false) s st (F, false)) : wpG P N B kt (.region id ops true) Q s st (some (g, F)) := by
  subst hA
  intro E a hc hst hs hx hM
  subst hst
  obtain ⟨b0, hb⟩ := hM.2.at x0
  obtain ⟨c1, c2⟩ := newNone hc { E.w with drawn := E.w.drawn + 1 } (Nat.le_refl _) (fun _ _ => rfl) rfl rfl rfl
  refine wp_region_any hm ?_
  exact anyGC_ok hT hB hK hmt hz hM.1 (ops := ops) (x0 := x0) (b0 := b0) (N := N) (B := B) _ _ s ⟨{ E.w with drawn := E.w.drawn + 1 }, E.S, E.σ, E.st⟩ a (F, false) c1 (hs.ext hc c2) (Ext.trans hB hc.len hx c2) hb (h b0 _ rfl) fun s' a' E' y' k1 k2 k3 k4 k5 =>
    ⟨s', E', _, rfl, k1, k2, k3, ⟨hM.1, k4.any⟩, k5⟩
end
/-- The evaluation of statements with a map. -/
def wpGC (T : Unit → Tab) (A : Ar) (X : Cps) (H : Unit → Kn) (N : Nat) (Y : Code → (Exit → SL → Store → MS → Prop) → SL → Store → MS → Prop) : Code → (Exit → SL → Store → MS → Prop) → SL → Store → MS → Prop
  | .skip, Q, s, st, y => Q .normal s st y
  | .exit id, Q, s, st, y => Q (.exit id) s st y
  | .ret, Q, s, st, y => Q .ret s st y
  | .seq x z, Q, s, st, y => wpGC T A X H N Y x (thenG (wpGC T A X H N Y z Q) Q) s st y
  | .block id c, Q, s, st, y => wpGC T A X H N Y c (blockG id Q) s st y
  | .cond c x z, Q, s, st, y => (match evL s c with
    | .d (.sc (.bool t)) => brC t (fun _ => wpGC T A X H N Y x Q s st y) fun _ => wpGC T A X H N Y z Q s st y
    | _ => False)
  | .region id ops m, Q, s, st, y => (match (T ()).pause id with
    | true => Y (.region id ops m) Q s st y
    | false => wpC T A X H N (.region id ops m) (fun e l st' => Q e l st' y) s st)
  | c, Q, s, st, y => Y c Q s st y
theorem wpGC_ok {P : Program} {T : Unit → Tab} (hT : TabOk P (T ())) {H : Unit → Kn} (hH : SoundK P (H ())) (hm : P.follows .mixedOrders = true) {N : Nat} {B : Env} (hB : B.σ.length = B.st.length) {kt : TypeId} : ∀ (c : Code) (Q : Exit → SL → Store → MS → Prop) (s : SL) (st : Store) (y : MS), wpGC T A0 (X0 P N) H N (wpG P N B kt) c Q s st y → wpG P N B kt c Q s st y := by
  have self : ∀ {Q : Exit → SL → Store → MS → Prop} {y : MS} {e : Exit} {s : SL} {st : Store}, Q e s st y → lessQ (fun e l st' => Q e l st' y) e (getS s) st := fun h => ⟨_, fun _ => .inl rfl, h⟩
  intro c
  induction c with
  | skip => exact fun _ _ _ _ h => wpG_frame hB (wpD_skip (self h))
  | exit id => exact fun _ _ _ _ h => wpG_frame hB (wpD_exit (self h))
  | ret => exact fun _ _ _ _ h => wpG_frame hB (wpD_ret (self h))
  | seq x z ihx ihz =>
    intro Q s st y h
    refine wpG_seq (wpG_mono (ihx _ _ _ _ h) ?_)
    intro e l st' y' hq
    cases e <;> first
      | exact ihz _ _ _ _ hq
      | exact hq
  | block id c ih => exact fun Q s st y h => wpG_block (ih _ _ _ _ h)
  | cond c x z ihx ihz =>
    intro Q s st y h
    unfold wpGC at h
    split at h
    · rename_i t ht
      refine wpG_cond t ht (fun e => ?_) fun e => ?_
      · subst e; exact ihx _ _ _ _ h
      · subst e; exact ihz _ _ _ _ h
    · exact h.elim
  | region id ops m =>
    intro Q s st y h
    unfold wpGC at h
    split at h
    · exact h
    · exact wpG_frame hB (wpC_ok hT hH hm _ _ _ _ h)
  | _ => exact fun _ _ _ _ h => h
/-- A function, by the evaluation with a map. -/
theorem FnD_G {P : Program} {T : Unit → Tab} (hT : TabOk P (T ())) {H : Unit → Kn} (hH : SoundK P (H ())) (hm : P.follows .mixedOrders = true) (kt : TypeId) {f : FuncId} {fn : Func} {c : Code} {N : Nat} {args : List DV} {st : Store} {R : DV → Store → Prop}
    (hf : P.funcs[f]? = some fn) (hb : fn.body = some c) (hN : fn.ntmps = N) (ha : args.length ≤ N)
    (h : ∀ (A : Ar) (X : Cps) (W : DV → Store → Prop) (B : Env) (Y : Code → (Exit → SL → Store → MS → Prop) → SL → Store → MS → Prop), A = A0 → X = X0 P N → W = RetW st.length R → B.σ.length = B.st.length → B.st = st → Y = wpG P N B kt →
      wpGC T A X H N Y c (fun e s st _ => retC T A fn.results.toList W e s st) (initL 0 args) st none) : FnD P f args st R := by
  refine FnD_intro hf hb hN ha ?_
  intro E a hc hst hs
  have h1 := wpGC_ok hT hH hm hc.len _ _ _ _ _ (h A0 (X0 P N) _ E _ rfl rfl rfl hc.len hst rfl)
  refine wp_mono (h1 E a hc hst (hs.less (initL_initS args)) (Ext.refl E) trivial) ?_
  rintro e a' w' ⟨l, E', y', rfl, hq, k1, k2, k3, k4⟩
  refine ⟨getS l, E', rfl, ?_, k1, k2, k4⟩
  cases e <;> first
    | exact resC_D hT _ _ hq
    | exact hq.elim
section
variable {P : Program} {T : Unit → Tab} (hT : TabOk P (T ())) {H : Unit → Kn} (hH : SoundK P (H ())) (hm : P.follows .mixedOrders = true) {N : Nat} {B : Env} (hB : B.σ.length = B.st.length) {kt : TypeId}
include hT hH hm hB
/-- A loop, with a map. -/
theorem loopG {c : Code} {Q : Exit → SL → Store → MS → Prop} {s : SL} {st : Store} {y : MS} {A : Ar} {X : Cps} {Y : Code → (Exit → SL → Store → MS → Prop) → SL → Store → MS → Prop} (hA : A = A0) (hX : X = X0 P N) (hY : Y = wpG P N B kt)
    {ι : Type} (Inv : ι → Prop) (S : ι → SL) (ST : ι → Store) (F : ι → MS) (μ : ι → Nat) (x0 : ι) (h0 : Inv x0) (ht : Told B.st.length s st (S x0) (ST x0)) (hF : F x0 = y)
    (round : ∀ (R : SL → Store → MS → Prop) (x : ι), (R = fun s' st' y' => ∃ z, Inv z ∧ μ z < μ x ∧ F z = y' ∧ Told B.st.length s' st' (S z) (ST z)) → Inv x → wpGC T A X H N Y c (thenG R Q) (S x) (ST x) (F x)) : Y (.loop c) Q s st y := by
  subst hA; subst hX; subst hY; subst hF
  refine wpG_told hB ht ?_
  refine wpG_loop (fun n s1 st1 y1 => ∃ x, Inv x ∧ μ x = n ∧ s1 = S x ∧ st1 = ST x ∧ y1 = F x) (μ x0) ⟨x0, h0, rfl, rfl, rfl, rfl⟩ ?_ hB
  rintro n s1 st1 y1 ⟨x, hx, rfl, rfl, rfl, rfl⟩
  have h := wpGC_ok hT hH hm hB c _ _ _ _ (round _ x rfl hx)
  refine wpG_mono h ?_
  intro e l st' y' hq
  cases e <;> try exact hq
  obtain ⟨z, hz, hμ, rfl, htold⟩ := hq
  exact ⟨μ z, _, _, hμ, htold, z, hz, rfl, rfl, rfl, rfl⟩
end
end Go.Proofs.Ytmjmbfcfnhnpmaa
