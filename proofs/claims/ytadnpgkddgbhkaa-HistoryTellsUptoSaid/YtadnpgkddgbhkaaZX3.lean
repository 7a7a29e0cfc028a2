/- The program logic, third part: what the operations do that make no memory. No condition: lemmas of any program. -/
import Derived.Test.YtadnpgkddgbhkaaZX2
import Derived.Lib.SliceRun
namespace Go.Proofs.Ytadnpgkddgbhkaa
open Go.RowKit
set_option linter.all false
def tyD (P : Program) (t : TypeId) : Option (Nat × Bool) :=
 match P.info? t, P.underlying t with
 | some i, some (.struct _) => some (i.size, true)
 | some i, some (.array _ _) => some (i.size, true)
 | some i, some _ => some (i.size, false)
 | _, _ => none
theorem tyD_run {P : Program} {t : TypeId} {sz : Nat} {ag : Bool} (h : tyD P t = some (sz, ag)) (w : World) : (sizeOf t).run P w = .ok sz w ∧ (isAgg t).run P w = .ok ag w := by
 unfold tyD at h
 cases hi : P.info? t with
 | none => simp [hi] at h
 | some i =>
   cases hu : P.underlying t with
   | none => simp [hi, hu] at h
   | some u =>
     cases u <;> simp [hi, hu] at h <;> obtain ⟨rfl, rfl⟩ := h <;> simp [sizeOf, typeInfo, hi, isAgg, run_underlying hu]
def zeroD (P : Program) (t : TypeId) : Option (List DV) :=
 match P.info? t with
 | some i => match i.zero with
   | some z => if z.cells.size = i.size ∧ z.cells.toList.all (·.oneCell') = true ∧ i.size ≤ 1000000 then some (z.cells.toList.map fun v => .d (.sc v)) else none
   | none => none
 | none => none
def fieldD (P : Program) (t : TypeId) (f : Nat) : Option Nat :=
 match P.underlying t with
 | some (.struct fs) => match fs[f]? with
   | some fl => match P.info? fl.type with
     | some i => if i.size = 0 then none else some fl.offset
     | none => none
   | none => none
 | _ => none
def arrD (P : Program) (t : TypeId) : Option (Nat × TypeId × Nat) :=
 match P.underlying t with
 | some (.array n e) => match P.info? e with
   | some i => some (n, e, i.size)
   | none => none
 | _ => none
def slD (P : Program) (t : TypeId) : Option (TypeId × Nat) :=
 match P.underlying t with
 | some (.slice e) => match P.info? e with
   | some i => some (e, i.size)
   | none => none
 | _ => none
theorem oneL {vs : List Value} (h : ∀ u ∈ vs, u.oneCell' = true) {j : Nat} {u : Value} (hj : vs[j]? = some u) : u.oneCell' = true := h u (List.mem_of_getElem? hj)
theorem Reps.take {E : Env} : ∀ (k : Nat) (ds : List DV) (vs : List Value), Reps E ds vs → Reps E (ds.take k) (vs.take k)
 | 0, _, _, _ => by simp [Reps]
 | _ + 1, [], [], _ => by simp [Reps]
 | k + 1, _ :: ds, _ :: vs, ⟨h1, h2⟩ => ⟨h1, Reps.take k ds vs h2⟩
 | _ + 1, [], _ :: _, h => h.elim
 | _ + 1, _ :: _, [], h => h.elim
theorem Reps.drop {E : Env} : ∀ (k : Nat) (ds : List DV) (vs : List Value), Reps E ds vs → Reps E (ds.drop k) (vs.drop k)
 | 0, _, _, h => h
 | _ + 1, [], [], _ => by simp [Reps]
 | k + 1, _ :: ds, _ :: vs, ⟨_, h2⟩ => Reps.drop k ds vs h2
 | _ + 1, [], _ :: _, h => h.elim
 | _ + 1, _ :: _, [], h => h.elim
theorem Conc.cells {E : Env} (hc : Conc E) {b g z : Nat} {bx : Box} (hb : E.st[b]? = some bx) (hg : E.σ[b]? = some (g, z)) (hl : bx.live = true) {o k : Nat} (hk : o + k ≤ bx.cells.length) :
  ∃ vs : List Value, vs.length = k ∧ Reps E ((bx.cells.drop o).take k) vs ∧ (∀ u ∈ vs, u.oneCell' = true) ∧ ∀ (j : Nat) (v : Value), vs[j]? = some v → E.w.cell? ((⟨g, o, none⟩ : Addr).add j) = some v := by
 obtain ⟨cur, a1, a2, a3, a4, a5, a6, a7, a8⟩ := hc.box b bx g z hb hg hl
 refine ⟨(cur.toList.drop o).take k, by simp; omega, ?_, fun u hu => ?_, fun j v hj => ?_⟩
 ·refine Reps.of_get _ _ (by simp; omega) fun j d v h1 h2 => ?_
  have hjk : j < k := by
   have := (List.getElem?_eq_some_iff.1 h1).1
   simp at this; omega
  rw [List.getElem?_take, if_pos hjk, List.getElem?_drop] at h1 h2
  obtain ⟨u, b1, _, b3⟩ := a7 _ d h1
  simp only [Array.getElem?_toList] at h2
  rw [b1] at h2
  cases h2
  exact b3
 ·obtain ⟨j, hj⟩ := List.getElem?_of_mem hu
  have hjk : j < k := by
   have := (List.getElem?_eq_some_iff.1 hj).1
   simp at this; omega
  rw [List.getElem?_take, if_pos hjk, List.getElem?_drop, Array.getElem?_toList] at hj
  obtain ⟨u', b1, b2, _⟩ := a7 (o + j) _ (List.getElem?_eq_getElem (by omega))
  rw [b1] at hj
  cases hj
  exact b2
 ·have hjk : j < k := by
   have := (List.getElem?_eq_some_iff.1 hj).1
   simp at this; omega
  rw [List.getElem?_take, if_pos hjk, List.getElem?_drop, Array.getElem?_toList] at hj
  have hadd : (⟨g, o, none⟩ : Addr).add j = ⟨g, o + j, none⟩ := by unfold Addr.add; split <;> simp_all
  rw [hadd]
  simp [World.cell?, a1, hj]
theorem CellsP.vals {w : World} {S : Nat → Prop} : ∀ (ps : List PD) (a : Addr), CellsP w S ps a → ∃ vs : List Value, vs.length = ps.length ∧ (∀ u ∈ vs, u.oneCell' = true) ∧ (∀ (j : Nat) (v : Value), vs[j]? = some v → w.cell? (a.add j) = some v) ∧
  ∀ (j : Nat) (p : PD) (v : Value), ps[j]? = some p → vs[j]? = some v → RepP w S p v
 | [], _, _ => ⟨[], rfl, by simp, by simp, by simp⟩
 | p :: ps, a, ⟨⟨u, h1, h2, h3⟩, h⟩ => by
     obtain ⟨vs, i1, i2, i3, i4⟩ := CellsP.vals ps (a.add 1) h
     refine ⟨u :: vs, by simp [i1], by simpa [h2] using i2, fun j v hj => ?_, fun j p' v hp hv => ?_⟩
     ·cases j with
      | zero => simp at hj; subst hj; simpa [Addr.add] using h1
      | succ j => have := i3 j v (by simpa using hj); rwa [add_add', Nat.add_comm 1 j] at this
     ·cases j with
      | zero => simp at hp hv; subst hp; subst hv; exact h3
      | succ j => exact i4 j p' v (by simpa using hp) (by simpa using hv)
theorem Reps.of_cells {E : Env} {ps : List PD} {vs : List Value} (hl : vs.length = ps.length) (h : ∀ (j : Nat) (p : PD) (v : Value), ps[j]? = some p → vs[j]? = some v → RepP E.w E.S p v) : Reps E (ps.map .d) vs :=
 Reps.of_get _ _ (by simp [hl]) fun j d v h1 h2 => by
  rw [List.getElem?_map] at h1
  cases hp : ps[j]? with
  | none => simp [hp] at h1
  | some p => simp [hp] at h1; subst h1; exact h j p v hp h2
def loadD (P : Program) (st : Store) (t : TypeId) (a : DV) (K : DV → Prop) : Prop :=
 match tyD P t, a with
 | some (sz, true), .ref b ver o => match st[b]? with
   | some bx => bx.live = true ∧ ver = bx.ver ∧ o + sz ≤ bx.cells.length ∧ K (.agg ((bx.cells.drop o).take sz))
   | none => False
 | some (_, false), .ref b ver o => match st[b]? with
   | some bx => bx.live = true ∧ ver = bx.ver ∧ match bx.cells[o]? with
     | some d => K d
     | none => False
   | none => False
 | some (sz, true), .cref cs => sz ≤ cs.length ∧ K (.agg ((cs.take sz).map .d))
 | some (_, false), .cref cs => match cs[0]? with
   | some p => K (.d p)
   | none => False
 | _, _ => False
theorem load_ok {P : Program} {E : Env} (hc : Conc E) {t : TypeId} {x : DV} {v : Value} (hr : Rep E x v) {K : DV → Prop} (h : loadD P E.st t x K) :
  ∃ u d, (Instr.loadAt t v).run P E.w = .ok u E.w ∧ K d ∧ Rep E d u := by
 unfold loadD at h
 cases ht : tyD P t with
 | none => simp [ht] at h
 | some q =>
   obtain ⟨sz, ag⟩ := q
   obtain ⟨r1, r2⟩ := tyD_run ht E.w
   cases x with
   | ref b ver o =>
     obtain ⟨bx, gz, hb, hg, hone, hle, hv⟩ := hr
     cases ag with
     | true =>
       simp only [ht, hb] at h
       obtain ⟨hl, rfl, hlen, hK⟩ := h
       rw [hv rfl]
       obtain ⟨vs, c1, c2, c3, c4⟩ := hc.cells hb hg hl hlen
       have hld := run_loadCells_list (P := P) E.w ⟨gz.1, o, none⟩ vs c4
       rw [c1] at hld
       exact ⟨.agg vs.toArray, _, by simp [Instr.loadAt, Instr.sureAddr, loadVar, r1, r2, hld], hK, vs, rfl, c3, c2⟩
     | false =>
       simp only [ht, hb] at h
       obtain ⟨hl, rfl, h⟩ := h
       cases hd : bx.cells[o]? with
       | none => simp [hd] at h
       | some d =>
         simp only [hd] at h
         rw [hv rfl]
         have ho := (List.getElem?_eq_some_iff.1 hd).1
         obtain ⟨vs, c1, c2, c3, c4⟩ := hc.cells (o := o) (k := 1) hb hg hl (by omega)
         match vs, c1 with
         | [u], _ =>
           have hcell := c4 0 u rfl
           have hdd : ((bx.cells.drop o).take 1)[0]? = some d := by simp [hd]
           obtain ⟨u', e1, e2⟩ := Reps.get _ _ c2 0 d hdd
           simp at e1
           subst e1
           refine ⟨u, d, ?_, h, e2⟩
           simp only [Addr.add, ↓reduceIte] at hcell
           simp [Instr.loadAt, Instr.sureAddr, loadVar, r2, hcell]
   | cref cs =>
     obtain ⟨a, rfl, _, hcs⟩ := hr
     cases ag with
     | true =>
       simp only [ht] at h
       obtain ⟨hlen, hK⟩ := h
       obtain ⟨vs, c1, c2, c3, c4⟩ := hcs.vals
       have hld := run_loadCells_list (P := P) E.w a (vs.take sz) (fun j v hj => c3 j v (by rw [List.getElem?_take] at hj; split at hj; exact hj; cases hj))
       rw [List.length_take, c1, Nat.min_eq_left hlen] at hld
       refine ⟨.agg (vs.take sz).toArray, _, by simp [Instr.loadAt, Instr.sureAddr, loadVar, r1, r2, hld], hK, vs.take sz, rfl, fun u hu => c2 u (List.mem_of_mem_take hu), ?_⟩
       have hR := Reps.of_cells (E := E) c1 c4
       have := Reps.take sz _ _ hR
       rwa [← List.map_take] at this
     | false =>
       simp only [ht] at h
       cases hp : cs[0]? with
       | none => simp [hp] at h
       | some p =>
         simp only [hp] at h
         obtain ⟨u, c1, c2, c3⟩ := hcs.get _ _ 0 p hp
         simp only [Addr.add, ↓reduceIte] at c1
         exact ⟨u, .d p, by simp [Instr.loadAt, Instr.sureAddr, loadVar, r2, c1], h, c3⟩
   | any => cases ag <;> simp [ht] at h
   | d p => cases ag <;> simp [ht] at h
   | agg cs => cases ag <;> simp [ht] at h
   | tup cs => cases ag <;> simp [ht] at h
   | view _ _ _ _ _ => cases ag <;> simp [ht] at h
   | fn _ _ => cases ag <;> simp [ht] at h
def fieldAddrD (P : Program) (st : Store) (t : TypeId) (a : DV) (f : Nat) (K : DV → Prop) : Prop :=
 match fieldD P t f, a with
 | some off, .ref b ver o => match st[b]? with
   | some bx => ver = bx.ver ∧ K (.ref b ver (o + off))
   | none => False
 | some off, .cref cs => K (.cref (cs.drop off))
 | _, _ => False
theorem fieldD_run {P : Program} {t : TypeId} {f off : Nat} (h : fieldD P t f = some off) (w : World) (a : Addr) : (Instr.fieldAt t (.pointer (some a)) f).run P w = .ok (.pointer (some (a.add off))) w := by
 unfold fieldD at h
 cases hu : P.underlying t with
 | none => simp [hu] at h
 | some u =>
   cases u <;> try (simp [hu] at h; done)
   rename_i fs
   simp only [hu] at h
   cases hfl : fs[f]? with
   | none => simp [hfl] at h
   | some fl =>
     simp only [hfl] at h
     cases hi : P.info? fl.type with
     | none => simp [hi] at h
     | some i =>
       simp only [hi] at h
       split at h
       ·cases h
       ·rename_i hsz
        cases h
        simp only [Instr.fieldAt, Sem.run_bind, run_underlying hu, Result.andThen_ok, hfl, Instr.sureAddr, fieldPlace, sizeOf, typeInfo, run_program, hi, Sem.run_pure, hsz, ↓reduceIte]
theorem fieldAddr_ok {P : Program} {E : Env} {t : TypeId} {x : DV} {v : Value} (hr : Rep E x v) {f : Nat} {K : DV → Prop} (h : fieldAddrD P E.st t x f K) :
  ∃ u d, (Instr.fieldAt t v f).run P E.w = .ok u E.w ∧ K d ∧ Rep E d u := by
 unfold fieldAddrD at h
 cases hf : fieldD P t f with
 | none => simp [hf] at h
 | some off =>
   cases x <;> try (simp [hf] at h; done)
   case ref b ver o =>
    obtain ⟨bx, gz, hb, hg, hone, hle, hv⟩ := hr
    simp only [hf, hb] at h
    obtain ⟨rfl, h⟩ := h
    rw [hv rfl]
    refine ⟨_, _, fieldD_run hf _ _, h, bx, gz, hb, hg, rfl, hle, fun _ => ?_⟩
    unfold Addr.add; split <;> simp_all
   case cref cs =>
    simp only [hf] at h
    obtain ⟨a, rfl, hS, hcs⟩ := hr
    exact ⟨_, _, fieldD_run hf _ _, h, _, rfl, fun hx => by rw [block_add]; exact hS (fun e => hx (by simp [e])), hcs.drop _ _ _⟩
def intOfD : DV → Option Int
 | .d (.sc (.int _ i)) => some i
 | _ => none
theorem intOfD_spec {x : DV} {i : Int} (h : intOfD x = some i) : ∃ k, x = .d (.sc (.int k i)) := by
 unfold intOfD at h
 split at h
 ·cases h; exact ⟨_, rfl⟩
 ·cases h
def indexAddrD (P : Program) (st : Store) (t : TypeId) (a ix : DV) (K : DV → Prop) : Prop :=
 match intOfD ix with
 | none => False
 | some i => match arrD P t, slD P t, a with
   | some (n, _, sz), _, .ref b ver o => match st[b]? with
     | some bx => ver = bx.ver ∧ (0 ≤ i ∧ i < n) ∧ K (.ref b ver (o + i.toNat * sz))
     | none => False
   | some (n, _, sz), _, .cref cs => (0 ≤ i ∧ i < n) ∧ K (.cref (cs.drop (i.toNat * sz)))
   | none, some (_, sz), .view sz' b ver o n => match st[b]? with
     | some bx => ver = bx.ver ∧ sz = sz' ∧ (0 ≤ i ∧ i < n) ∧ K (.ref b ver (o + i.toNat * sz))
     | none => False
   | none, some (_, sz), .d (.slc sz' xs) => sz = sz' ∧ (0 ≤ i ∧ i < xs.length) ∧ match xs[i.toNat]? with
     | some x => K (.cref x)
     | none => False
   | _, _, _ => False
theorem arrD_spec {P : Program} {t : TypeId} {n e sz : Nat} (h : arrD P t = some (n, e, sz)) : P.underlying t = some (.array n e) ∧ ∀ w, (sizeOf e).run P w = .ok sz w := by
 unfold arrD at h
 cases hu : P.underlying t with
 | none => simp [hu] at h
 | some u =>
   cases u <;> try (simp [hu] at h; done)
   rename_i n' e'
   simp only [hu] at h
   cases hi : P.info? e' with
   | none => simp [hi] at h
   | some i =>
     simp only [hi, Option.some.injEq, Prod.mk.injEq] at h
     obtain ⟨rfl, rfl, rfl⟩ := h
     exact ⟨rfl, fun w => by simp [sizeOf, typeInfo, hi]⟩
theorem slD_spec {P : Program} {t : TypeId} {e sz : Nat} (h : slD P t = some (e, sz)) : P.underlying t = some (.slice e) ∧ (∃ i, P.info? e = some i ∧ i.size = sz) ∧ ∀ w, (sizeOf e).run P w = .ok sz w := by
 unfold slD at h
 cases hu : P.underlying t with
 | none => simp [hu] at h
 | some u =>
   cases u <;> try (simp [hu] at h; done)
   rename_i e'
   simp only [hu] at h
   cases hi : P.info? e' with
   | none => simp [hi] at h
   | some i =>
     simp only [hi, Option.some.injEq, Prod.mk.injEq] at h
     obtain ⟨rfl, rfl⟩ := h
     exact ⟨rfl, ⟨i, hi, rfl⟩, fun w => by simp [sizeOf, typeInfo, hi]⟩
theorem indexAt_arr {P : Program} {t : TypeId} {n e sz : Nat} (h : arrD P t = some (n, e, sz)) (w : World) (a : Addr) (k : IntKind) (i : Int) (h0 : 0 ≤ i) (h1 : i < n) :
  (Instr.indexAt t (.pointer (some a)) (.int k i)).run P w = .ok (.pointer (some (a.add (i.toNat * sz)))) w := by
 obtain ⟨hu, hs⟩ := arrD_spec h
 simp [Instr.indexAt, asIntOf, run_underlying hu, Instr.sureAddr, h0, h1, hs]
theorem indexAt_sl {P : Program} {t : TypeId} {e sz : Nat} (h : slD P t = some (e, sz)) (w : World) (a : Addr) (n c : Nat) (k : IntKind) (i : Int) (h0 : 0 ≤ i) (h1 : i < n) :
  (Instr.indexAt t (.slice (some a) n c) (.int k i)).run P w = .ok (.pointer (some (a.add (i.toNat * sz)))) w := by
 obtain ⟨hu, _, hs⟩ := slD_spec h
 simp [Instr.indexAt, asIntOf, run_underlying hu, h0, h1, hs]
theorem indexAddr_ok {P : Program} {E : Env} {t : TypeId} {x y : DV} {v vi : Value} (hr : Rep E x v) (hi : Rep E y vi) {K : DV → Prop} (h : indexAddrD P E.st t x y K) :
  ∃ u d, (Instr.indexAt t v vi).run P E.w = .ok u E.w ∧ K d ∧ Rep E d u := by
 unfold indexAddrD at h
 cases hix : intOfD y with
 | none => simp [hix] at h
 | some i =>
   obtain ⟨k, rfl⟩ := intOfD_spec hix
   simp only [Rep, RepP] at hi
   subst hi
   simp only [hix] at h
   cases ha : arrD P t with
   | some q =>
     obtain ⟨n, e, sz⟩ := q
     cases x <;> try (simp [ha] at h; done)
     case ref b ver o =>
      obtain ⟨bx, gz, hb, hg, hone, hle, hv⟩ := hr
      simp only [ha, hb] at h
      obtain ⟨rfl, ⟨h0, h1⟩, h⟩ := h
      rw [hv rfl]
      refine ⟨_, _, indexAt_arr ha _ _ k i h0 h1, h, bx, gz, hb, hg, rfl, hle, fun _ => ?_⟩
      unfold Addr.add; split <;> simp_all
     case cref cs =>
      simp only [ha] at h
      obtain ⟨⟨h0, h1⟩, h⟩ := h
      obtain ⟨a, rfl, hS, hcs⟩ := hr
      exact ⟨_, _, indexAt_arr ha _ _ k i h0 h1, h, _, rfl, fun hx => by rw [block_add]; exact hS (fun e => hx (by simp [e])), hcs.drop _ _ _⟩
   | none =>
     cases hs : slD P t with
     | none => cases x <;> simp [ha, hs] at h
     | some q =>
       obtain ⟨e, sz⟩ := q
       cases x <;> try (simp [ha, hs] at h; done)
       case view sz' b ver o n =>
        obtain ⟨bx, gz, hb, hg, hone, hle, hv⟩ := hr
        simp only [ha, hs, hb] at h
        obtain ⟨rfl, rfl, ⟨h0, h1⟩, h⟩ := h
        obtain ⟨c, rfl, hc1, hc2, hc3⟩ := hv rfl
        refine ⟨_, _, indexAt_sl hs _ _ _ _ k i h0 h1, h, bx, gz, hb, hg, rfl, hle, fun _ => ?_⟩
        unfold Addr.add; split <;> simp_all
       case d p =>
        cases p with
        | sc v => simp [ha, hs] at h
        | slc sz' xs =>
          simp only [ha, hs] at h
          obtain ⟨rfl, ⟨h0, h1⟩, h⟩ := h
          rcases hr with ⟨rfl, _⟩ | ⟨a, c, rfl, hc1, hc2, hS, hR⟩
          ·simp at h
          cases hx : xs[i.toNat]? with
          | none => simp [hx] at h
          | some x =>
            simp only [hx] at h
            obtain ⟨_, hcs⟩ := hR.get _ _ _ _ hx
            exact ⟨_, _, indexAt_sl hs _ _ _ _ k i h0 h1, h, _, rfl, fun _ => by rw [block_add]; exact hS (fun e => by simp [e] at hx), hcs⟩
def partD (P : Program) (t : TypeId) (cs : List DV) (off : Nat) (K : DV → Prop) : Prop :=
 match tyD P t with
 | some (sz, true) => off + sz ≤ cs.length ∧ K (.agg ((cs.drop off).take sz))
 | some (_, false) => match cs[off]? with
   | some d => K d
   | none => False
 | none => False
theorem part_ok {P : Program} {E : Env} {t : TypeId} {cs : List DV} {vs : List Value} (hr : Reps E cs vs) (hone : ∀ u ∈ vs, u.oneCell' = true) {off : Nat} {K : DV → Prop} (h : partD P t cs off K) :
  ∃ u d, (part t vs.toArray off).run P E.w = .ok u E.w ∧ K d ∧ Rep E d u := by
 unfold partD at h
 cases ht : tyD P t with
 | none => simp [ht] at h
 | some q =>
   obtain ⟨sz, ag⟩ := q
   obtain ⟨r1, r2⟩ := tyD_run ht E.w
   cases ag with
   | true =>
     simp only [ht] at h
     refine ⟨.agg ((vs.drop off).take sz).toArray, _, ?_, h.2, (vs.drop off).take sz, rfl, fun u hu => hone u (List.mem_of_mem_drop (List.mem_of_mem_take hu)), (hr.drop _ _ _).take _ _ _⟩
     simp only [part, Sem.run_bind, r1, r2, Result.andThen_ok, Sem.run_pure, ↓reduceIte, List.extract_toArray, List.extract_eq_take_drop, Nat.add_sub_cancel_left]
   | false =>
     simp only [ht] at h
     cases hd : cs[off]? with
     | none => simp [hd] at h
     | some d =>
       simp only [hd] at h
       obtain ⟨u, h1, h2⟩ := hr.get _ _ _ _ hd
       exact ⟨u, d, by simp [part, r2, h1], h, h2⟩
def indexD (P : Program) (t : TypeId) (x ix : DV) (K : DV → Prop) : Prop :=
 match intOfD ix with
 | none => False
 | some i => match x with
   | .agg cs => match arrD P t with
     | some (n, e, sz) => (0 ≤ i ∧ i < n) ∧ partD P e cs (i.toNat * sz) K
     | none => False
   | .d (.sc (.string s)) => P.underlying t = some .string ∧ 0 ≤ i ∧ match s[i.toNat]? with
     | some b => K (.d (.sc (.int .u8 b.toNat)))
     | none => False
   | _ => False
theorem index_ok {P : Program} {E : Env} {t : TypeId} {x y : DV} {v vi : Value} (hr : Rep E x v) (hi : Rep E y vi) {K : DV → Prop} (h : indexD P t x y K) :
  ∃ u d, (Instr.index t v vi).run P E.w = .ok u E.w ∧ K d ∧ Rep E d u := by
 unfold indexD at h
 cases hix : intOfD y with
 | none => simp [hix] at h
 | some i =>
   obtain ⟨k, rfl⟩ := intOfD_spec hix
   simp only [Rep, RepP] at hi
   subst hi
   simp only [hix] at h
   cases x <;> try (simp at h; done)
   case agg cs =>
    cases ha : arrD P t with
    | none => simp [ha] at h
    | some q =>
      obtain ⟨n, e, sz⟩ := q
      simp only [ha] at h
      obtain ⟨⟨h0, h1⟩, h⟩ := h
      obtain ⟨vs, rfl, hone, hR⟩ := hr
      obtain ⟨u, d, r, hK, hd⟩ := part_ok hR hone h
      obtain ⟨hu, hs⟩ := arrD_spec ha
      exact ⟨u, d, by simp [Instr.index, asIntOf, run_underlying hu, h0, h1, hs, r], hK, hd⟩
   case d p =>
    cases p with
    | slc _ _ => simp at h
    | sc s =>
      cases s <;> try (simp at h; done)
      rename_i s
      simp only at h
      obtain ⟨hu, h0, h⟩ := h
      simp only [Rep, RepP] at hr
      subst hr
      cases hb : s[i.toNat]? with
      | none => simp [hb] at h
      | some b =>
        simp only [hb] at h
        exact ⟨.int .u8 b.toNat, _, by simp [Instr.index, asIntOf, run_underlying hu, h0, hb], h, rfl⟩
end Go.Proofs.Ytadnpgkddgbhkaa
