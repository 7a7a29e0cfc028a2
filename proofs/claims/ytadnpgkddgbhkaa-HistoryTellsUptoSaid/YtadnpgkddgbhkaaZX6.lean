/- The program logic, tenth part: one operation, a row of them, a region. No condition: lemmas of any program. -/
import Derived.Test.YtadnpgkddgbhkaaZX4
import Derived.Still
import Derived.Lib.Overlaps
import Derived.Lib.AppendZeros
namespace Go.Proofs.Ytadnpgkddgbhkaa
open Go.RowKit
set_option linter.all false
def hasBody (P : Program) (f : FuncId) : Bool := match P.funcs[f]? with
 | some fn => fn.name != "runtime.NumGoroutine" && fn.body.isSome
 | none => false
theorem callFunc_run {P : Program} {f : FuncId} (h : hasBody P f = true) (args : Array Value) (w : World) : (callFunc f args).run P w = .ok (.enter f args) w := by
 unfold hasBody at h
 split at h
 ·rename_i fn hf
  simp only [Bool.and_eq_true, bne_iff_ne, ne_eq] at h
  cases hq : fn.body with
  | none => simp [hq] at h
  | some c => simp [callFunc, hf, h.1, hq]
 ·cases h
def copyD (P : Program) (st : Store) (t u : TypeId) (dst src : DV) (K : DV → Store → Prop) : Prop :=
 match slD P t, dst with
 | some (_, sz), .view sz' b ver o n => match st[b]?, srcD P st sz u src with
   | some bx, some (ds, m) => sz' = sz ∧ ver = bx.ver ∧ bx.live = true ∧ (slD P u).isSome = true ∧ ((m ≤ n ∧ o + ds.length ≤ bx.cells.length ∧ K (.d (.sc (.int .i64 m))) (st.set b { bx with cells := splice bx.cells o ds })) ∨
     (o + min m n * sz ≤ bx.cells.length ∧ K (.d (.sc (.int .i64 (min m n : Nat)))) (st.set b { bx with cells := splice bx.cells o (ds.take (min m n * sz)) })))
   | _, _ => False
 | _, _ => False
theorem copy_ok {P : Program} {E : Env} (hc : Conc E) {t u ty : TypeId} {s x : DV} {v vx : Value} (hs : Rep E s v) (hx : Rep E x vx) {K : DV → Store → Prop} (h : copyD P E.st t u s x K) :
  Ends P E (Builtin.copy_ #[t, u] ty #[v, vx]) K := by
 unfold copyD at h
 split at h
 ·rename_i e sz sz' b ver o n hsl
  split at h
  ·rename_i bx ds m hb' hsrc
   obtain ⟨rfl, rfl, hl, hsu, h⟩ := h
   obtain ⟨hu, ⟨i, hi, hisz⟩, hsz⟩ := slD_spec hsl
   obtain ⟨bx', gz, hb, hg, hone, hle, hv⟩ := hs
   rw [hb] at hb'
   cases hb'
   obtain ⟨c, rfl, hnc, hcm, hcz⟩ := hv rfl
   obtain ⟨vs, g1, g2, g3⟩ := srcD_spec hc hx hsrc
   have hone' := g1.2.1
   have hvl := g1.1
   have hdl := g2.length
   have h : o + min m n * sz' ≤ bx.cells.length ∧ K (.d (.sc (.int .i64 (min m n : Nat)))) (E.st.set b { bx with cells := splice bx.cells o (ds.take (min m n * sz')) }) := by
    rcases h with ⟨h1, h2, h3⟩ | h
    ·rw [Nat.min_eq_left h1, List.take_of_length_le (by omega)]
     exact ⟨by omega, h3⟩
    ·exact h
   obtain ⟨hfit, h⟩ := h
   have hmv : min m n * sz' ≤ m * sz' := Nat.mul_le_mul_right _ (Nat.min_le_left m n)
   obtain ⟨E', r1, r2, r3, r4, r5, r6⟩ := write_ok hc hb hg hl (Reps.take (min m n * sz') _ _ g2) (fun u hu => hone' u (List.mem_of_mem_take hu)) (o := o) (by rw [List.length_take]; omega) P
   refine ⟨.int .i64 (min m n : Nat), E', .d (.sc (.int .i64 (min m n : Nat))), ?_, by rw [r2]; exact h, r5, r6, rfl⟩
   rcases g1.2.2 with ⟨a, c', rfl, hcells⟩ | ⟨rfl, rfl⟩ | ⟨str, rfl, hm, h1, hstr⟩
   ·have hld := run_loadCells_list (P := P) E.w a (vs.take (min m n * sz')) (fun j u hj => by
     rw [List.getElem?_take] at hj
     split at hj
     ·exact hcells j u hj
     ·cases hj)
    rw [show (vs.take (min m n * sz')).length = min m n * sz' by rw [List.length_take]; omega] at hld
    have hmin : Nat.min m n = min m n := rfl
    simp [Builtin.copy_, run_underlying hu, Builtin.lenOf, Builtin.firstCells, sizeOf, typeInfo, hi, hisz, hmin, hld, r1]
    rfl
   ·have hv0 : vs = [] := List.eq_nil_of_length_eq_zero (by omega)
    subst hv0
    simp only [Nat.zero_min, Nat.zero_mul, List.take_zero] at r1 ⊢
    simp [Builtin.copy_, run_underlying hu, Builtin.lenOf, Builtin.firstCells, sizeOf, typeInfo, hi, hisz, r1]
    first | rfl | done
   ·rcases g3 with ⟨s', _, hs'⟩ | ⟨e', _, g4⟩
    ·obtain ⟨e2, he2⟩ := slD_some hsu
     rw [he2] at hs'
     cases hs'
    ·exact absurd rfl (g4 str)
  ·exact h.elim
 ·exact h.elim
def capD (P : Program) (st : Store) (t : TypeId) (x : DV) (K : DV → Prop) : Prop :=
 match x with
 | .d (.sc (.slice none 0 0)) => (slD P t).isSome = true ∧ K (.d (.sc (.int .i64 0)))
 | .view sz b ver o _ => match st[b]? with
   | some bx => ver = bx.ver ∧ bx.live = true ∧ bx.ext = false ∧ 0 < sz ∧ (slD P t).isSome = true ∧ K (.d (.sc (.int .i64 (((bx.cells.length - o) / sz : Nat)))))
   | none => False
 | _ => False
theorem cap_ok {P : Program} {E : Env} (hc : Conc E) {t ty : TypeId} {x : DV} {v : Value} (hx : Rep E x v) {K : DV → Prop} (h : capD P E.st t x K) : ∃ r d, (Builtin.cap_ #[t] ty #[v]).run P E.w = .ok r E.w ∧ K d ∧ Rep E d r := by
 unfold capD at h
 split at h
 ·obtain ⟨hs, h⟩ := h
  obtain ⟨e, hu⟩ := slD_some hs
  simp only [Rep, RepP] at hx; subst hx
  exact ⟨.int .i64 0, _, by simp [Builtin.cap_, run_underlying hu]; rfl, h, rfl⟩
 ·rename_i sz b ver o n
  split at h
  ·rename_i bx hb'
   obtain ⟨rfl, hl, hext, hz, hs, h⟩ := h
   obtain ⟨e, hu⟩ := slD_some hs
   obtain ⟨bx', gz, hb, hg, hone, hle, hv⟩ := hx
   rw [hb] at hb'
   cases hb'
   obtain ⟨c, rfl, hnc, hcm, hcz⟩ := hv rfl
   obtain ⟨cur, a1, a2, a3, a4, a5, a6, a7, a8⟩ := hc.box b bx gz.1 gz.2 hb hg hl
   have : (bx.cells.length - o) / sz = c := by
    rw [a4 hext, ← hcz, Nat.add_sub_cancel_left, Nat.mul_div_cancel _ hz]
   rw [this] at h
   exact ⟨.int .i64 c, _, by simp [Builtin.cap_, run_underlying hu]; rfl, h, rfl⟩
  ·exact h.elim
 ·exact h.elim
def slice3D (P : Program) (st : Store) (t : TypeId) (x : DV) (lo : Option DV) (hi mx : DV) (K : DV → Prop) : Prop :=
 match x with
 | .view _ b ver _ n => match slD P t, boundD 0 lo, intOfD hi, intOfD mx, st[b]? with
   | some _, some l, some h, some m, some bx => ver = bx.ver ∧ (0 ≤ l ∧ l ≤ h ∧ h ≤ m ∧ m ≤ n) ∧ K .any
   | _, _, _, _, _ => False
 | _ => False
theorem slice3_ok {P : Program} {E : Env} {t : TypeId} {x y z : DV} {v vh vm : Value} {lo : Option DV} {vl : Option Value} (hx : Rep E x v) (hl0 : match lo, vl with | none, none => True | some d, some u => Rep E d u | _, _ => False)
  (hy : Rep E y vh) (hz : Rep E z vm) {K : DV → Prop} (h : slice3D P E.st t x lo y z K) : ∃ r d, (Instr.sliceAt t v vl (some vh) (some vm)).run P E.w = .ok r E.w ∧ K d ∧ Rep E d r := by
 unfold slice3D at h
 split at h
 ·rename_i sz b ver o n
  split at h
  ·rename_i es l hh m bx hs e1 e2 e3 hb'
   obtain ⟨rfl, ⟨h0, h1, h2, h3⟩, h⟩ := h
   obtain ⟨bx', gz, hb, hg, hone, hle, hv⟩ := hx
   rw [hb] at hb'
   cases hb'
   obtain ⟨c, rfl, hnc, hcm, hcz⟩ := hv rfl
   obtain ⟨hu, _, hsz⟩ := slD_spec (e := es.1) (sz := es.2) hs
   obtain ⟨k1, rfl⟩ := intOfD_spec e2
   obtain ⟨k2, rfl⟩ := intOfD_spec e3
   simp only [Rep, RepP] at hy hz
   subst hy; subst hz
   have hm : 0 ≤ m := by omega
   have hmc : m ≤ c := by omega
   have hh0 : 0 ≤ hh := by omega
   have hmm : max m 0 = m := by omega
   have hmh : max hh 0 = hh := by omega
   rcases bound_run (dflt := 0) hl0 e1 with ⟨rfl, rfl, rfl⟩ | ⟨k', rfl⟩
   ·exact ⟨_, .any, by simp [Instr.sliceAt, Instr.slice, run_underlying hu, Instr.sliceBounds, Instr.sliceBound, asIntOf, hm, hmc, hh0, h2, hmm, hsz]; rfl, h, trivial⟩
   ·exact ⟨_, .any, by simp [Instr.sliceAt, Instr.slice, run_underlying hu, Instr.sliceBounds, Instr.sliceBound, asIntOf, hm, hmc, hh0, h2, h0, h1, hmm, hmh, hsz]; rfl, h, trivial⟩
  ·exact h.elim
 ·exact h.elim
def clearD (P : Program) (st : Store) (t : TypeId) (x : DV) (K : DV → Store → Prop) : Prop :=
 match slD P t with
 | some (e, sz) => match zeroD P e, x with
   | some z, .view sz' b ver o n => match st[b]? with
     | some bx => sz' = sz ∧ z.length = sz ∧ 0 < sz ∧ ver = bx.ver ∧ bx.live = true ∧ o + n * sz ≤ bx.cells.length ∧ K (.d (.sc (.tuple #[]))) (st.set b { bx with cells := splice bx.cells o (List.replicate n z).flatten })
     | none => False
   | some _, .d (.slc _ []) => K (.d (.sc (.tuple #[]))) st
   | _, _ => False
 | none => False
theorem splice_nil (cs : List DV) (o : Nat) : splice cs o [] = cs := by simp [splice]
theorem clear_ok {P : Program} {E : Env} (hc : Conc E) {t ty : TypeId} {x : DV} {v : Value} (hx : Rep E x v) {K : DV → Store → Prop} (h : clearD P E.st t x K) : Ends P E (Builtin.clear_ #[t] ty #[v]) K := by
 unfold clearD at h
 split at h
 ·rename_i e sz hsl
  obtain ⟨hu, ⟨i2, hi2, hisz⟩, hsz⟩ := slD_spec hsl
  split at h
  ·rename_i z sz' b ver o n hz
   obtain ⟨zv, i, e1, e2, e3, e4, e5, rfl⟩ := zeroD_spec hz
   split at h
   ·rename_i bx hb'
    obtain ⟨rfl, hzl, hpos, rfl, hl, hfit, h⟩ := h
    obtain ⟨bx', gz, hb, hg, hone, hle, hv⟩ := hx
    rw [hb] at hb'
    cases hb'
    obtain ⟨c, rfl, hnc, hcm, hcz⟩ := hv rfl
    simp only [List.length_map, Array.length_toList] at hzl
    cases n with
    | zero =>
      refine ⟨.tuple #[], E, .d (.sc (.tuple #[])), by simp [Builtin.clear_, run_underlying hu], ?_, hc, Ext.refl E, rfl⟩
      have e0 : (E.st.set b { bx with cells := splice bx.cells o (List.replicate 0 (zv.cells.toList.map fun v => DV.d (.sc v))).flatten }) = E.st := by
       simp only [List.replicate_zero, List.flatten_nil, splice_nil]
       apply List.ext_getElem?
       intro k
       by_cases hk : b = k
       ·subst hk; rw [List.getElem?_set_self (List.getElem?_eq_some_iff.1 hb).1, hb]
       ·simp [hk]
      rw [e0] at h
      exact h
    | succ n =>
      have hze := zeros_eq zv.cells (n + 1) (by omega)
      have hze' : (Builtin.zeroCells zv.cells (n + 1)).toList = (List.replicate (n + 1) zv.cells.toList).flatten := by rw [← hze]; rfl
      have hR := reps_flat (E := E) _ _ (zero_reps E zv.cells.toList) (n + 1)
      obtain ⟨E', r1, r2, r3, r4, r5, r6⟩ := write_ok hc hb hg hl hR (fun u hu => by
       simp only [List.mem_flatten, List.mem_replicate] at hu
       obtain ⟨l, ⟨_, rfl⟩, hm⟩ := hu
       exact e4 u hm) (o := o) (by rw [List.length_flatten]; simp [hzl] at hfit ⊢; exact hfit) P
      refine ⟨.tuple #[], E', .d (.sc (.tuple #[])), ?_, by rw [r2]; exact h, r5, r6, rfl⟩
      have hzv : (zeroValue e).run P E.w = .ok zv E.w := by simp [zeroValue, typeInfo, e1, e2]
      simp only [Builtin.clear_, List.getElem?_toArray, List.getElem?_cons_zero, Sem.run_bind, run_underlying hu, Result.andThen_ok, hzv, Sem.run_pure]
      rw [hze', r1]
      simp
   ·exact h.elim
  ·rename_i z sz' hz
   rcases hx with ⟨_, rfl⟩ | ⟨a, c, rfl, hc1, hc2, hS, hR⟩
   ·exact ⟨.tuple #[], E, .d (.sc (.tuple #[])), by simp [Builtin.clear_, run_underlying hu], h, hc, Ext.refl E, rfl⟩
   ·exact ⟨.tuple #[], E, .d (.sc (.tuple #[])), by simp [Builtin.clear_, run_underlying hu], h, hc, Ext.refl E, rfl⟩
  ·exact h.elim
 ·exact h.elim
def isIntD (P : Program) (t : TypeId) : Bool := match P.underlying t with
 | some (.int _) => true
 | _ => false
def zerosD (P : Program) (st : Store) (t u : TypeId) (s x : DV) (K : DV → Store → Prop) : Prop :=
 match slD P t, x with
 | some (e, sz), .d (.sc (.int _ m)) => match zeroD P e, P.info? e with
   | some z, some i => z.length = sz ∧ 0 < sz ∧ isIntD P u = true ∧ 0 ≤ m ∧ match s with
     | .d (.sc (.slice none 0 0)) => 0 < m ∧ (m.toNat ≤ 9007199254740992 ∧ m.toNat * i.bytes ≤ 140737488355328) ∧ K (.view sz st.length 0 0 m.toNat) (st ++ [⟨e, (List.replicate m.toNat z).flatten, true, 0, true⟩])
     | .view sz' b ver o n => match st[b]? with
       | some bx => (sz' = sz ∧ o = 0 ∧ ver = bx.ver ∧ bx.live = true ∧ bx.ty = e ∧ bx.ext = false ∧ n * sz ≤ bx.cells.length ∧ bx.cells.length < (n + m.toNat) * sz) ∧ (n + m.toNat ≤ 9007199254740992 ∧ (n + m.toNat) * i.bytes ≤ 140737488355328) ∧
          K (.view sz st.length 0 0 (n + m.toNat)) (st ++ [⟨e, bx.cells.take (n * sz) ++ (List.replicate m.toNat z).flatten, true, 0, true⟩])
       | none => False
     | _ => False
   | _, _ => False
 | _, _ => False
theorem run_append_grow_zeros {P : Program} (w : World) (t tn ty e : TypeId) (i : TypeInfo) (z : Value) (k kn : IntKind) (ht : P.underlying t = some (.slice e)) (htn : P.underlying tn = some (.int kn)) (hi : P.info? e = some i) (hz : i.zero = some z)
  (b : Addr) (sLen sCap : Nat) (olds : List Value) (hlo : olds.length = sLen * i.size) (holds : ∀ (j : Nat) (v : Value), olds[j]? = some v → w.cell? (b.add j) = some v)
  (n : Nat) (hs : 0 < i.size) (hle : sLen ≤ sCap) (hg : sCap < sLen + n) (h63 : ((sLen + n : Nat) : Int) ≤ 9223372036854775807) (hfit : Builtin.nextslicecap (sLen + n) sCap * i.bytes ≤ 281474976710656) (hb : n * i.bytes ≤ 281474976710656) :
  (Builtin.append_ #[t, tn] ty #[.slice (some b) sLen sCap, .int k n]).run P w =
    .ok (.slice (some ⟨w.heap.size, 0, none⟩) (sLen + n) (grownCap w (sLen + n) sCap e)) (w.drew.alloc (.cells (olds.toArray ++ Builtin.zeroCells z.cells n ++ Builtin.zeroCells z.cells (grownCap w (sLen + n) sCap e - (sLen + n))) e)) := by
 have hn : ¬ (sLen + n ≤ sCap) := by omega
 have hw : IntKind.i64.wrap (n : Int) = n := by rw [IntKind.wrap_i64]; omega
 have h63' : ¬ (9223372036854775807 < ((sLen : Int) + (n : Int))) := by omega
 have h48' : ¬ (281474976710656 < Builtin.nextslicecap (sLen + n) sCap * i.bytes) := by omega
 have h48i : ¬ (281474976710656 < (n : Int) * (i.bytes : Int)) := by
  rw [← Int.natCast_mul]
  omega
 have hneg : ¬ ((n : Int) < 0) := by omega
 have hfo := run_firstCells_some (P := P) w.drew i.size sLen b sLen sCap olds hlo (by simpa using holds)
 have hn0 : n ≠ 0 := by omega
 have hns : ¬ (n * i.size = 0) := Nat.mul_ne_zero hn0 (by omega)
 simp [Builtin.append_, run_underlying ht, run_underlying htn, sizeOf, typeInfo, zeroValue, hi, hz, asInt, asIntOf, hw, hn, hneg, hns, hn0, h63', h48', h48i, Question.forced, hfo, newRow, grownCap]
theorem zeros_list {z : Array Value} {n : Nat} (hz : 0 < z.size) : (Builtin.zeroCells z n).toList = (List.replicate n z.toList).flatten := by rw [← zeros_eq z n hz]; rfl
theorem zeros_ok {P : Program} {E : Env} (hc : Conc E) {t u ty : TypeId} {s x : DV} {v vx : Value} (hs : Rep E s v) (hx : Rep E x vx) {K : DV → Store → Prop} (h : zerosD P E.st t u s x K) :
  Ends P E (Builtin.append_ #[t, u] ty #[v, vx]) K := by
 unfold zerosD at h
 split at h
 ·rename_i e sz km m hsl
  simp only [Rep, RepP] at hx; subst hx
  split at h
  ·rename_i z i hz hi
   obtain ⟨hzl, hpos, hint, hm0, h⟩ := h
   obtain ⟨zv, i', e1, e2, e3, e4, e5, rfl⟩ := zeroD_spec hz
   rw [hi] at e1
   cases e1
   obtain ⟨hu, ⟨i2, hi2, hisz⟩, hsz⟩ := slD_spec hsl
   rw [hi] at hi2
   cases hi2
   subst hisz
   obtain ⟨kn, hun⟩ : ∃ kn, P.underlying u = some (.int kn) := by
    unfold isIntD at hint
    split at hint
    ·rename_i k hk; exact ⟨k, hk⟩
    ·cases hint
   obtain ⟨k, rfl⟩ : ∃ k : Nat, m = k := ⟨m.toNat, by omega⟩
   simp only [Int.toNat_natCast] at h
   have hzl' := zeros_list (n := k) (z := zv.cells) (by omega)
   have hR := reps_flat (E := E) _ _ (zero_reps E zv.cells.toList) k
   have hone : ∀ u ∈ (List.replicate k zv.cells.toList).flatten, u.oneCell' = true := fun u hu => by
    simp only [List.mem_flatten, List.mem_replicate] at hu
    obtain ⟨l, ⟨_, rfl⟩, hm⟩ := hu
    exact e4 u hm
   have hlz : (List.replicate k zv.cells.toList).flatten.length = k * i.size := by rw [← hzl', Array.length_toList, size_zeroCells, e3]
   have hw : IntKind.i64.wrap (k : Int) = k := by rw [IntKind.wrap_i64]; split at h <;> first | omega | exact h.elim | (split at h <;> first | omega | exact h.elim)
   have hneg : ¬ ((k : Int) < 0) := by omega
   split at h
   ·obtain ⟨hk, ⟨hm1, hm2⟩, h⟩ := h
    simp only [Rep, RepP] at hs; subst hs
    have hr := Go.Lib.run_append_nil_zeros (P := P) E.w t u ty e i zv km kn hu hun hi e2 k (by omega) (by omega) (by omega) (by omega)
    have hge := grownCap_ge E.w k 0 e
    have hcm : grownCap E.w k 0 e ≤ maxLen := grownCap_le_maxLen E.w k 0 e (by simp only [maxLen]; omega)
    have hsize : (Builtin.zeroCells zv.cells k ++ Builtin.zeroCells zv.cells (grownCap E.w k 0 e - k)).size = grownCap E.w k 0 e * i.size := by
     rw [Array.size_append, size_zeroCells, size_zeroCells, e3, ← Nat.add_mul]; congr 1; omega
    have hmono : k * i.size ≤ grownCap E.w k 0 e * i.size := Nat.mul_le_mul_right _ hge
    obtain ⟨c1, c2⟩ := newBoxAt hc (E.w.drew.alloc (.cells (Builtin.zeroCells zv.cells k ++ Builtin.zeroCells zv.cells (grownCap E.w k 0 e - k)) e)) E.w.heap.size (Nat.le_refl _) (by simp) rfl rfl rfl (fun j hj => heap_alloc_old E.w.drew _ hj) _ e (List.replicate k (zv.cells.toList.map fun v => DV.d (.sc v))).flatten true (heap_alloc_new E.w.drew _) (by rw [hR.length, hlz, hsize]; exact hmono) (fun h => by cases h) trivial
     (fun j d hj => by
       obtain ⟨u, q1, q2⟩ := hR.get _ _ j d hj
       refine ⟨u, ?_, oneL hone q1, q2⟩
       rw [← Array.getElem?_toList, Array.toList_append, hzl', List.getElem?_append_left (List.getElem?_eq_some_iff.1 q1).1]
       exact q1)
     (fun j u hj => by
       rw [← Array.getElem?_toList, Array.toList_append] at hj
       rcases List.mem_append.1 (List.mem_of_getElem? hj) with hh | hh
       ·exact e4 u (zeroCells_mem (by omega) hh)
       ·exact e4 u (zeroCells_mem (by omega) hh))
    refine ⟨_, _, .view i.size E.st.length 0 0 k, hr, h, c1, c2, ?_⟩
    have := view_new E (E.w.drew.alloc (.cells (Builtin.zeroCells zv.cells k ++ Builtin.zeroCells zv.cells (grownCap E.w k 0 e - k)) e)) E.S E.w.heap.size (Builtin.zeroCells zv.cells k ++ Builtin.zeroCells zv.cells (grownCap E.w k 0 e - k)).size i.size k (grownCap E.w k 0 e) ⟨e, (List.replicate k (zv.cells.toList.map fun v => DV.d (.sc v))).flatten, true, 0, true⟩ hc.len hsize.symm (by omega) hcm
    simpa using this
   ·rename_i sz' b ver o n
    split at h
    ·rename_i bx hb'
     obtain ⟨⟨rfl, rfl, rfl, hl, hty', hext, hcl, hgr⟩, ⟨hn1, hn2⟩, h⟩ := h
     obtain ⟨bx', gz, hb, hg, hone', hle, hv⟩ := hs
     rw [hb] at hb'
     cases hb'
     obtain ⟨c, rfl, hc1, hc2, hc3⟩ := hv rfl
     obtain ⟨cur, a1, a2, a3, a4, a5, a6, a7, a8⟩ := hc.box b bx gz.1 gz.2 hb hg hl
     have hexact := a4 hext
     have hlt : c < n + k := by
      rw [hexact, ← hc3, Nat.zero_add] at hgr
      exact Nat.lt_of_mul_lt_mul_right hgr
     have hxl : (cur.toList.take (n * i.size)).length = n * i.size := by simp; omega
     have holds : ∀ (j : Nat) (u : Value), (cur.toList.take (n * i.size))[j]? = some u → E.w.cell? ((⟨gz.1, 0, none⟩ : Addr).add j) = some u := fun j u hj => by
      rw [List.getElem?_take] at hj
      split at hj
      ·have hadd : (⟨gz.1, 0, none⟩ : Addr).add j = ⟨gz.1, j, none⟩ := by unfold Addr.add; split <;> simp_all
       rw [hadd]
       simp only [World.cell?, a1]
       simpa using hj
      ·cases hj
     have hr := run_append_grow_zeros (P := P) E.w t u ty e i zv km kn hu hun hi e2 ⟨gz.1, 0, none⟩ n c (cur.toList.take (n * i.size)) hxl holds k hpos hc1 hlt (by omega) (growslice_fits (by omega) hn2) (by have := Nat.mul_le_mul_right i.bytes (Nat.le_add_left k n); omega)
     have hge := grownCap_ge E.w (n + k) c e
     have hcm : grownCap E.w (n + k) c e ≤ maxLen := grownCap_le_maxLen E.w (n + k) c e (by simp only [maxLen]; omega)
     have hsize : ((cur.toList.take (n * i.size)).toArray ++ Builtin.zeroCells zv.cells k ++ Builtin.zeroCells zv.cells (grownCap E.w (n + k) c e - (n + k))).size = grownCap E.w (n + k) c e * i.size := by
      rw [Array.size_append, Array.size_append, size_zeroCells, size_zeroCells, e3, List.size_toArray, hxl, ← Nat.add_mul, ← Nat.add_mul]; congr 1; omega
     have hmono : (n + k) * i.size ≤ grownCap E.w (n + k) c e * i.size := Nat.mul_le_mul_right _ hge
     have htk2 : (bx.cells.take (n * i.size)).length = n * i.size := by simp; omega
     obtain ⟨c1, c2⟩ := newBoxAt hc (E.w.drew.alloc (.cells ((cur.toList.take (n * i.size)).toArray ++ Builtin.zeroCells zv.cells k ++ Builtin.zeroCells zv.cells (grownCap E.w (n + k) c e - (n + k))) e)) E.w.heap.size (Nat.le_refl _) (by simp) rfl rfl rfl (fun j hj => heap_alloc_old E.w.drew _ hj) _ e (bx.cells.take (n * i.size) ++ (List.replicate k (zv.cells.toList.map fun v => DV.d (.sc v))).flatten) true (heap_alloc_new E.w.drew _) (by rw [List.length_append, hR.length, hlz, htk2, hsize, ← Nat.add_mul]; exact hmono) (fun h => by cases h) trivial
      (fun j d hj => by
        rw [← Array.getElem?_toList, Array.toList_append, Array.toList_append, hzl', List.append_assoc]
        rw [List.getElem?_append] at hj
        split at hj
        ·rename_i hjl
         rw [List.getElem?_take] at hj
         rw [if_pos (by omega)] at hj
         obtain ⟨u, q1, q2, q3⟩ := a7 j d hj
         refine ⟨u, ?_, q2, q3⟩
         rw [List.getElem?_append_left (by simp only [List.length_take, Array.length_toList] at hxl ⊢; omega), List.getElem?_take, if_pos (by omega)]
         simpa using q1
        ·rename_i hjl
         obtain ⟨u, q1, q2⟩ := hR.get _ _ _ d hj
         refine ⟨u, ?_, oneL hone q1, q2⟩
         rw [List.getElem?_append_right (by simp only [List.length_take, Array.length_toList] at hxl ⊢; omega)]
         rw [show (cur.toList.take (n * i.size)).toArray.toList.length = (bx.cells.take (n * i.size)).length by rw [htk2]; simpa using hxl, List.getElem?_append_left (List.getElem?_eq_some_iff.1 q1).1]
         exact q1)
      (fun j u hj => by
        rw [← Array.getElem?_toList, Array.toList_append, Array.toList_append] at hj
        rcases List.mem_append.1 (List.mem_of_getElem? hj) with hh | hh
        ·rcases List.mem_append.1 hh with hh | hh
         ·obtain ⟨k, hk⟩ := List.mem_iff_getElem?.1 (List.mem_of_mem_take hh)
          exact a8 k u (by simpa using hk)
         ·exact e4 u (zeroCells_mem (by omega) hh)
        ·exact e4 u (zeroCells_mem (by omega) hh))
     refine ⟨_, _, .view i.size E.st.length 0 0 (n + k), hr, h, c1, c2, ?_⟩
     have := view_new E (E.w.drew.alloc (.cells ((cur.toList.take (n * i.size)).toArray ++ Builtin.zeroCells zv.cells k ++ Builtin.zeroCells zv.cells (grownCap E.w (n + k) c e - (n + k))) e)) E.S E.w.heap.size ((cur.toList.take (n * i.size)).toArray ++ Builtin.zeroCells zv.cells k ++ Builtin.zeroCells zv.cells (grownCap E.w (n + k) c e - (n + k))).size i.size (n + k) (grownCap E.w (n + k) c e) ⟨e, bx.cells.take (n * i.size) ++ (List.replicate k (zv.cells.toList.map fun v => DV.d (.sc v))).flatten, true, 0, true⟩ hc.len hsize.symm (by omega) hcm
     simpa using this
    ·exact h.elim
   ·exact h.elim
  ·exact h.elim
 ·exact h.elim
structure OvlF (P : Program) (f : FuncId) : Prop where
 of : ∃ fn tS tR e, P.funcs[f]? = some fn ∧ (fn.name == "runtime.NumGoroutine") = false ∧ fn.body.isNone = true ∧ Extern.findNext fn = none ∧ Extern.find fn = some (Extern.SlicesOverlaps.overlaps #[tS, tS] #[tR]) ∧ P.underlying tS = some (.slice e) ∧ (P.info? e).isSome = true
def ovlD (P : Program) (f : FuncId) (args : List DV) (st : Store) (K : DV → Store → Prop) : Prop :=
 OvlF P f ∧ match args with
 | [.view _ b v _ _, .view _ b' v' _ _] => match st[b]?, st[b']? with
   | some bx, some bx' => v = bx.ver ∧ v' = bx'.ver ∧ bx.live = true ∧ bx'.live = true ∧ b ≠ b' ∧ bx'.cells ≠ [] ∧ K (boolD false) st
   | _, _ => False
 | _ => False
theorem ovl_ok {P : Program} {E : Env} (hc : Conc E) {f : FuncId} {args : List DV} {vs : List Value} (hr : Reps E args vs) {K : DV → Store → Prop} (h : ovlD P f args E.st K) : ∃ v d, (callFunc f vs.toArray).run P E.w = .ok (.value v) E.w ∧ K d E.st ∧ Rep E d v := by
 obtain ⟨⟨fn, tS, tR, e, q1, q2, q3, q4, q5, q6, q7⟩, h⟩ := h
 obtain ⟨i, q7⟩ := Option.isSome_iff_exists.1 q7
 split at h
 ·rename_i z1 b v o n z2 b' v' o' n'
  split at h
  ·rename_i bx bx' hb hb'
   obtain ⟨rfl, rfl, hl, hl', hne, hcs, hk⟩ := h
   rcases vs with _ | ⟨x, _ | ⟨y, _ | ⟨_, _⟩⟩⟩
   ·exact hr.elim
   ·exact hr.2.elim
   ·obtain ⟨⟨b1, gz, hb1, hg, _, _, hv⟩, ⟨b2, gz', hb2, hg', _, _, hv'⟩, _⟩ := hr
    rw [hb] at hb1; cases hb1
    rw [hb'] at hb2; cases hb2
    obtain ⟨c, rfl, _, _, _⟩ := hv rfl
    obtain ⟨c', rfl, _, _, _⟩ := hv' rfl
    obtain ⟨cur, a1, a2, _, _, _, _, _, _⟩ := hc.box b bx gz.1 gz.2 hb hg hl
    obtain ⟨cur', a1', a2', a3', _, _, _, _, _⟩ := hc.box b' bx' gz'.1 gz'.2 hb' hg' hl'
    have hbl : gz.1 ≠ gz'.1 := fun e => hne (hc.inj b b' gz.1 gz.2 gz'.1 gz'.2 hg hg' e)
    have hk0 : cur'.size ≠ 0 := by
     have : bx'.cells.length ≠ 0 := fun e => hcs (List.eq_nil_of_length_eq_zero e)
     omega
    have hrun := Go.Lib.run_overlaps_apart (P := P) E.w tS tR e q6 i.size (fun w => by simp [sizeOf, typeInfo, q7]) ⟨gz.1, o, none⟩ ⟨gz'.1, o', none⟩ n c n' c' hbl bx.ty bx'.ty cur.size cur'.size
     (by simp [World.shape?, a1]) (by simp [World.shape?, a1']) hk0 (by simp [World.frozen?, a1]) (by simp [World.frozen?, a1])
    refine ⟨.bool false, boolD false, ?_, hk, rfl⟩
    rw [run_callFunc_extern q1 q2 q3 q4 q5]
    rw [hrun]
    rfl
   ·exact hr.2.2.elim
  ·exact h.elim
 ·exact h.elim
def callD (P : Program) (c : Call) (s : Slots) (st : Store) (K : DV → Store → Prop) : Prop :=
 match c.callee, c.args.toList, c.argTypes.toList with
 | .builtin .len, [x], [t] => lenD P st t (ev s x) fun d => K d st
 | .builtin .append, [x, y], [t, u] => appendD P st t u (ev s x) (ev s y) K ∨ append2D P st t u (ev s x) (ev s y) K ∨ zerosD P st t u (ev s x) (ev s y) K
 | .builtin .copy, [x, y], [t, u] => copyD P st t u (ev s x) (ev s y) K
 | .builtin .max, [x, y], _ => mmD true (ev s x) (ev s y) fun d => K d st
 | .builtin .min, [x, y], _ => mmD false (ev s x) (ev s y) fun d => K d st
 | .builtin .cap, [x], [t] => capD P st t (ev s x) fun d => K d st
 | .builtin .clear, [x], [t] => clearD P st t (ev s x) K
 | .value (.func f), args, _ => (hasBody P f = true ∧ FnD P f (args.map (ev s)) st K) ∨ ovlD P f (args.map (ev s)) st K
 | .value (.tmp t), args, _ => match s t with
   | .fn f caps => hasBody P f = true ∧ FnD P f (args.map (ev s) ++ caps) st K
   | _ => False
 | _, _, _ => False
def opD (P : Program) (o : Op) (s : Slots) (st : Store) (K : DV → Store → Prop) : Prop :=
 match o with
 | .move x => K (ev s x) st
 | .assign x => K (ev s x) st
 | .pick c a b => pickD (ev s c) (ev s a) (ev s b) fun d => K d st
 | .alloc t => allocD P st t K
 | .box t x => boxD st t (ev s x) K
 | .build t parts => buildD P t (parts.toList.map fun p => (p.1, ev s p.2)) fun d => K d st
 | .buildSlice t len parts => buildSliceD P st t len (parts.toList.map fun p => (p.1, ev s p.2)) K ∨ buildSetD P t len (parts.toList.map fun p => (p.1, ev s p.2)) fun d => K d st
 | .load t a => loadD P st t (ev s a) fun d => K d st
 | .store t a x => storeD P st t (ev s a) (ev s x) fun st' => K (.d (.sc undef)) st'
 | .nilCheck x => isRefD st (ev s x) = true ∧ K (ev s x) st
 | .binOp op t x y _ => binD P st op t (ev s x) (ev s y) fun d => K d st
 | .unOp op _ x => unD op (ev s x) fun d => K d st
 | .convert src dst x => convD P src dst (ev s x) fun d => K d st
 | .makeSlice t l c => makeD P st t (ev s l) (ev s c) K
 | .slice t x lo hi none => sliceD P st t (ev s x) (lo.map (ev s)) (hi.map (ev s)) fun d => K d st
 | .slice t x lo (some hi) (some mx) => slice3D P st t (ev s x) (lo.map (ev s)) (ev s hi) (ev s mx) fun d => K d st
 | .fieldAddr t x f => fieldAddrD P st t (ev s x) f fun d => K d st
 | .field t x f => fieldVD P t (ev s x) f fun d => K d st
 | .indexAddr t x i => indexAddrD P st t (ev s x) (ev s i) fun d => K d st
 | .index t x i => indexD P t (ev s x) (ev s i) fun d => K d st
 | .extract x i => extractD (ev s x) i fun d => K d st
 | .makeFunc (.func f) first captured => first.toList = [] ∧ K (.fn f (captured.toList.map (ev s))) st
 | .call c => callD P c s st K
 | _ => False
theorem evs_rep {E : Env} {N : Nat} {s : Slots} {a : Act} (h : SlotsOk E N s a) : ∀ xs : List Operand, Reps E (xs.map (ev s)) (xs.map a.eval)
 | [] => trivial
 | x :: xs => ⟨ev_rep h x, evs_rep h xs⟩
theorem op_ok {P : Program} {E : Env} {N : Nat} {s : Slots} {a : Act} (hc : Conc E) (hs : SlotsOk E N s a) (o : Oper) {K : DV → Store → Prop} (h : opD P o.op s E.st K) {next : Act → World → Prop} {Q : Exit → Act → World → Prop}
  (hn : ∀ (d : DV) (v : Value) (E' : Env), K d E'.st → Conc E' → Ext E E' → Rep E' d v → next (a.put o.dst v) E'.w) : o.wp P a E.w next Q := by
 have val : ∀ {c : Sem Value}, (execOp a.eval o = (do pure (.value (← c)) : Sem Next)) → Ends P E c K → o.wp P a E.w next Q := by
  intro c he ⟨v, E', d, h1, h2, h3, h4, h5⟩
  unfold Oper.wp
  rw [he]
  simp only [Sem.run_bind, h1, Result.andThen_ok, Sem.run_pure, Oper.upon]
  exact hn d v E' h2 h3 h4 h5
 unfold opD at h
 split at h
 ·rename_i x ho
  exact val (c := pure (a.eval x)) (by simp only [execOp, ho, pure_bind]) (Ends.pure hc ⟨_, _, rfl, h, ev_rep hs x⟩)
 ·rename_i x ho
  exact val (c := pure (a.eval x)) (by simp only [execOp, ho, pure_bind]) (Ends.pure hc ⟨_, _, rfl, h, ev_rep hs x⟩)
 ·rename_i c x y ho
  obtain ⟨q, d, h1, h2, h3⟩ := pick_ok (P := P) (ev_rep hs c) (ev_rep hs x) (ev_rep hs y) h
  unfold Oper.wp
  simp only [execOp, ho]
  rw [h1]
  exact hn d q E h2 hc (Ext.refl E) h3
 ·rename_i t ho
  exact val (by simp only [execOp, ho]) (alloc_ok hc h)
 ·rename_i t x ho
  exact val (by simp only [execOp, ho]) (box_ok hc (ev_rep hs x) h)
 ·rename_i t parts ho
  refine val (c := Instr.build t (parts.map fun p => (p.1, a.eval p.2))) (by simp only [execOp, ho]) (Ends.pure hc ?_)
  have := build_ok (P := P) (E := E) (t := t) (parts := parts.toList.map fun p => (p.1, ev s p.2)) (vparts := parts.toList.map fun p => (p.1, a.eval p.2)) (by simp) (fun j p q hp hq => by
   rw [List.getElem?_map] at hp hq
   cases hj : parts.toList[j]? with
   | none => rw [hj] at hp; cases hp
   | some r =>
     rw [hj] at hp hq
     simp only [Option.map_some, Option.some.injEq] at hp hq
     subst hp; subst hq
     exact ⟨rfl, ev_rep hs r.2⟩) h
  have he : (parts.toList.map fun p => (p.1, a.eval p.2)).toArray = parts.map fun p => (p.1, a.eval p.2) := by apply Array.ext'; simp
  rwa [he] at this
 ·rename_i t len parts ho
  refine val (c := Instr.buildSlice t len (parts.map fun p => (p.1, a.eval p.2))) (by simp only [execOp, ho]) ?_
  rcases h with h | h
  ·have := buildSlice_ok (P := P) hc (t := t) (len := len) (parts := parts.toList.map fun p => (p.1, ev s p.2)) (vparts := parts.toList.map fun p => (p.1, a.eval p.2)) (by simp) (fun j p q hp hq => by
    rw [List.getElem?_map] at hp hq
    cases hj : parts.toList[j]? with
    | none => rw [hj] at hp; cases hp
    | some r =>
      rw [hj] at hp hq
      simp only [Option.map_some, Option.some.injEq] at hp hq
      subst hp; subst hq
      exact ⟨rfl, ev_rep hs r.2⟩) h
   have he : (parts.toList.map fun p => (p.1, a.eval p.2)).toArray = parts.map fun p => (p.1, a.eval p.2) := by apply Array.ext'; simp
   rwa [he] at this
  ·have := buildSet_ok (P := P) hc (t := t) (len := len) (parts := parts.toList.map fun p => (p.1, ev s p.2)) (vparts := parts.toList.map fun p => (p.1, a.eval p.2)) (by simp) (fun j p q hp hq => by
    rw [List.getElem?_map] at hp hq
    cases hj : parts.toList[j]? with
    | none => rw [hj] at hp; cases hp
    | some r =>
      rw [hj] at hp hq
      simp only [Option.map_some, Option.some.injEq] at hp hq
      subst hp; subst hq
      exact ⟨rfl, ev_rep hs r.2⟩) h
   have he : (parts.toList.map fun p => (p.1, a.eval p.2)).toArray = parts.map fun p => (p.1, a.eval p.2) := by apply Array.ext'; simp
   rwa [he] at this
 ·rename_i t x ho
  exact val (by simp only [execOp, ho]) (Ends.pure hc (load_ok hc (ev_rep hs x) h))
 ·rename_i t x y ho
  obtain ⟨E', h1, h2, h3, h4⟩ := store_ok hc (ev_rep hs x) (ev_rep hs y) h
  unfold Oper.wp
  simp only [execOp, ho, Sem.run_bind, h1, Result.andThen_ok, Sem.run_pure, Oper.upon]
  exact hn _ undef E' h2 h3 h4 rfl
 ·rename_i x ho
  obtain ⟨hr, h⟩ := h
  have hx := ev_rep hs x
  refine val (c := pure (a.eval x)) ?_ (Ends.pure hc ⟨_, _, rfl, h, hx⟩)
  unfold isRefD at hr
  simp only [execOp, ho, pure_bind]
  split at hr
  ·rename_i b ver o' heq
   rw [heq] at hx
   obtain ⟨bx, gz, hb, _, _, _, hv⟩ := hx
   split at hr
   ·rename_i bx' hb'
    rw [hb] at hb'; cases hb'
    rw [hv (by simpa using (beq_iff_eq.1 hr).symm)]
   ·cases hr
  ·rename_i cs heq
   rw [heq] at hx
   obtain ⟨ad, hv, _⟩ := hx
   rw [hv]
  ·rename_i f caps heq
   rw [heq] at hx
   obtain ⟨vs, hv, _⟩ := hx
   rw [hv]
  ·cases hr
 ·rename_i op t x y _ ho
  exact val (c := do eqGuard op t x y (a.eval x) (a.eval y); binOp op t (a.eval x) (a.eval y)) (by simp only [execOp, ho]) (Ends.pure hc (bin_ok (ev_rep hs x) (ev_rep hs y) x y h))
 ·rename_i op _ x ho
  exact val (by simp only [execOp, ho]) (Ends.pure hc (un_ok (ev_rep hs x) h))
 ·rename_i src dst x ho
  exact val (by simp only [execOp, ho]) (Ends.pure hc (conv_ok (ev_rep hs x) h))
 ·rename_i t l c ho
  exact val (by simp only [execOp, ho]) (make_ok hc (ev_rep hs l) (ev_rep hs c) h)
 ·rename_i t x lo hi ho
  exact val (c := Instr.sliceAt t (a.eval x) (lo.map a.eval) (hi.map a.eval) none) (by simp only [execOp, ho, Option.map_none]) (Ends.pure hc (slice_ok hc (ev_rep hs x) (by cases lo with
   | none => trivial
   | some l => exact ev_rep hs l) (by cases hi with
   | none => trivial
   | some l => exact ev_rep hs l) h))
 ·rename_i t x lo hi mx ho
  exact val (c := Instr.sliceAt t (a.eval x) (lo.map a.eval) (some (a.eval hi)) (some (a.eval mx))) (by simp only [execOp, ho, Option.map_some]) (Ends.pure hc (slice3_ok (ev_rep hs x) (by cases lo with
   | none => trivial
   | some l => exact ev_rep hs l) (ev_rep hs hi) (ev_rep hs mx) h))
 ·rename_i t x f ho
  exact val (by simp only [execOp, ho]) (Ends.pure hc (fieldAddr_ok (ev_rep hs x) h))
 ·rename_i t x f ho
  refine val (c := Instr.field t (a.eval x) f) (by simp only [execOp, ho]) (Ends.pure hc ?_)
  unfold fieldVD at h
  have hx := ev_rep hs x
  split at h
  ·rename_i fs cs hu heq
   rw [heq] at hx
   obtain ⟨vs, hv, hone, hR⟩ := hx
   split at h
   ·rename_i fl hfl
    obtain ⟨u, d, h1, h2, h3⟩ := part_ok hR hone h
    exact ⟨u, d, by simp only [Instr.field, Sem.run_bind, run_underlying hu, Result.andThen_ok, hfl, hv, asAgg, Sem.run_pure, h1], h2, h3⟩
   ·exact h.elim
  ·exact h.elim
 ·rename_i t x i ho
  exact val (by simp only [execOp, ho]) (Ends.pure hc (indexAddr_ok (ev_rep hs x) (ev_rep hs i) h))
 ·rename_i t x i ho
  exact val (by simp only [execOp, ho]) (Ends.pure hc (index_ok (ev_rep hs x) (ev_rep hs i) h))
 ·rename_i x i ho
  refine val (c := Instr.extract (a.eval x) i) (by simp only [execOp, ho]) (Ends.pure hc ?_)
  have hx := ev_rep hs x
  unfold extractD at h
  split at h
  ·rename_i ds heq
   rw [heq] at hx
   obtain ⟨vs, hv, hR⟩ := hx
   split at h
   ·rename_i d hd
    obtain ⟨u, h1, h2⟩ := hR.get _ _ _ _ hd
    exact ⟨u, d, by simp [Instr.extract, hv, h1], h, h2⟩
   ·exact h.elim
  ·exact h.elim
 ·rename_i f first captured ho
  obtain ⟨hf, h⟩ := h
  have hf' : first = #[] := by apply Array.ext'; simpa using hf
  subst hf'
  refine val (c := Instr.makeFunc (.func f) (#[].map a.eval) (captured.map a.eval)) (by simp only [execOp, ho]) (Ends.pure hc ⟨.func (.func f) #[] (captured.toList.map a.eval).toArray, _, ?_, h, _, rfl, evs_rep hs _⟩)
  have he : (captured.toList.map a.eval).toArray = captured.map a.eval := by apply Array.ext'; simp
  rw [he]
  simp [Instr.makeFunc]
 ·rename_i c ho
  unfold callD at h
  split at h
  ·rename_i x t hcal hargs htys
   refine val (c := Builtin.len_ #[t] o.type #[a.eval x]) ?_ (Ends.pure hc (len_ok (ev_rep hs x) h))
   have ha : c.args = #[x] := by apply Array.ext'; simpa using hargs
   have ht : c.argTypes = #[t] := by apply Array.ext'; simpa using htys
   simp [execOp, ho, resolve, hcal, invoke, builtin, ha, ht]
  ·rename_i x y t u hcal hargs htys
   refine val (c := Builtin.append_ #[t, u] o.type #[a.eval x, a.eval y]) ?_ (by
    rcases h with h | h | h
    ·exact append_ok hc (ev_rep hs x) (ev_rep hs y) h
    ·exact append2_ok hc (ev_rep hs x) (ev_rep hs y) h
    ·exact zeros_ok hc (ev_rep hs x) (ev_rep hs y) h)
   have ha : c.args = #[x, y] := by apply Array.ext'; simpa using hargs
   have ht : c.argTypes = #[t, u] := by apply Array.ext'; simpa using htys
   simp [execOp, ho, resolve, hcal, invoke, builtin, ha, ht]
  ·rename_i x y t u hcal hargs htys
   refine val (c := Builtin.copy_ #[t, u] o.type #[a.eval x, a.eval y]) ?_ (copy_ok hc (ev_rep hs x) (ev_rep hs y) h)
   have ha : c.args = #[x, y] := by apply Array.ext'; simpa using hargs
   have ht : c.argTypes = #[t, u] := by apply Array.ext'; simpa using htys
   simp [execOp, ho, resolve, hcal, invoke, builtin, ha, ht]
  ·rename_i x y hcal hargs
   refine val (c := Builtin.max_ c.argTypes o.type #[a.eval x, a.eval y]) ?_ (Ends.pure hc (max_ok (ev_rep hs x) (ev_rep hs y) h))
   have ha : c.args = #[x, y] := by apply Array.ext'; simpa using hargs
   simp [execOp, ho, resolve, hcal, invoke, builtin, ha]
  ·rename_i x y hcal hargs
   refine val (c := Builtin.min_ c.argTypes o.type #[a.eval x, a.eval y]) ?_ (Ends.pure hc (min_ok (ev_rep hs x) (ev_rep hs y) h))
   have ha : c.args = #[x, y] := by apply Array.ext'; simpa using hargs
   simp [execOp, ho, resolve, hcal, invoke, builtin, ha]
  ·rename_i x t hcal hargs htys
   refine val (c := Builtin.cap_ #[t] o.type #[a.eval x]) ?_ (Ends.pure hc (cap_ok hc (ev_rep hs x) h))
   have ha : c.args = #[x] := by apply Array.ext'; simpa using hargs
   have ht : c.argTypes = #[t] := by apply Array.ext'; simpa using htys
   simp [execOp, ho, resolve, hcal, invoke, builtin, ha, ht]
  ·rename_i x t hcal hargs htys
   refine val (c := Builtin.clear_ #[t] o.type #[a.eval x]) ?_ (clear_ok hc (ev_rep hs x) h)
   have ha : c.args = #[x] := by apply Array.ext'; simpa using hargs
   have ht : c.argTypes = #[t] := by apply Array.ext'; simpa using htys
   simp [execOp, ho, resolve, hcal, invoke, builtin, ha, ht]
  ·rename_i f hcal
   rcases h with ⟨hb, h⟩ | h
   rotate_left
   ·obtain ⟨v, d, h1, h2, h3⟩ := ovl_ok hc (evs_rep hs c.args.toList) h
    unfold Oper.wp
    have ha : (c.args.toList.map a.eval).toArray = c.args.map a.eval := by apply Array.ext'; simp
    rw [ha] at h1
    have he : (execOp a.eval o).run P E.w = .ok (.value v) E.w := by
     simp [execOp, ho, resolve, hcal, invoke, Deferred.ofValue, Act.eval, h1]
    rw [he]
    exact hn d v E h2 hc (Ext.refl E) h3
   have hF := h E _ hc rfl (evs_rep hs c.args.toList)
   have ha : (c.args.toList.map a.eval).toArray = c.args.map a.eval := by apply Array.ext'; simp
   rw [ha] at hF
   unfold Oper.wp
   have he : (execOp a.eval o).run P E.w = .ok (.enter f (c.args.map a.eval)) E.w := by
    simp [execOp, ho, resolve, hcal, invoke, Deferred.ofValue, Act.eval, callFunc_run hb]
   rw [he, Oper.upon_enter]
   refine hF.mono ?_
   rintro e w' ⟨v, E', r, rfl, rfl, h1, h2, h3, h4⟩
   exact hn r v E' h1 h2 h3 h4
  ·rename_i t hcal
   split at h
   ·rename_i f caps heq
    obtain ⟨hb, h⟩ := h
    have hx := hs.rep t
    rw [heq] at hx
    obtain ⟨vs, hv, hR⟩ := hx
    have hF := h E _ hc rfl (Reps.append _ _ _ _ (evs_rep hs c.args.toList) hR)
    have ha : (c.args.toList.map a.eval ++ vs).toArray = c.args.map a.eval ++ vs.toArray := by apply Array.ext'; simp
    rw [ha] at hF
    unfold Oper.wp
    have he : (execOp a.eval o).run P E.w = .ok (.enter f (c.args.map a.eval ++ vs.toArray)) E.w := by
     have hev : a.eval (.tmp t) = .func (.func f) #[] vs.toArray := hv
     simp [execOp, ho, resolve, hcal, invoke, hev, Deferred.ofValue, callFunc_run hb]
    rw [he, Oper.upon_enter]
    refine hF.mono ?_
    rintro e w' ⟨v, E', r, rfl, rfl, h1, h2, h3, h4⟩
    exact hn r v E' h1 h2 h3 h4
   ·exact h.elim
  ·exact h.elim
 ·exact h.elim
end Go.Proofs.Ytadnpgkddgbhkaa
