/- The program logic, tenth part: one operation, a row of them, a region. No condition: lemmas of any program. -/
import Derived.Test.YtadnpgkddgbhkaaZX4
import Derived.Still
import Derived.Lib.Overlaps
import Derived.Lib.AppendZeros
namespace Go.Proofs.Ytadnpgkddgbhkaa
open Go.RowKit
set_option linter.all false
def hasBody (P : Program) (f : FuncId) : Bool := match P.funcs[f]? with
  | some fn => fn.name != "runtime.NumGoroutine" && fn.body.isSome
  | none => false
theorem callFunc_run {P : Program} {f : FuncId} (h : hasBody P f = true) (args : Array Value) (w : World) : (callFunc f args).run P w = .ok (.enter f args) w := by
  unfold hasBody at h
  split at h
  · rename_i fn hf
    simp only [Bool.and_eq_true, bne_iff_ne, ne_eq] at h
    cases hq : fn.body with
    | none => simp [hq] at h
    | some c => simp [callFunc, hf, h.1, hq]
  · cases h
/-- The builtin copy, where all that is copied fits. -/
def copyD (P : Program) (st : Store) (t u : TypeId) (dst src : DV) (K : DV → Store → Prop) : Prop :=
  match slD P t, dst with
  | some (_, sz), .view sz' b ver o n => match st[b]?, srcD P st sz u src with
    | some bx, some (ds, m) => sz' = sz ∧ ver = bx.ver ∧ bx.live = true ∧ (slD P u).isSome = true ∧ ((m ≤ n ∧ o + ds.length ≤ bx.cells.length ∧ K (.d (.sc (.int .i64 m))) (st.set b { bx with cells := splice bx.cells o ds })) ∨
      (o + min m n * sz ≤ bx.cells.length ∧ K (.d (.sc (.int .i64 (min m n : Nat)))) (st.set b { bx with cells := splice bx.cells o (ds.take (min m n * sz)) })))
    | _, _ => False
  | _, _ => False
theorem copy_ok {P : Program} {E : Env} (hc : Conc E) {t u ty : TypeId} {s x : DV} {v vx : Value} (hs : Rep E s v) (hx : Rep E x vx) {K : DV → Store → Prop} (h : copyD P E.st t u s x K) :
    Ends P E (Builtin.copy_ #[t, u] ty #[v, vx]) K := by
  unfold copyD at h
  split at h
  · rename_i e sz sz' b ver o n hsl
    split at h
    · rename_i bx ds m hb' hsrc
      obtain ⟨rfl, rfl, hl, hsu, h⟩ := h
      obtain ⟨hu, ⟨i, hi, hisz⟩, hsz⟩ := slD_spec hsl
      obtain ⟨bx', gz, hb, hg, hone, hle, hv⟩ := hs
      rw [hb] at hb'
      cases hb'
      obtain ⟨c, rfl, hnc, hcm, hcz⟩ := hv rfl
      obtain ⟨vs, g1, g2, g3⟩ := srcD_spec hc hx hsrc
      have hone' := g1.2.1
      have hvl := g1.1
      have hdl := g2.length
      have h : o + min m n * sz' ≤ bx.cells.length ∧ K (.d (.sc (.int .i64 (min m n : Nat)))) (E.st.set b { bx with cells := splice bx.cells o (ds.take (min m n * sz')) }) := by
        rcases h with ⟨h1, h2, h3⟩ | h
        · rw [Nat.min_eq_left h1, List.take_of_length_le (by omega)]
          exact ⟨by omega, h3⟩
        · exact h
      obtain ⟨hfit, h⟩ := h
      have hmv : min m n * sz' ≤ m * sz' := Nat.mul_le_mul_right _ (Nat.min_le_left m n)
      obtain ⟨E', r1, r2, r3, r4, r5, r6⟩ := write_ok hc hb hg hl (Reps.take (min m n * sz') _ _ g2) (fun u hu => hone' u (List.mem_of_mem_take hu)) (o := o) (by rw [List.length_take]; omega) P
      refine ⟨.int .i64 (min m n : Nat), E', .d (.sc (.int .i64 (min m n : Nat))), ?_, by rw [r2]; exact h, r5, r6, rfl⟩
      rcases g1.2.2 with ⟨a, c', rfl, hcells⟩ | ⟨rfl, rfl⟩ | ⟨str, rfl, hm, h1, hstr⟩
      · have hld := run_loadCells_list (P := P) E.w a (vs.take (min m n * sz')) (fun j u hj => by
          rw [List.getElem?_take] at hj
          split at hj
          · exact hcells j u hj
          · cases hj)
        rw [show (vs.take (min m n * sz')).length = min m n * sz' by rw [List.length_take]; omega] at hld
        have hmin : Nat.min m n = min m n := rfl
        simp [Builtin.copy_, run_underlying hu, Builtin.lenOf, Builtin.firstCells, sizeOf, typeInfo, hi, hisz, hmin, hld, r1]
        rfl
      · have hv0 : vs = [] := List.eq_nil_of_length_eq_zero (by omega)
        subst hv0
        simp only [Nat.zero_min, Nat.zero_mul, List.take_zero] at r1 ⊢
        simp [Builtin.copy_, run_underlying hu, Builtin.lenOf, Builtin.firstCells, sizeOf, typeInfo, hi, hisz, r1]
        first | rfl | done
      · rcases g3 with ⟨s', _, hs'⟩ | ⟨e', _, g4⟩
        · obtain ⟨e2, he2⟩ := slD_some hsu
          rw [he2] at hs'
          cases hs'
        · exact absurd rfl (g4 str)
    · exact h.elim
  · exact h.elim
/-- The room of a row of which it is known. -/
def capD (P : Program) (st : Store) (t : TypeId) (x : DV) (K : DV → Prop) : Prop :=
  match x with
  | .d (.sc (.slice none 0 0)) => (slD P t).isSome = true ∧ K (.d (.sc (.int .i64 0)))
  | .view sz b ver o _ => match st[b]? with
    | some bx => ver = bx.ver ∧ bx.live = true ∧ bx.ext = false ∧ 0 < sz ∧ (slD P t).isSome = true ∧ K (.d (.sc (.int .i64 (((bx.cells.length - o) / sz : Nat)))))
    | none => False
  | _ => False
theorem cap_ok {P : Program} {E : Env} (hc : Conc E) {t ty : TypeId} {x : DV} {v : Value} (hx : Rep E x v) {K : DV → Prop} (h : capD P E.st t x K) : ∃ r d, (Builtin.cap_ #[t] ty #[v]).run P E.w = .ok r E.w ∧ K d ∧ Rep E d r := by
  unfold capD at h
  split at h
  · obtain ⟨hs, h⟩ := h
    obtain ⟨e, hu⟩ := slD_some hs
    simp only [Rep, RepP] at hx; subst hx
    exact ⟨.int .i64 0, _, by simp [Builtin.cap_, run_underlying hu]; rfl, h, rfl⟩
  · rename_i sz b ver o n
    split at h
    · rename_i bx hb'
      obtain ⟨rfl, hl, hext, hz, hs, h⟩ := h
      obtain ⟨e, hu⟩ := slD_some hs
      obtain ⟨bx', gz, hb, hg, hone, hle, hv⟩ := hx
      rw [hb] at hb'
      cases hb'
      obtain ⟨c, rfl, hnc, hcm, hcz⟩ := hv rfl
      obtain ⟨cur, a1, a2, a3, a4, a5, a6, a7, a8⟩ := hc.box b bx gz.1 gz.2 hb hg hl
      have : (bx.cells.length - o) / sz = c := by
        rw [a4 hext, ← hcz, Nat.add_sub_cancel_left, Nat.mul_div_cancel _ hz]
      rw [this] at h
      exact ⟨.int .i64 c, _, by simp [Builtin.cap_, run_underlying hu]; rfl, h, rfl⟩
    · exact h.elim
  · exact h.elim
/-- A full slice expression, the result of which nobody wants. -/
def slice3D (P : Program) (st : Store) (t : TypeId) (x : DV) (lo : Option DV) (hi mx : DV) (K : DV → Prop) : Prop :=
  match x with
  | .view _ b ver _ n => match slD P t, boundD 0 lo, intOfD hi, intOfD mx, st[b]? with
    | some _, some l, some h, some m, some bx => ver = bx.ver ∧ (0 ≤ l ∧ l ≤ h ∧ h ≤ m ∧ m ≤ n) ∧ K .any
    | _, _, _, _, _ => False
  | _ => False
theorem slice3_ok {P : Program} {E : Env} {t : TypeId} {x y z : DV} {v vh vm : Value} {lo : Option DV} {vl : Option Value} (hx : Rep E x v) (hl0 : match lo, vl with | none, none => True | some d, some u => Rep E d u | _, _ => False)
    (hy : Rep E y vh) (hz : Rep E z vm) {K : DV → Prop} (h : slice3D P E.st t x lo y z K) : ∃ r d, (Instr.sliceAt t v vl (some vh) (some vm)).run P E.w = .ok r E.w ∧ K d ∧ Rep E d r := by
  unfold slice3D at h
  split at h
  · rename_i sz b ver o n
    split at h
    · rename_i es l hh m bx hs e1 e2 e3 hb'
      obtain ⟨rfl, ⟨h0, h1, h2, h3⟩, h⟩ := h
      obtain ⟨bx', gz, hb, hg, hone, hle, hv⟩ := hx
      rw [hb] at hb'
      cases hb'
      obtain ⟨c, rfl, hnc, hcm, hcz⟩ := hv rfl
      obtain ⟨hu, _, hsz⟩ := slD_spec (e := es.1) (sz := es.2) hs
      obtain ⟨k1, rfl⟩ := intOfD_spec e2
      obtain ⟨k2, rfl⟩ := intOfD_spec e3
      simp only [Rep, RepP] at hy hz
      subst hy; subst hz
      have hm : 0 ≤ m := by omega
      have hmc : m ≤ c := by omega
      have hh0 : 0 ≤ hh := by omega
      have hmm : max m 0 = m := by omega
      have hmh : max hh 0 = hh := by omega
      rcases bound_run (dflt := 0) hl0 e1 with ⟨rfl, rfl, rfl⟩ | ⟨k', rfl⟩
      · exact ⟨_, .any, by simp [Instr.sliceAt, Instr.slice, run_underlying hu, Instr.sliceBounds, Instr.sliceBound, asIntOf, hm, hmc, hh0, h2, hmm, hsz]; rfl, h, trivial⟩
      · exact ⟨_, .any, by simp [Instr.sliceAt, Instr.slice, run_underlying hu, Instr.sliceBounds, Instr.sliceBound, asIntOf, hm, hmc, hh0, h2, h0, h1, hmm, hmh, hsz]; rfl, h, trivial⟩
    · exact h.elim
  · exact h.elim
/-- The builtin clear, of a slice. -/
def clearD (P : Program) (st : Store) (t : TypeId) (x : DV) (K : DV → Store → Prop) : Prop :=
  match slD P t with
  | some (e, sz) => match zeroD P e, x with
    | some z, .view sz' b ver o n => match st[b]? with
      | some bx => sz' = sz ∧ z.length = sz ∧ 0 < sz ∧ ver = bx.ver ∧ bx.live = true ∧ o + n * sz ≤ bx.cells.length ∧ K (.d (.sc (.tuple #[]))) (st.set b { bx with cells := splice bx.cells o (List.replicate n z).flatten })
      | none => False
    | some _, .d (.slc _ []) => K (.d (.sc (.tuple #[]))) st
    | _, _ => False
  | none => False
theorem splice_nil (cs : List DV) (o : Nat) : splice cs o [] = cs := by simp [splice]
theorem clear_ok {P : Program} {E : Env} (hc : Conc E) {t ty : TypeId} {x : DV} {v : Value} (hx : Rep E x v) {K : DV → Store → Prop} (h : clearD P E.st t x K) : Ends P E (Builtin.clear_ #[t] ty #[v]) K := by
  unfold clearD at h
  split at h
  · rename_i e sz hsl
    obtain ⟨hu, ⟨i2, hi2, hisz⟩, hsz⟩ := slD_spec hsl
    split at h
    · rename_i z sz' b ver o n hz
      obtain ⟨zv, i, e1, e2, e3, e4, e5, rfl⟩ := zeroD_spec hz
      split at h
      · rename_i bx hb'
        obtain ⟨rfl, hzl, hpos, rfl, hl, hfit, h⟩ := h
        obtain ⟨bx', gz, hb, hg, hone, hle, hv⟩ := hx
        rw [hb] at hb'
        cases hb'
        obtain ⟨c, rfl, hnc, hcm, hcz⟩ := hv rfl
        simp only [List.length_map, Array.length_toList] at hzl
        cases n with
        | zero =>
          refine ⟨.tuple #[], E, .d (.sc (.tuple #[])), by simp [Builtin.clear_, run_underlying hu], ?_, hc, Ext.refl E, rfl⟩
          have e0 : (E.st.set b { bx with cells := splice bx.cells o (List.replicate 0 (zv.cells.toList.map fun v => DV.d (.sc v))).flatten }) = E.st := by
            simp only [List.replicate_zero, List.flatten_nil, splice_nil]
            apply List.ext_getElem?
            intro k
            by_cases hk : b = k
            · subst hk; rw [List.getElem?_set_self (List.getElem?_eq_some_iff.1 hb).1, hb]
            · simp [hk]
          rw [e0] at h
          exact h
        | succ n =>
          have hze := zeros_eq zv.cells (n + 1) (by omega)
          have hze' : (Builtin.zeroCells zv.cells (n + 1)).toList = (List.replicate (n + 1) zv.cells.toList).flatten := by rw [← hze]; rfl
          have hR := reps_flat (E := E) _ _ (zero_reps E zv.cells.toList) (n + 1)
          obtain ⟨E', r1, r2, r3, r4, r5, r6⟩ := write_ok hc hb hg hl hR (fun u hu => by
            simp only [List.mem_flatten, List.mem_replicate] at hu
            obtain ⟨l, ⟨_, rfl⟩, hm⟩ := hu
            exact e4 u hm) (o := o) (by rw [List.length_flatten]; simp [hzl] at hfit ⊢; exact hfit) P
          refine ⟨.tuple #[], E', .d (.sc (.tuple #[])), ?_, by rw [r2]; exact h, r5, r6, rfl⟩
          have hzv : (zeroValue e).run P E.w = .ok zv E.w := by simp [zeroValue, typeInfo, e1, e2]
          simp only [Builtin.clear_, List.getElem?_toArray, List.getElem?_cons_zero, Sem.run_bind, run_underlying hu, Result.andThen_ok, hzv, Sem.run_pure]
          rw [hze', r1]
          simp
      · exact h.elim
    · rename_i z sz' hz
      rcases hx with ⟨_, rfl⟩ | ⟨a, c, rfl, hc1, hc2, hS, hR⟩
      · exact ⟨.tuple #[], E, .d (.sc (.tuple #[])), by simp [Builtin.clear_, run_underlying hu], h, hc, Ext.refl E, rfl⟩
      · exact ⟨.tuple #[], E, .d (.sc (.tuple #[])), by simp [Builtin.clear_, run_underlying hu], h, hc, Ext.refl E, rfl⟩
    · exact h.elim
  · exact h.elim
def isIntD (P : Program) (t : TypeId) : Bool := match P.underlying t with
  | some (.int _) => true
  | _ => false
/-- So many zeros appended where there is no room for them. -/
def zerosD (P : Program) (st : Store) (t u : TypeId) (s x : DV) (K : DV → Store → Prop) : Prop :=
  match slD P t, x with
  | some (e, sz), .d (.sc (.int _ m)) => match zeroD P e, P.info? e with
    | some z, some i => z.length = sz ∧ 0 < sz ∧ isIntD P u = true ∧ 0 ≤ m ∧ match s with
      | .d (.sc (.slice none 0 0)) => 0 < m ∧ (m.toNat ≤ 9007199254740992 ∧ m.toNat * i.bytes ≤ 140737488355328) ∧ K (.view sz st.length 0 0 m.toNat) (st ++ [⟨e, (List.replicate m.toNat z).flatten, true, 0, true⟩])
      | .view sz' b ver o n => match st[b]? with
        | some bx => (sz' = sz ∧ o = 0 ∧ ver = bx.ver ∧ bx.live = true ∧ bx.ty = e ∧ bx.ext = false ∧ n * sz ≤ bx.cells.length ∧ bx.cells.length < (n + m.toNat) * sz) ∧ (n + m.toNat ≤ 9007199254740992 ∧ (n + m.toNat) * i.bytes ≤ 140737488355328) ∧
            K (.view sz st.length 0 0 (n + m.toNat)) (st ++ [⟨e, bx.cells.take (n * sz) ++ (List.replicate m.toNat z).flatten, true, 0, true⟩])
        | none => False
      | _ => False
    | _, _ => False
  | _, _ => False
/-- So many zeros behind a row that is full. -/
theorem run_append_grow_zeros {P : Program} (w : World) (t tn ty e : TypeId) (i : TypeInfo) (z : Value) (k kn : IntKind) (ht : P.underlying t = some (.slice e)) (htn : P.underlying tn = some (.int kn)) (hi : P.info? e = some i) (hz : i.zero = some z)
    (b : Addr) (sLen sCap : Nat) (olds : List Value) (hlo : olds.length = sLen * i.size) (holds : ∀ (j : Nat) (v : Value), olds[j]? = some v → w.cell? (b.add j) = some v)
    (n : Nat) (hs : 0 < i.size) (hle : sLen ≤ sCap) (hg : sCap < sLen + n) (h63 : ((sLen + n : Nat) : Int) ≤ 9223372036854775807) (hfit : Builtin.nextslicecap (sLen + n) sCap * i.bytes ≤ 281474976710656) (hb : n * i.bytes ≤ 281474976710656) :
    (Builtin.append_ #[t, tn] ty #[.slice (some b) sLen sCap, .int k n]).run P w =
      .ok (.slice (some ⟨w.heap.size, 0, none⟩) (sLen + n) (grownCap w (sLen + n) sCap e)) (w.drew.alloc (.cells (olds.toArray ++ Builtin.zeroCells z.cells n ++ Builtin.zeroCells z.cells (grownCap w (sLen + n) sCap e - (sLen + n))) e)) := by
  have hn : ¬ (sLen + n ≤ sCap) := by omega
  have hw : IntKind.i64.wrap (n : Int) = n := by rw [IntKind.wrap_i64]; omega
  have h63' : ¬ (9223372036854775807 < ((sLen : Int) + (n : Int))) := by omega
  have h48' : ¬ (281474976710656 < Builtin.nextslicecap (sLen + n) sCap * i.bytes) := by omega
  have h48i : ¬ (281474976710656 < (n : Int) * (i.bytes : Int)) := by
    rw [← Int.natCast_mul]
    omega
  have hneg : ¬ ((n : Int) < 0) := by omega
  have hfo := run_firstCells_some (P := P) w.drew i.size sLen b sLen sCap olds hlo (by simpa using holds)
  have hn0 : n ≠ 0 := by omega
  have hns : ¬ (n * i.size = 0) := Nat.mul_ne_zero hn0 (by omega)
  simp [Builtin.append_, run_underlying ht, run_underlying htn, sizeOf, typeInfo, zeroValue, hi, hz, asInt, asIntOf, hw, hn, hneg, hns, hn0, h63', h48', h48i, Question.forced, hfo, newRow, grownCap]
theorem zeros_list {z : Array Value} {n : Nat} (hz : 0 < z.size) : (Builtin.zeroCells z n).toList = (List.replicate n z.toList).flatten := by rw [← zeros_eq z n hz]; rfl
theorem zeros_ok {P : Program} {E : Env} (hc : Conc E) {t u ty : TypeId} {s x : DV} {v vx : Value} (hs : Rep E s v) (hx : Rep E x vx) {K : DV → Store → Prop} (h : zerosD P E.st t u s x K) :
    Ends P E (Builtin.append_ #[t, u] ty #[v, vx]) K := by
  unfold zerosD at h
  split at h
  · rename_i e sz km m hsl
    simp only [Rep, RepP] at hx; subst hx
    split at h
    · rename_i z i hz hi
      obtain ⟨hzl, hpos, hint, hm0, h⟩ := h
      obtain ⟨zv, i', e1, e2, e3, e4, e5, rfl⟩ := zeroD_spec hz
      rw [hi] at e1
      cases e1
      obtain ⟨hu, ⟨i2, hi2, hisz⟩, hsz⟩ := slD_spec hsl
      rw [hi] at hi2
      cases hi2
      subst hisz
      obtain ⟨kn, hun⟩ : ∃ kn, P.underlying u = some (.int kn) := by
        unfold isIntD at hint
        split at hint
        · rename_i k hk; exact ⟨k, hk⟩
        · cases hint
      obtain ⟨k, rfl⟩ : ∃ k : Nat, m = k := ⟨m.toNat, by omega⟩
      simp only [Int.toNat_natCast] at h
      have hzl' := zeros_list (n := k) (z := zv.cells) (by omega)
      have hR := reps_flat (E := E) _ _ (zero_reps E zv.cells.toList) k
      have hone : ∀ u ∈ (List.replicate k zv.cells.toList).flatten, u.oneCell' = true := fun u hu => by
        simp only [List.mem_flatten, List.mem_replicate] at hu
        obtain ⟨l, ⟨_, rfl⟩, hm⟩ := hu
        exact e4 u hm
      have hlz : (List.replicate k zv.cells.toList).flatten.length = k * i.size := by rw [← hzl', Array.length_toList, size_zeroCells, e3]
      have hw : IntKind.i64.wrap (k : Int) = k := by rw [IntKind.wrap_i64]; split at h <;> first | omega | exact h.elim | (split at h <;> first | omega | exact h.elim)
      have hneg : ¬ ((k : Int) < 0) := by omega
      split at h
      · obtain ⟨hk, ⟨hm1, hm2⟩, h⟩ := h
        simp only [Rep, RepP] at hs; subst hs
        have hr := Go.Lib.run_append_nil_zeros (P := P) E.w t u ty e i zv km kn hu hun hi e2 k (by omega) (by omega) (by omega) (by omega)
        have hge := grownCap_ge E.w k 0 e
        have hcm : grownCap E.w k 0 e ≤ maxLen := grownCap_le_maxLen E.w k 0 e (by simp only [maxLen]; omega)
        have hsize : (Builtin.zeroCells zv.cells k ++ Builtin.zeroCells zv.cells (grownCap E.w k 0 e - k)).size = grownCap E.w k 0 e * i.size := by
          rw [Array.size_append, size_zeroCells, size_zeroCells, e3, ← Nat.add_mul]; congr 1; omega
        have hmono : k * i.size ≤ grownCap E.w k 0 e * i.size := Nat.mul_le_mul_right _ hge
        obtain ⟨c1, c2⟩ := newBoxAt hc (E.w.drew.alloc (.cells (Builtin.zeroCells zv.cells k ++ Builtin.zeroCells zv.cells (grownCap E.w k 0 e - k)) e)) E.w.heap.size (Nat.le_refl _) (by simp) rfl rfl rfl (fun j hj => heap_alloc_old E.w.drew _ hj) _ e (List.replicate k (zv.cells.toList.map fun v => DV.d (.sc v))).flatten true (heap_alloc_new E.w.drew _) (by rw [hR.length, hlz, hsize]; exact hmono) (fun h => by cases h) trivial
          (fun j d hj => by
            obtain ⟨u, q1, q2⟩ := hR.get _ _ j d hj
            refine ⟨u, ?_, oneL hone q1, q2⟩
            rw [← Array.getElem?_toList, Array.toList_append, hzl', List.getElem?_append_left (List.getElem?_eq_some_iff.1 q1).1]
            exact q1)
          (fun j u hj => by
            rw [← Array.getElem?_toList, Array.toList_append] at hj
            rcases List.mem_append.1 (List.mem_of_getElem? hj) with hh | hh
            · exact e4 u (zeroCells_mem (by omega) hh)
            · exact e4 u (zeroCells_mem (by omega) hh))
        refine ⟨_, _, .view i.size E.st.length 0 0 k, hr, h, c1, c2, ?_⟩
        have := view_new E (E.w.drew.alloc (.cells (Builtin.zeroCells zv.cells k ++ Builtin.zeroCells zv.cells (grownCap E.w k 0 e - k)) e)) E.S E.w.heap.size (Builtin.zeroCells zv.cells k ++ Builtin.zeroCells zv.cells (grownCap E.w k 0 e - k)).size i.size k (grownCap E.w k 0 e) ⟨e, (List.replicate k (zv.cells.toList.map fun v => DV.d (.sc v))).flatten, true, 0, true⟩ hc.len hsize.symm (by omega) hcm
        simpa using this
      · rename_i sz' b ver o n
        split at h
        · rename_i bx hb'
          obtain ⟨⟨rfl, rfl, rfl, hl, hty', hext, hcl, hgr⟩, ⟨hn1, hn2⟩, h⟩ := h
          obtain ⟨bx', gz, hb, hg, hone', hle, hv⟩ := hs
          rw [hb] at hb'
          cases hb'
          obtain ⟨c, rfl, hc1, hc2, hc3⟩ := hv rfl
          obtain ⟨cur, a1, a2, a3, a4, a5, a6, a7, a8⟩ := hc.box b bx gz.1 gz.2 hb hg hl
          have hexact := a4 hext
          have hlt : c < n + k := by
            rw [hexact, ← hc3, Nat.zero_add] at hgr
            exact Nat.lt_of_mul_lt_mul_right hgr
          have hxl : (cur.toList.take (n * i.size)).length = n * i.size := by simp; omega
          have holds : ∀ (j : Nat) (u : Value), (cur.toList.take (n * i.size))[j]? = some u → E.w.cell? ((⟨gz.1, 0, none⟩ : Addr).add j) = some u := fun j u hj => by
            rw [List.getElem?_take] at hj
            split at hj
            · have hadd : (⟨gz.1, 0, none⟩ : Addr).add j = ⟨gz.1, j, none⟩ := by unfold Addr.add; split <;> simp_all
              rw [hadd]
              simp only [World.cell?, a1]
              simpa using hj
            · cases hj
          have hr := run_append_grow_zeros (P := P) E.w t u ty e i zv km kn hu hun hi e2 ⟨gz.1, 0, none⟩ n c (cur.toList.take (n * i.size)) hxl holds k hpos hc1 hlt (by omega) (growslice_fits (by omega) hn2) (by have := Nat.mul_le_mul_right i.bytes (Nat.le_add_left k n); omega)
          have hge := grownCap_ge E.w (n + k) c e
          have hcm : grownCap E.w (n + k) c e ≤ maxLen := grownCap_le_maxLen E.w (n + k) c e (by simp only [maxLen]; omega)
          have hsize : ((cur.toList.take (n * i.size)).toArray ++ Builtin.zeroCells zv.cells k ++ Builtin.zeroCells zv.cells (grownCap E.w (n + k) c e - (n + k))).size = grownCap E.w (n + k) c e * i.size := by
            rw [Array.size_append, Array.size_append, size_zeroCells, size_zeroCells, e3, List.size_toArray, hxl, ← Nat.add_mul, ← Nat.add_mul]; congr 1; omega
          have hmono : (n + k) * i.size ≤ grownCap E.w (n + k) c e * i.size := Nat.mul_le_mul_right _ hge
          have htk2 : (bx.cells.take (n * i.size)).length = n * i.size := by simp; omega
          obtain ⟨c1, c2⟩ := newBoxAt hc (E.w.drew.alloc (.cells ((cur.toList.take (n * i.size)).toArray ++ Builtin.zeroCells zv.cells k ++ Builtin.zeroCells zv.cells (grownCap E.w (n + k) c e - (n + k))) e)) E.w.heap.size (Nat.le_refl _) (by simp) rfl rfl rfl (fun j hj => heap_alloc_old E.w.drew _ hj) _ e (bx.cells.take (n * i.size) ++ (List.replicate k (zv.cells.toList.map fun v => DV.d (.sc v))).flatten) true (heap_alloc_new E.w.drew _) (by rw [List.length_append, hR.length, hlz, htk2, hsize, ← Nat.add_mul]; exact hmono) (fun h => by cases h) trivial
            (fun j d hj => by
              rw [← Array.getElem?_toList, Array.toList_append, Array.toList_append, hzl', List.append_assoc]
              rw [List.getElem?_append] at hj
              split at hj
              · rename_i hjl
                rw [List.getElem?_take] at hj
                rw [if_pos (by omega)] at hj
                obtain ⟨u, q1, q2, q3⟩ := a7 j d hj
                refine ⟨u, ?_, q2, q3⟩
                rw [List.getElem?_append_left (by simp only [List.length_take, Array.length_toList] at hxl ⊢; omega), List.getElem?_take, if_pos (by omega)]
                simpa using q1
              · rename_i hjl
                obtain ⟨u, q1, q2⟩ := hR.get _ _ _ d hj
                refine ⟨u, ?_, oneL hone q1, q2⟩
                rw [List.getElem?_append_right (by simp only [List.length_take, Array.length_toList] at hxl ⊢; omega)]
                rw [show (cur.toList.take (n * i.size)).toArray.toList.length = (bx.cells.take (n * i.size)).length by rw [htk2]; simpa using hxl, List.getElem?_append_left (List.getElem?_eq_some_iff.1 q1).1]
                exact q1)
            (fun j u hj => by
              rw [← Array.getElem?_toList, Array.toList_append, Array.toList_append] at hj
              rcases List.mem_append.1 (List.mem_of_getElem? hj) with hh | hh
              · rcases List.mem_append.1 hh with hh | hh
                · obtain ⟨k, hk⟩ := List.mem_iff_getElem?.1 (List.mem_of_mem_take hh)
                  exact a8 k u (by simpa using hk)
                · exact e4 u (zeroCells_mem (by omega) hh)
              · exact e4 u (zeroCells_mem (by omega) hh))
          refine ⟨_, _, .view i.size E.st.length 0 0 (n + k), hr, h, c1, c2, ?_⟩
          have := view_new E (E.w.drew.alloc (.cells ((cur.toList.take (n * i.size)).toArray ++ Builtin.zeroCells zv.cells k ++ Builtin.zeroCells zv.cells (grownCap E.w (n + k) c e - (n + k))) e)) E.S E.w.heap.size ((cur.toList.take (n * i.size)).toArray ++ Builtin.zeroCells zv.cells k ++ Builtin.zeroCells zv.cells (grownCap E.w (n + k) c e - (n + k))).size i.size (n + k) (grownCap E.w (n + k) c e) ⟨e, bx.cells.take (n * i.size) ++ (List.replicate k (zv.cells.toList.map fun v => DV.d (.sc v))).flatten, true, 0, true⟩ hc.len hsize.symm (by omega) hcm
          simpa using this
        · exact h.elim
      · exact h.elim
    · exact h.elim
  · exact h.elim
/-- Do two rows overlap? Not in two boxes. -/
structure OvlF (P : Program) (f : FuncId) : Prop where
  of : ∃ fn tS tR e, P.funcs[f]? = some fn ∧ (fn.name == "runtime.NumGoroutine") = false ∧ fn.body.isNone = true ∧ Extern.findNext fn = none ∧ Extern.find fn = some (Extern.SlicesOverlaps.overlaps #[tS, tS] #[tR]) ∧ P.underlying tS = some (.slice e) ∧ (P.info? e).isSome = true
def ovlD (P : Program) (f : FuncId) (args : List DV) (st : Store) (K : DV → Store → Prop) : Prop :=
  OvlF P f ∧ match args with
  | [.view _ b v _ _, .view _ b' v' _ _] => match st[b]?, st[b']? with
    | some bx, some bx' => v = bx.ver ∧ v' = bx'.ver ∧ bx.live = true ∧ bx'.live = true ∧ b ≠ b' ∧ bx'.cells ≠ [] ∧ K (boolD false) st
    | _, _ => False
  | _ => False
theorem ovl_ok {P : Program} {E : Env} (hc : Conc E) {f : FuncId} {args : List DV} {vs : List Value} (hr : Reps E args vs) {K : DV → Store → Prop} (h : ovlD P f args E.st K) : ∃ v d, (callFunc f vs.toArray).run P E.w = .ok (.value v) E.w ∧ K d E.st ∧ Rep E d v := by
  obtain ⟨⟨fn, tS, tR, e, q1, q2, q3, q4, q5, q6, q7⟩, h⟩ := h
  obtain ⟨i, q7⟩ := Option.isSome_iff_exists.1 q7
  split at h
  · rename_i z1 b v o n z2 b' v' o' n'
    split at h
    · rename_i bx bx' hb hb'
      obtain ⟨rfl, rfl, hl, hl', hne, hcs, hk⟩ := h
      rcases vs with _ | ⟨x, _ | ⟨y, _ | ⟨_, _⟩⟩⟩
      · exact hr.elim
      · exact hr.2.elim
      · obtain ⟨⟨b1, gz, hb1, hg, _, _, hv⟩, ⟨b2, gz', hb2, hg', _, _, hv'⟩, _⟩ := hr
        rw [hb] at hb1; cases hb1
        rw [hb'] at hb2; cases hb2
        obtain ⟨c, rfl, _, _, _⟩ := hv rfl
        obtain ⟨c', rfl, _, _, _⟩ := hv' rfl
        obtain ⟨cur, a1, a2, _, _, _, _, _, _⟩ := hc.box b bx gz.1 gz.2 hb hg hl
        obtain ⟨cur', a1', a2', a3', _, _, _, _, _⟩ := hc.box b' bx' gz'.1 gz'.2 hb' hg' hl'
        have hbl : gz.1 ≠ gz'.1 := fun e => hne (hc.inj b b' gz.1 gz.2 gz'.1 gz'.2 hg hg' e)
        have hk0 : cur'.size ≠ 0 := by
          have : bx'.cells.length ≠ 0 := fun e => hcs (List.eq_nil_of_length_eq_zero e)
          omega
        have hrun := Go.Lib.run_overlaps_apart (P := P) E.w tS tR e q6 i.size (fun w => by simp [sizeOf, typeInfo, q7]) ⟨gz.1, o, none⟩ ⟨gz'.1, o', none⟩ n c n' c' hbl bx.ty bx'.ty cur.size cur'.size
          (by simp [World.shape?, a1]) (by simp [World.shape?, a1']) hk0 (by simp [World.frozen?, a1]) (by simp [World.frozen?, a1])
        refine ⟨.bool false, boolD false, ?_, hk, rfl⟩
        rw [run_callFunc_extern q1 q2 q3 q4 q5]
        rw [hrun]
        rfl
      · exact hr.2.2.elim
    · exact h.elim
  · exact h.elim
/-- A call. -/
def callD (P : Program) (c : Call) (s : Slots) (st : Store) (K : DV → Store → Prop) : Prop :=
  match c.callee, c.args.toList, c.argTypes.toList with
  | .builtin .len, [x], [t] => lenD P st t (ev s x) fun d => K d st
  | .builtin .append, [x, y], [t, u] => appendD P st t u (ev s x) (ev s y) K ∨ append2D P st t u (ev s x) (ev s y) K ∨ zerosD P st t u (ev s x) (ev s y) K
  | .builtin .copy, [x, y], [t, u] => copyD P st t u (ev s x) (ev s y) K
  | .builtin .max, [x, y], _ => mmD true (ev s x) (ev s y) fun d => K d st
  | .builtin .min, [x, y], _ => mmD false (ev s x) (ev s y) fun d => K d st
  | .builtin .cap, [x], [t] => capD P st t (ev s x) fun d => K d st
  | .builtin .clear, [x], [t] => clearD P st t (ev s x) K
  | .value (.func f), args, _ => (hasBody P f = true ∧ FnD P f (args.map (ev s)) st K) ∨ ovlD P f (args.map (ev s)) st K
  | .value (.tmp t), args, _ => match s t with
    | .fn f caps => hasBody P f = true ∧ FnD P f (args.map (ev s) ++ caps) st K
    | _ => False
  | _, _, _ => False
/-- One operation. -/
def opD (P : Program) (o : Op) (s : Slots) (st : Store) (K : DV → Store → Prop) : Prop :=
  match o with
  | .move x => K (ev s x) st
  | .assign x => K (ev s x) st
  | .pick c a b => pickD (ev s c) (ev s a) (ev s b) fun d => K d st
  | .alloc t => allocD P st t K
  | .box t x => boxD st t (ev s x) K
  | .build t parts => buildD P t (parts.toList.map fun p => (p.1, ev s p.2)) fun d => K d st
  | .buildSlice t len parts => buildSliceD P st t len (parts.toList.map fun p => (p.1, ev s p.2)) K ∨ buildSetD P t len (parts.toList.map fun p => (p.1, ev s p.2)) fun d => K d st
  | .load t a => loadD P st t (ev s a) fun d => K d st
  | .store t a x => storeD P st t (ev s a) (ev s x) fun st' => K (.d (.sc undef)) st'
  | .nilCheck x => isRefD st (ev s x) = true ∧ K (ev s x) st
  | .binOp op t x y _ => binD P st op t (ev s x) (ev s y) fun d => K d st
  | .unOp op _ x => unD op (ev s x) fun d => K d st
  | .convert src dst x => convD P src dst (ev s x) fun d => K d st
  | .makeSlice t l c => makeD P st t (ev s l) (ev s c) K
  | .slice t x lo hi none => sliceD P st t (ev s x) (lo.map (ev s)) (hi.map (ev s)) fun d => K d st
  | .slice t x lo (some hi) (some mx) => slice3D P st t (ev s x) (lo.map (ev s)) (ev s hi) (ev s mx) fun d => K d st
  | .fieldAddr t x f => fieldAddrD P st t (ev s x) f fun d => K d st
  | .field t x f => fieldVD P t (ev s x) f fun d => K d st
  | .indexAddr t x i => indexAddrD P st t (ev s x) (ev s i) fun d => K d st
  | .index t x i => indexD P t (ev s x) (ev s i) fun d => K d st
  | .extract x i => extractD (ev s x) i fun d => K d st
  | .makeFunc (.func f) first captured => first.toList = [] ∧ K (.fn f (captured.toList.map (ev s))) st
  | .call c => callD P c s st K
  | _ => False
theorem evs_rep {E : Env} {N : Nat} {s : Slots} {a : Act} (h : SlotsOk E N s a) : ∀ xs : List Operand, Reps E (xs.map (ev s)) (xs.map a.eval)
  | [] => trivial
  | x :: xs => ⟨ev_rep h x, evs_rep h xs⟩
/-- What an operation comes to. -/
theorem op_ok {P : Program} {E : Env} {N : Nat} {s : Slots} {a : Act} (hc : Conc E) (hs : SlotsOk E N s a) (o : Oper) {K : DV → Store → Prop} (h : opD P o.op s E.st K) {next : Act → World → Prop} {Q : Exit → Act → World → Prop}
    (hn : ∀ (d : DV) (v : Value) (E' : Env), K d E'.st → Conc E' → Ext E E' → Rep E' d v → next (a.put o.dst v) E'.w) : o.wp P a E.w next Q := by
  have val : ∀ {c : Sem Value}, (execOp a.eval o = (do pure (.value (← c)) : Sem Next)) → Ends P E c K → o.wp P a E.w next Q := by
    intro c he ⟨v, E', d, h1, h2, h3, h4, h5⟩
    unfold Oper.wp
    rw [he]
    simp only [Sem.run_bind, h1, Result.andThen_ok, Sem.run_pure, Oper.upon]
    exact hn d v E' h2 h3 h4 h5
  unfold opD at h
  split at h
  · rename_i x ho
    exact val (c := pure (a.eval x)) (by simp only [execOp, ho, pure_bind]) (Ends.pure hc ⟨_, _, rfl, h, ev_rep hs x⟩)
  · rename_i x ho
    exact val (c := pure (a.eval x)) (by simp only [execOp, ho, pure_bind]) (Ends.pure hc ⟨_, _, rfl, h, ev_rep hs x⟩)
  · rename_i c x y ho
    obtain ⟨q, d, h1, h2, h3⟩ := pick_ok (P := P) (ev_rep hs c) (ev_rep hs x) (ev_rep hs y) h
    unfold Oper.wp
    simp only [execOp, ho]
    rw [h1]
    exact hn d q E h2 hc (Ext.refl E) h3
  · rename_i t ho
    exact val (by simp only [execOp, ho]) (alloc_ok hc h)
  · rename_i t x ho
    exact val (by simp only [execOp, ho]) (box_ok hc (ev_rep hs x) h)
  · rename_i t parts ho
    refine val (c := Instr.build t (parts.map fun p => (p.1, a.eval p.2))) (by simp only [execOp, ho]) (Ends.pure hc ?_)
    have := build_ok (P := P) (E := E) (t := t) (parts := parts.toList.map fun p => (p.1, ev s p.2)) (vparts := parts.toList.map fun p => (p.1, a.eval p.2)) (by simp) (fun j p q hp hq => by
      rw [List.getElem?_map] at hp hq
      cases hj : parts.toList[j]? with
      | none => rw [hj] at hp; cases hp
      | some r =>
        rw [hj] at hp hq
        simp only [Option.map_some, Option.some.injEq] at hp hq
        subst hp; subst hq
        exact ⟨rfl, ev_rep hs r.2⟩) h
    have he : (parts.toList.map fun p => (p.1, a.eval p.2)).toArray = parts.map fun p => (p.1, a.eval p.2) := by apply Array.ext'; simp
    rwa [he] at this
  · rename_i t len parts ho
    refine val (c := Instr.buildSlice t len (parts.map fun p => (p.1, a.eval p.2))) (by simp only [execOp, ho]) ?_
    rcases h with h | h
    · have := buildSlice_ok (P := P) hc (t := t) (len := len) (parts := parts.toList.map fun p => (p.1, ev s p.2)) (vparts := parts.toList.map fun p => (p.1, a.eval p.2)) (by simp) (fun j p q hp hq => by
        rw [List.getElem?_map] at hp hq
        cases hj : parts.toList[j]? with
        | none => rw [hj] at hp; cases hp
        | some r =>
          rw [hj] at hp hq
          simp only [Option.map_some, Option.some.injEq] at hp hq
          subst hp; subst hq
          exact ⟨rfl, ev_rep hs r.2⟩) h
      have he : (parts.toList.map fun p => (p.1, a.eval p.2)).toArray = parts.map fun p => (p.1, a.eval p.2) := by apply Array.ext'; simp
      rwa [he] at this
    · have := buildSet_ok (P := P) hc (t := t) (len := len) (parts := parts.toList.map fun p => (p.1, ev s p.2)) (vparts := parts.toList.map fun p => (p.1, a.eval p.2)) (by simp) (fun j p q hp hq => by
        rw [List.getElem?_map] at hp hq
        cases hj : parts.toList[j]? with
        | none => rw [hj] at hp; cases hp
        | some r =>
          rw [hj] at hp hq
          simp only [Option.map_some, Option.some.injEq] at hp hq
          subst hp; subst hq
          exact ⟨rfl, ev_rep hs r.2⟩) h
      have he : (parts.toList.map fun p => (p.1, a.eval p.2)).toArray = parts.map fun p => (p.1, a.eval p.2) := by apply Array.ext'; simp
      rwa [he] at this
  · rename_i t x ho
    exact val (by simp only [execOp, ho]) (Ends.pure hc (load_ok hc (ev_rep hs x) h))
  · rename_i t x y ho
    obtain ⟨E', h1, h2, h3, h4⟩ := store_ok hc (ev_rep hs x) (ev_rep hs y) h
    unfold Oper.wp
    simp only [execOp, ho, Sem.run_bind, h1, Result.andThen_ok, Sem.run_pure, Oper.upon]
    exact hn _ undef E' h2 h3 h4 rfl
  · rename_i x ho
    obtain ⟨hr, h⟩ := h
    have hx := ev_rep hs x
    refine val (c := pure (a.eval x)) ?_ (Ends.pure hc ⟨_, _, rfl, h, hx⟩)
    unfold isRefD at hr
    simp only [execOp, ho, pure_bind]
    split at hr
    · rename_i b ver o' heq
      rw [heq] at hx
      obtain ⟨bx, gz, hb, _, _, _, hv⟩ := hx
      split at hr
      · rename_i bx' hb'
        rw [hb] at hb'; cases hb'
        rw [hv (by simpa using (beq_iff_eq.1 hr).symm)]
      · cases hr
    · rename_i cs heq
      rw [heq] at hx
      obtain ⟨ad, hv, _⟩ := hx
      rw [hv]
    · rename_i f caps heq
      rw [heq] at hx
      obtain ⟨vs, hv, _⟩ := hx
      rw [hv]
    · cases hr
  · rename_i op t x y _ ho
    exact val (c := do eqGuard op t x y (a.eval x) (a.eval y); binOp op t (a.eval x) (a.eval y)) (by simp only [execOp, ho]) (Ends.pure hc (bin_ok (ev_rep hs x) (ev_rep hs y) x y h))
  · rename_i op _ x ho
    exact val (by simp only [execOp, ho]) (Ends.pure hc (un_ok (ev_rep hs x) h))
  · rename_i src dst x ho
    exact val (by simp only [execOp, ho]) (Ends.pure hc (conv_ok (ev_rep hs x) h))
  · rename_i t l c ho
    exact val (by simp only [execOp, ho]) (make_ok hc (ev_rep hs l) (ev_rep hs c) h)
  · rename_i t x lo hi ho
    exact val (c := Instr.sliceAt t (a.eval x) (lo.map a.eval) (hi.map a.eval) none) (by simp only [execOp, ho, Option.map_none]) (Ends.pure hc (slice_ok hc (ev_rep hs x) (by cases lo with
      | none => trivial
      | some l => exact ev_rep hs l) (by cases hi with
      | none => trivial
      | some l => exact ev_rep hs l) h))
  · rename_i t x lo hi mx ho
    exact val (c := Instr.sliceAt t (a.eval x) (lo.map a.eval) (some (a.eval hi)) (some (a.eval mx))) (by simp only [execOp, ho, Option.map_some]) (Ends.pure hc (slice3_ok (ev_rep hs x) (by cases lo with
      | none => trivial
      | some l => exact ev_rep hs l) (ev_rep hs hi) (ev_rep hs mx) h))
  · rename_i t x f ho
    exact val (by simp only [execOp, ho]) (Ends.pure hc (fieldAddr_ok (ev_rep hs x) h))
  · rename_i t x f ho
    refine val (c := Instr.field t (a.eval x) f) (by simp only [execOp, ho]) (Ends.pure hc ?_)
    unfold fieldVD at h
    have hx := ev_rep hs x
    split at h
    · rename_i fs cs hu heq
      rw [heq] at hx
      obtain ⟨vs, hv, hone, hR⟩ := hx
      split at h
      · rename_i fl hfl
        obtain ⟨u, d, h1, h2, h3⟩ := part_ok hR hone h
        exact ⟨u, d, by simp only [Instr.field, Sem.run_bind, run_underlying hu, Result.andThen_ok, hfl, hv, asAgg, Sem.run_pure, h1], h2, h3⟩
      · exact h.elim
    · exact h.elim
  · rename_i t x i ho
    exact val (by simp only [execOp, ho]) (Ends.pure hc (indexAddr_ok (ev_rep hs x) (ev_rep hs i) h))
  · rename_i t x i ho
    exact val (by simp only [execOp, ho]) (Ends.pure hc (index_ok (ev_rep hs x) (ev_rep hs i) h))
  · rename_i x i ho
    refine val (c := Instr.extract (a.eval x) i) (by simp only [execOp, ho]) (Ends.pure hc ?_)
    have hx := ev_rep hs x
    unfold extractD at h
    split at h
    · rename_i ds heq
      rw [heq] at hx
      obtain ⟨vs, hv, hR⟩ := hx
      split at h
      · rename_i d hd
        obtain ⟨u, h1, h2⟩ := hR.get _ _ _ _ hd
        exact ⟨u, d, by simp [Instr.extract, hv, h1], h, h2⟩
      · exact h.elim
    · exact h.elim
  · rename_i f first captured ho
    obtain ⟨hf, h⟩ := h
    have hf' : first = #[] := by apply Array.ext'; simpa using hf
    subst hf'
    refine val (c := Instr.makeFunc (.func f) (#[].map a.eval) (captured.map a.eval)) (by simp only [execOp, ho]) (Ends.pure hc ⟨.func (.func f) #[] (captured.toList.map a.eval).toArray, _, ?_, h, _, rfl, evs_rep hs _⟩)
    have he : (captured.toList.map a.eval).toArray = captured.map a.eval := by apply Array.ext'; simp
    rw [he]
    simp [Instr.makeFunc]
  · rename_i c ho
    unfold callD at h
    split at h
    · rename_i x t hcal hargs htys
      refine val (c := Builtin.len_ #[t] o.type #[a.eval x]) ?_ (Ends.pure hc (len_ok (ev_rep hs x) h))
      have ha : c.args = #[x] := by apply Array.ext'; simpa using hargs
      have ht : c.argTypes = #[t] := by apply Array.ext'; simpa using htys
      simp [execOp, ho, resolve, hcal, invoke, builtin, ha, ht]
    · rename_i x y t u hcal hargs htys
      refine val (c := Builtin.append_ #[t, u] o.type #[a.eval x, a.eval y]) ?_ (by
        rcases h with h | h | h
        · exact append_ok hc (ev_rep hs x) (ev_rep hs y) h
        · exact append2_ok hc (ev_rep hs x) (ev_rep hs y) h
        · exact zeros_ok hc (ev_rep hs x) (ev_rep hs y) h)
      have ha : c.args = #[x, y] := by apply Array.ext'; simpa using hargs
      have ht : c.argTypes = #[t, u] := by apply Array.ext'; simpa using htys
      simp [execOp, ho, resolve, hcal, invoke, builtin, ha, ht]
    · rename_i x y t u hcal hargs htys
      refine val (c := Builtin.copy_ #[t, u] o.type #[a.eval x, a.eval y]) ?_ (copy_ok hc (ev_rep hs x) (ev_rep hs y) h)
      have ha : c.args = #[x, y] := by apply Array.ext'; simpa using hargs
      have ht : c.argTypes = #[t, u] := by apply Array.ext'; simpa using htys
      simp [execOp, ho, resolve, hcal, invoke, builtin, ha, ht]
    · rename_i x y hcal hargs
      refine val (c := Builtin.max_ c.argTypes o.type #[a.eval x, a.eval y]) ?_ (Ends.pure hc (max_ok (ev_rep hs x) (ev_rep hs y) h))
      have ha : c.args = #[x, y] := by apply Array.ext'; simpa using hargs
      simp [execOp, ho, resolve, hcal, invoke, builtin, ha]
    · rename_i x y hcal hargs
      refine val (c := Builtin.min_ c.argTypes o.type #[a.eval x, a.eval y]) ?_ (Ends.pure hc (min_ok (ev_rep hs x) (ev_rep hs y) h))
      have ha : c.args = #[x, y] := by apply Array.ext'; simpa using hargs
      simp [execOp, ho, resolve, hcal, invoke, builtin, ha]
    · rename_i x t hcal hargs htys
      refine val (c := Builtin.cap_ #[t] o.type #[a.eval x]) ?_ (Ends.pure hc (cap_ok hc (ev_rep hs x) h))
      have ha : c.args = #[x] := by apply Array.ext'; simpa using hargs
      have ht : c.argTypes = #[t] := by apply Array.ext'; simpa using htys
      simp [execOp, ho, resolve, hcal, invoke, builtin, ha, ht]
    · rename_i x t hcal hargs htys
      refine val (c := Builtin.clear_ #[t] o.type #[a.eval x]) ?_ (clear_ok hc (ev_rep hs x) h)
      have ha : c.args = #[x] := by apply Array.ext'; simpa using hargs
      have ht : c.argTypes = #[t] := by apply Array.ext'; simpa using htys
      simp [execOp, ho, resolve, hcal, invoke, builtin, ha, ht]
    · rename_i f hcal
      rcases h with ⟨hb, h⟩ | h
      rotate_left
      · obtain ⟨v, d, h1, h2, h3⟩ := ovl_ok hc (evs_rep hs c.args.toList) h
        unfold Oper.wp
        have ha : (c.args.toList.map a.eval).toArray = c.args.map a.eval := by apply Array.ext'; simp
        rw [ha] at h1
        have he : (execOp a.eval o).run P E.w = .ok (.value v) E.w := by
          simp [execOp, ho, resolve, hcal, invoke, Deferred.ofValue, Act.eval, h1]
        rw [he]
        exact hn d v E h2 hc (Ext.refl E) h3
      have hF := h E _ hc rfl (evs_rep hs c.args.toList)
      have ha : (c.args.toList.map a.eval).toArray = c.args.map a.eval := by apply Array.ext'; simp
      rw [ha] at hF
      unfold Oper.wp
      have he : (execOp a.eval o).run P E.w = .ok (.enter f (c.args.map a.eval)) E.w := by
        simp [execOp, ho, resolve, hcal, invoke, Deferred.ofValue, Act.eval, callFunc_run hb]
      rw [he, Oper.upon_enter]
      refine hF.mono ?_
      rintro e w' ⟨v, E', r, rfl, rfl, h1, h2, h3, h4⟩
      exact hn r v E' h1 h2 h3 h4
    · rename_i t hcal
      split at h
      · rename_i f caps heq
        obtain ⟨hb, h⟩ := h
        have hx := hs.rep t
        rw [heq] at hx
        obtain ⟨vs, hv, hR⟩ := hx
        have hF := h E _ hc rfl (Reps.append _ _ _ _ (evs_rep hs c.args.toList) hR)
        have ha : (c.args.toList.map a.eval ++ vs).toArray = c.args.map a.eval ++ vs.toArray := by apply Array.ext'; simp
        rw [ha] at hF
        unfold Oper.wp
        have he : (execOp a.eval o).run P E.w = .ok (.enter f (c.args.map a.eval ++ vs.toArray)) E.w := by
          have hev : a.eval (.tmp t) = .func (.func f) #[] vs.toArray := hv
          simp [execOp, ho, resolve, hcal, invoke, hev, Deferred.ofValue, callFunc_run hb]
        rw [he, Oper.upon_enter]
        refine hF.mono ?_
        rintro e w' ⟨v, E', r, rfl, rfl, h1, h2, h3, h4⟩
        exact hn r v E' h1 h2 h3 h4
      · exact h.elim
    · exact h.elim
  · exact h.elim
end Go.Proofs.Ytadnpgkddgbhkaa
namespace Go.Proofs.Ytadnpgkddgbhkaa
open Go.RowKit
set_option linter.all false
noncomputable def putS (dst : Option Nat) (d : DV) (s : Slots) : Slots := match dst with
  | none => s
  | some i => upd s i d
def slotOf (ops : Array Oper) (j : Nat) : Option Nat := (ops[j]?).bind (·.dst)
/-- Is the operation wanted? -/
def wantedD (ops : Array Oper) (g : Option (Nat × Bool)) (s : Slots) : Option Bool :=
  match g with
  | none => some true
  | some (j, w) => match slotOf ops j with
    | none => some false
    | some k => match s k with
      | .d (.sc (.bool t)) => some (t == w)
      | .d (.sc (.tuple _)) => some false
      | _ => none
def dstOk (N : Nat) (dst : Option Nat) : Prop := match dst with
  | none => True
  | some i => i < N
/-- One operation with its guard and its slot. -/
def stepD (P : Program) (N : Nat) (ops : Array Oper) (o : Oper) (s : Slots) (st : Store) (K : Slots → Store → Prop) : Prop :=
  match wantedD ops o.guard s with
  | some true => dstOk N o.dst ∧ opD P o.op s st fun d st' => K (putS o.dst d s) st'
  | some false => dstOk N o.dst ∧ K (putS o.dst (.d (.sc undef)) s) st
  | none => False
theorem SlotsOk.putS {E : Env} {N : Nat} {s : Slots} {a : Act} (h : SlotsOk E N s a) {dst : Option Nat} (hd : dstOk N dst) {d : DV} {v : Value} (hv : Rep E d v) : SlotsOk E N (Go.Proofs.Ytadnpgkddgbhkaa.putS dst d s) (a.put dst v) := by
  cases dst with
  | none => exact h.put' v
  | some i => exact h.put hd hv
theorem wantedD_spec {E : Env} {N : Nat} {s : Slots} {a : Act} (h : SlotsOk E N s a) {ops : Array Oper} {o : Oper} {b : Bool} (hw : wantedD ops o.guard s = some b) : Region.wanted o (yielded ops a.tmps) = b := by
  unfold wantedD at hw
  unfold Region.wanted yielded
  split at hw
  · rename_i hg
    rw [hg]
    cases hw
    rfl
  · rename_i j w hg
    rw [hg]
    simp only
    unfold slotOf at hw
    split at hw
    · rename_i hs
      rw [hs]
      cases hw
      rfl
    · rename_i k hs
      rw [hs]
      simp only [Option.bind_some]
      have hk := h.rep k
      split at hw
      · rename_i t ht
        rw [ht] at hk
        simp only [Rep, RepP] at hk
        cases hw
        rw [Array.getD_eq_getD_getElem?] at hk
        cases hq : a.tmps[k]? with
        | none => rw [hq] at hk; cases hk
        | some u =>
          rw [hq] at hk
          simp only [Option.getD_some] at hk
          subst hk
          cases t <;> cases w <;> rfl
      · rename_i vs ht
        rw [ht] at hk
        simp only [Rep, RepP] at hk
        cases hw
        rw [Array.getD_eq_getD_getElem?] at hk
        cases hq : a.tmps[k]? with
        | none => rfl
        | some u =>
          rw [hq] at hk
          simp only [Option.getD_some] at hk
          subst hk
          rfl
      · cases hw
/-- What a step comes to. -/
theorem step_ok {P : Program} {E : Env} {N : Nat} {s : Slots} {a : Act} {ops : Array Oper} (hc : Conc E) (hs : SlotsOk E N s a) (o : Oper) {K : Slots → Store → Prop} (h : stepD P N ops o s E.st K) {next : Act → World → Prop} {Q : Exit → Act → World → Prop}
    (hn : ∀ (s' : Slots) (a' : Act) (E' : Env), K s' E'.st → Conc E' → Ext E E' → SlotsOk E' N s' a' → next a' E'.w) :
    if Region.wanted o (yielded ops a.tmps) then o.wp P a E.w next Q ∨ (o.asks P a E.w ∧ LetsOut Q) else next (a.put o.dst undef) E.w := by
  unfold stepD at h
  split at h
  · rename_i hw
    rw [wantedD_spec hs hw, if_pos rfl]
    refine .inl (op_ok hc hs o h.2 fun d v E' hk h1 h2 h3 => hn _ _ E' hk h1 h2 ((hs.ext hc h2).putS h.1 h3))
  · rename_i hw
    rw [wantedD_spec hs hw, if_neg (by simp)]
    exact hn _ _ E h.2 hc (Ext.refl E) (hs.putS h.1 rfl)
  · exact h.elim
/-- The operations in any order that their edges allow. -/
def anyD (P : Program) (N : Nat) (ops : Array Oper) (Q : Slots → Store → Prop) : Nat → Array Bool → Slots → Store → Prop
  | 0, listed, s, st => Region.ready .any ops listed = [] ∧ Q s st
  | fuel + 1, listed, s, st => (Region.ready .any ops listed = [] → Q s st) ∧
      ∀ i ∈ Region.ready .any ops listed, match ops[i]? with
        | none => anyD P N ops Q fuel (listed.setIfInBounds i true) s st
        | some o => stepD P N ops o s st (anyD P N ops Q fuel (listed.setIfInBounds i true))
theorem any_ok {P : Program} {N : Nat} {ops : Array Oper} {Q : Exit → Act → World → Prop} {K : Slots → Store → Prop} : ∀ (fuel : Nat) (listed : Array Bool) (s : Slots) (E : Env) (a : Act), Conc E → SlotsOk E N s a → anyD P N ops K fuel listed s E.st →
    (∀ (s' : Slots) (a' : Act) (E' : Env), K s' E'.st → Conc E' → Ext E E' → SlotsOk E' N s' a' → Q .normal a' E'.w) → wpAny P .any ops Q fuel listed a E.w
  | 0, listed, s, E, a, hc, hs, h, hn => ⟨h.1, hn s a E h.2 hc (Ext.refl E) hs⟩
  | fuel + 1, listed, s, E, a, hc, hs, h, hn => by
      refine ⟨fun h0 => hn s a E (h.1 h0) hc (Ext.refl E) hs, fun i hi => ?_⟩
      have hstep := h.2 i hi
      unfold wpOp
      cases ho : ops[i]? with
      | none =>
        rw [ho] at hstep
        exact any_ok fuel _ s E a hc hs hstep hn
      | some o =>
        rw [ho] at hstep
        exact step_ok (P := P) (Q := Q) (ops := ops) (next := wpAny P .any ops Q fuel (listed.setIfInBounds i true)) hc hs o hstep fun s' a' E' hk h1 h2 h3 =>
          any_ok fuel _ s' E' a' h1 h3 hk fun s2 a2 E2 k1 k2 k3 k4 => hn s2 a2 E2 k1 k2 (Ext.trans hc.len h1.len h2 k3) k4
/-- In these slots, with these boxes, the operation yields this and turns nothing. -/
def Yld (P : Program) (ops : Array Oper) (o : Oper) (s : Slots) (st : Store) (d : DV) : Prop :=
  (wantedD ops o.guard s = some true ∧ ∀ K : DV → Store → Prop, K d st → opD P o.op s st K) ∨ (wantedD ops o.guard s = some false ∧ d = .d (.sc undef))
def anyP (P : Program) (N : Nat) (ops : Array Oper) (st : Store) (Q : Slots → Prop) : Nat → Array Bool → Slots → Prop
  | 0, listed, s => Region.ready .any ops listed = [] ∧ Q s
  | fuel + 1, listed, s => (Region.ready .any ops listed = [] → Q s) ∧
      ∀ i ∈ Region.ready .any ops listed, ∀ o, ops[i]? = some o → ∃ d, Yld P ops o s st d ∧ dstOk N o.dst ∧ anyP P N ops st Q fuel (listed.setIfInBounds i true) (putS o.dst d s)
theorem ready_some {ops : Array Oper} {listed : Array Bool} {i : Nat} (h : i ∈ Region.ready .any ops listed) : ∃ o, ops[i]? = some o := by
  obtain ⟨_, o, ho, _⟩ := mem_ready.1 h
  exact ⟨o, ho⟩
theorem anyD_of_pure {P : Program} {N : Nat} {ops : Array Oper} {st : Store} {Q : Slots → Store → Prop} : ∀ (fuel : Nat) (listed : Array Bool) (s : Slots), anyP P N ops st (fun s => Q s st) fuel listed s → anyD P N ops Q fuel listed s st
  | 0, _, _, h => h
  | fuel + 1, listed, s, h => by
      refine ⟨h.1, fun i hi => ?_⟩
      obtain ⟨o, ho⟩ := ready_some hi
      obtain ⟨d, hy, hd, hK⟩ := h.2 i hi o ho
      rw [ho]
      have ih := anyD_of_pure fuel _ _ hK
      rcases hy with ⟨hw, hy⟩ | ⟨hw, rfl⟩
      · simp only [stepD, hw]
        exact ⟨hd, hy _ ih⟩
      · simp only [stepD, hw]
        exact ⟨hd, ih⟩
theorem ev_put {s : Slots} {dst : Option Nat} {d : DV} {x : Operand} (h : ∀ t, dst = some t → x ≠ .tmp t) : ev (putS dst d s) x = ev s x := by
  cases dst with
  | none => rfl
  | some i =>
    cases x with
    | tmp t =>
      have : t ≠ i := fun e => h i rfl (by rw [e])
      simp [ev, putS, upd_eq, this]
    | const v => rfl
    | global g => rfl
    | func f => rfl
theorem callD_congr {P : Program} {c : Call} {s s' : Slots} {st : Store} {K : DV → Store → Prop} (h : ∀ x ∈ c.operands, ev s x = ev s' x) : callD P c s st K = callD P c s' st K := by
  have hargs : ∀ x ∈ c.args.toList, ev s x = ev s' x := fun x hx => h x (by simp only [Call.operands]; exact Array.mem_append.2 (.inr (Array.mem_toList_iff.1 hx)))
  have hmap : c.args.toList.map (ev s) = c.args.toList.map (ev s') := List.map_congr_left hargs
  obtain ⟨callee, args, tys⟩ := c
  cases callee with
  | invoke r m => rfl
  | value f =>
    cases f with
    | func f => simp only [callD, hmap]
    | const v => rfl
    | global g => rfl
    | tmp t =>
      have ht : s t = s' t := h (.tmp t) (by simp [Call.operands])
      simp only [callD, hmap, ht]
  | builtin b =>
    obtain ⟨l⟩ := args
    obtain ⟨ts⟩ := tys
    simp only at hargs
    clear h hmap
    rcases l with _ | ⟨x, _ | ⟨y, _ | ⟨z, l⟩⟩⟩
    · cases b <;> rfl
    · have hx := hargs x (by simp)
      rcases ts with _ | ⟨t, _ | ⟨u, ts⟩⟩ <;> cases b <;> first | rfl | simp only [callD, hx]
    · have hx := hargs x (by simp)
      have hy := hargs y (by simp)
      rcases ts with _ | ⟨t, _ | ⟨u, _ | ⟨v, ts⟩⟩⟩ <;> cases b <;> first | rfl | simp only [callD, hx, hy]
    · cases b <;> rfl
theorem opD_congr {P : Program} {o : Op} {s s' : Slots} {st : Store} {K : DV → Store → Prop} (h : ∀ x ∈ o.operands, ev s x = ev s' x) : opD P o s st K = opD P o s' st K := by
  cases o
  case call c => exact callD_congr h
  case slice t x lo hi mx =>
    simp only [Op.operands, Array.mem_append, Array.mem_singleton, List.mem_toArray] at h
    have hx := h x (by simp)
    have hlo : lo.map (ev s) = lo.map (ev s') := by
      cases lo with
      | none => rfl
      | some l => simp only [Option.map_some, Option.some.injEq]; exact h l (by simp)
    have hhi : hi.map (ev s) = hi.map (ev s') := by
      cases hi with
      | none => rfl
      | some l => simp only [Option.map_some, Option.some.injEq]; exact h l (by simp)
    cases mx with
    | none => simp only [opD, hx, hlo, hhi]
    | some m =>
      have hm := h m (by simp)
      cases hi with
      | none => rfl
      | some hi =>
        have hh := h hi (by simp)
        simp only [opD, hx, hlo, hm, hh]
  case build t parts =>
    have : (parts.toList.map fun p => (p.1, ev s p.2)) = parts.toList.map fun p => (p.1, ev s' p.2) := List.map_congr_left fun p hp => by
      rw [h p.2 (by simp only [Op.operands, List.mem_toArray, List.mem_map]; exact ⟨p, hp, rfl⟩)]
    simp only [opD, this]
  case buildSlice t len parts =>
    have : (parts.toList.map fun p => (p.1, ev s p.2)) = parts.toList.map fun p => (p.1, ev s' p.2) := List.map_congr_left fun p hp => by
      rw [h p.2 (by simp only [Op.operands, List.mem_toArray, List.mem_map]; exact ⟨p, hp, rfl⟩)]
    simp only [opD, this]
  case makeFunc fn first captured =>
    have : captured.toList.map (ev s) = captured.toList.map (ev s') := List.map_congr_left fun p hp => h p (by simp only [Op.operands, Array.mem_append]; exact .inr (Array.mem_toList_iff.1 hp))
    cases fn <;> simp only [opD, this]
  all_goals first
    | rfl
    | (simp only [Op.operands, List.mem_toArray, List.mem_cons, List.not_mem_nil, or_false, forall_eq_or_imp, forall_eq] at h; simp only [opD, h])
end Go.Proofs.Ytadnpgkddgbhkaa
namespace Go.Proofs.Ytadnpgkddgbhkaa
open Go.RowKit
set_option linter.all false
theorem mem_looks {ops : Array Oper} {o : Oper} {t : Nat} (h : Operand.tmp t ∈ o.op.operands) : t ∈ o.looksAt ops := by
  unfold Oper.looksAt
  refine List.mem_append.2 (.inl ?_)
  rw [List.mem_filterMap]
  exact ⟨.tmp t, Array.mem_toList_iff.2 h, rfl⟩
theorem wantedD_put {ops : Array Oper} {o : Oper} {s : Slots} {dst : Option Nat} {d : DV} (h : ∀ t, dst = some t → t ∉ o.looksAt ops) : wantedD ops o.guard (putS dst d s) = wantedD ops o.guard s := by
  unfold wantedD
  cases hg : o.guard with
  | none => rfl
  | some jw =>
    obtain ⟨j, w⟩ := jw
    simp only
    cases hk : slotOf ops j with
    | none => rfl
    | some k =>
      simp only
      cases dst with
      | none => rfl
      | some i =>
        have : k ≠ i := fun e => h i rfl (by
          unfold Oper.looksAt
          rw [hg]
          refine List.mem_append.2 (.inr ?_)
          unfold slotOf at hk
          simp [hk, e])
        simp only [putS, upd_eq, this, ↓reduceIte]
theorem Yld.put {P : Program} {ops : Array Oper} {o : Oper} {s : Slots} {st : Store} {d e : DV} {dst : Option Nat} (hap : ∀ t, dst = some t → t ∉ o.looksAt ops) : Yld P ops o (putS dst e s) st d ↔ Yld P ops o s st d := by
  unfold Yld
  rw [wantedD_put hap]
  have : ∀ K, opD P o.op (putS dst e s) st K = opD P o.op s st K := fun K => opD_congr fun x hx => ev_put fun t ht hxt => by
    subst hxt
    exact hap t ht (mem_looks hx)
  simp only [this]
theorem putS_comm {s : Slots} {x y : Option Nat} {d e : DV} (h : ∀ t, x = some t → y ≠ some t) : putS y e (putS x d s) = putS x d (putS y e s) := by
  cases x with
  | none => rfl
  | some i =>
    cases y with
    | none => rfl
    | some j =>
      have : j ≠ i := fun q => h i rfl (by rw [q])
      funext k
      simp only [putS, upd_eq]
      split <;> split <;> first | rfl | omega
theorem anyP_first {P : Program} {N : Nat} {ops : Array Oper} {st : Store} {Q : Slots → Prop} {i : Nat} {oi : Oper} {d : DV} (hi : ops[i]? = some oi) : ∀ (fuel : Nat) (listed : Array Bool) (s : Slots),
    (∀ j oj, ops[j]? = some oj → j ≠ i → listed.getD j true = false → (∀ e ∈ oj.after, Region.binds .any e = true → e.on ≠ i) → oi.apart ops oj = true) →
    i ∈ Region.ready .any ops listed → Yld P ops oi s st d → dstOk N oi.dst → anyP P N ops st Q fuel (listed.setIfInBounds i true) (putS oi.dst d s) → anyP P N ops st Q (fuel + 1) listed s := by
  intro fuel
  induction fuel with
  | zero =>
    intro listed s _ hr hy hd H
    refine ⟨fun h => (by rw [h] at hr; cases hr), fun j hj oj hoj => ?_⟩
    by_cases hji : j = i
    · subst hji
      rw [hi] at hoj; cases hoj
      exact ⟨d, hy, hd, H⟩
    · have := ready_mono hj hji
      rw [H.1] at this
      cases this
  | succ fuel ih =>
    intro listed s hfree hr hy hd H
    refine ⟨fun h => (by rw [h] at hr; cases hr), fun j hj oj hoj => ?_⟩
    by_cases hji : j = i
    · subst hji
      rw [hi] at hoj; cases hoj
      exact ⟨d, hy, hd, H⟩
    · obtain ⟨dj, hyj, hdj, hK⟩ := H.2 j (ready_mono hj hji) oj hoj
      obtain ⟨hjun, oj', hoj', hall⟩ := mem_ready.1 hj
      rw [hoj] at hoj'; cases hoj'
      have hnot : ∀ e ∈ oj.after, Region.binds .any e = true → e.on ≠ i := fun e he hb heq => by
        have h1 := hall e he hb
        have h0 := (mem_ready.1 hr).1
        rw [heq] at h1
        rcases Nat.lt_or_ge i listed.size with h' | h'
        · simp [h'] at h0 h1; rw [h0] at h1; cases h1
        · simp [Array.getElem?_eq_none h'] at h1
      obtain ⟨a1, a2, a3⟩ := Oper.apart_spec (hfree j oj hoj hji hjun hnot)
      have hfree' : ∀ k ok, ops[k]? = some ok → k ≠ i → (listed.setIfInBounds j true).getD k true = false →
          (∀ e ∈ ok.after, Region.binds .any e = true → e.on ≠ i) → oi.apart ops ok = true := fun k ok hk hki hun hno => by
        refine hfree k ok hk hki ?_ hno
        by_cases hjk : j = k
        · subst hjk; exact hjun
        · rw [getD_set_ne true hjk] at hun; exact hun
      refine ⟨dj, (Yld.put a1).1 hyj, hdj, ih (listed.setIfInBounds j true) _ hfree' (ready_mono hr (Ne.symm hji)) ((Yld.put a3).2 hy) hd ?_⟩
      rw [Array.setIfInBounds_comm _ _ hji, ← putS_comm a2]
      exact hK
/-- The text's order, each operation yielding something and turning nothing. -/
def pureL (P : Program) (N : Nat) (ops : Array Oper) (st : Store) (Q : Slots → Prop) : List Oper → Slots → Prop
  | [], s => Q s
  | o :: rest, s => ∃ d, Yld P ops o s st d ∧ dstOk N o.dst ∧ pureL P N ops st Q rest (putS o.dst d s)
theorem anyP_lex {P : Program} {N : Nat} {ops : Array Oper} {st : Store} {Q : Slots → Prop} : ∀ (l : List Oper) (k : Nat) (listed : Array Bool) (s : Slots), (∀ j, l[j]? = ops[k + j]?) →
    Region.lexFrom .any ops l.length k listed = true → pureL P N ops st Q l s → anyP P N ops st Q l.length listed s
  | [], _, _, _, _, hB, h => ⟨by simpa [Region.lexFrom] using hB, h⟩
  | o :: l, k, listed, s, hl, hB, h => by
    have h0 : ops[k]? = some o := by simpa using (hl 0).symm
    simp only [List.length_cons, Region.lexFrom, Bool.and_eq_true] at hB
    obtain ⟨⟨hr, hf⟩, hB'⟩ := hB
    obtain ⟨d, hy, hd, hK⟩ := h
    exact anyP_first h0 l.length listed s (Region.free_spec h0 hf) (by simpa using hr) hy hd
      (anyP_lex l (k + 1) _ _ (fun j => by have := hl (j + 1); simpa [Nat.add_assoc, Nat.add_comm 1 j] using this) hB' hK)
/-- What a statement comes to. -/
def wpD (P : Program) (N : Nat) (c : Code) (Q : Exit → Slots → Store → Prop) (s : Slots) (st : Store) : Prop :=
  ∀ (E : Env) (a : Act), Conc E → E.st = st → SlotsOk E N s a → c.wp P (fun e a' w' => ∃ (s' : Slots) (E' : Env), E'.w = w' ∧ Q e s' E'.st ∧ Conc E' ∧ Ext E E' ∧ SlotsOk E' N s' a') a E.w
section rules
variable {P : Program} {N : Nat} {Q : Exit → Slots → Store → Prop} {s : Slots} {st : Store}
theorem wpD_mono {c : Code} {Q' : Exit → Slots → Store → Prop} (h : wpD P N c Q s st) (hq : ∀ e s st, Q e s st → Q' e s st) : wpD P N c Q' s st :=
  fun E a h1 h2 h3 => wp_mono (h E a h1 h2 h3) fun _ _ _ ⟨s', E', k1, k2, k3⟩ => ⟨s', E', k1, hq _ _ _ k2, k3⟩
theorem wpD_any {id : Nat} {l : List Oper} (hm : P.follows .mixedOrders = true) (h : anyD P N l.toArray (fun s' st' => Q .normal s' st') l.length (Array.replicate l.length false) s st) : wpD P N (.region id l.toArray true) Q s st := by
  intro E a hc hst hs
  subst hst
  obtain ⟨c1, c2⟩ := newNone hc { E.w with drawn := E.w.drawn + 1 } (Nat.le_refl _) (fun _ _ => rfl) rfl rfl rfl
  refine wp_region_any hm ?_
  have := any_ok (P := P) (Q := fun e a' w' => ∃ (s' : Slots) (E' : Env), E'.w = w' ∧ Q e s' E'.st ∧ Conc E' ∧ Ext E E' ∧ SlotsOk E' N s' a') l.length (Array.replicate l.length false) s ⟨{ E.w with drawn := E.w.drawn + 1 }, E.S, E.σ, E.st⟩ a c1 (hs.ext hc c2) h
    fun s' a' E' hk h1 h2 h3 => ⟨s', E', rfl, hk, h1, Ext.trans hc.len c1.len c2 h2, h3⟩
  simpa using this
theorem wpD_pure {id : Nat} {l : List Oper} (hm : P.follows .mixedOrders = true) (hB : Region.lexB .any l.toArray = true) (h : pureL P N l.toArray st (fun s' => Q .normal s' st) l s) : wpD P N (.region id l.toArray true) Q s st := by
  refine wpD_any hm (anyD_of_pure _ _ _ ?_)
  simp only [Region.lexB, Bool.and_eq_true] at hB
  exact anyP_lex l 0 (Array.replicate l.length false) s (by simp) (by simpa using hB.2) h
theorem wpD_skip (h : Q .normal s st) : wpD P N .skip Q s st := fun E a hc hst hs => wp_skip ⟨s, E, rfl, by rw [hst]; exact h, hc, Ext.refl E, hs⟩
theorem wpD_exit {id : Nat} (h : Q (.exit id) s st) : wpD P N (.exit id) Q s st := fun E a hc hst hs => wp_exit ⟨s, E, rfl, by rw [hst]; exact h, hc, Ext.refl E, hs⟩
theorem wpD_ret (h : Q .ret s st) : wpD P N .ret Q s st := fun E a hc hst hs => wp_ret ⟨s, E, rfl, by rw [hst]; exact h, hc, Ext.refl E, hs⟩
def thenD (next : Slots → Store → Prop) (Q : Exit → Slots → Store → Prop) : Exit → Slots → Store → Prop
  | .normal, s, st => next s st
  | e, s, st => Q e s st
theorem wpD_seq {x y : Code} (h : wpD P N x (thenD (wpD P N y Q) Q) s st) : wpD P N (.seq x y) Q s st := by
  intro E a hc hst hs
  refine wp_seq (wp_mono (h E a hc hst hs) ?_)
  rintro e a' w' ⟨s', E', rfl, hq, h1, h2, h3⟩
  cases e <;> first
    | exact wp_mono (hq E' a' h1 rfl h3) fun _ _ _ ⟨s2, E2, k1, k2, k3, k4, k5⟩ => ⟨s2, E2, k1, k2, k3, Ext.trans hc.len h1.len h2 k4, k5⟩
    | exact ⟨s', E', rfl, hq, h1, h2, h3⟩
def blockD (id : Nat) (Q : Exit → Slots → Store → Prop) : Exit → Slots → Store → Prop
  | .exit id', s, st => if id' = id then Q .normal s st else Q (.exit id') s st
  | e, s, st => Q e s st
theorem wpD_block {id : Nat} {c : Code} (h : wpD P N c (blockD id Q) s st) : wpD P N (.block id c) Q s st := by
  intro E a hc hst hs
  refine wp_block (wp_mono (h E a hc hst hs) ?_)
  rintro e a' w' ⟨s', E', rfl, hq, h1, h2, h3⟩
  cases e <;> first
    | exact ⟨s', E', rfl, hq, h1, h2, h3⟩
    | (simp only [blockD] at hq
       simp only [Exit.inBlock]
       split
       · rename_i e; rw [if_pos e] at hq; exact ⟨s', E', rfl, hq, h1, h2, h3⟩
       · rename_i e; rw [if_neg e] at hq; exact ⟨s', E', rfl, hq, h1, h2, h3⟩)
theorem wpD_cond {c : Operand} {x y : Code} (t : Bool) (hc : ev s c = boolD t) (h1 : t = true → wpD P N x Q s st) (h2 : t = false → wpD P N y Q s st) : wpD P N (.cond c x y) Q s st := by
  intro E a hcc hst hs
  have := ev_rep hs c
  rw [hc] at this
  cases t
  · exact wp_cond_false this (h2 rfl E a hcc hst hs)
  · exact wp_cond_true this (h1 rfl E a hcc hst hs)
end rules
/-- The same state, told otherwise: fewer boxes, other names, less known. 'k': so many boxes are others', too. -/
def Tells (k : Nat) (s : Slots) (st : Store) (s' : Slots) (st' : Store) : Prop :=
  ∀ (E : Env) (N : Nat) (a : Act), Conc E → E.st = st → SlotsOk E N s a → ∃ E' : Env, E'.w = E.w ∧ E'.st = st' ∧ Conc E' ∧ SlotsOk E' N s' a ∧ ∀ F : Env, F.σ.length = F.st.length → F.st.length ≤ k → Ext F E → Ext F E'
theorem Tells.refl (k : Nat) (s : Slots) (st : Store) : Tells k s st s st := fun E _ _ h1 h2 h3 => ⟨E, rfl, h2, h1, h3, fun _ _ _ h => h⟩
theorem Tells.trans {k : Nat} {s s' s2 : Slots} {st st' st2 : Store} (h : Tells k s st s' st') (g : Tells k s' st' s2 st2) : Tells k s st s2 st2 := fun E N a h1 h2 h3 => by
  obtain ⟨E', a1, a2, a3, a4, a5⟩ := h E N a h1 h2 h3
  obtain ⟨E2, b1, b2, b3, b4, b5⟩ := g E' N a a3 a2 a4
  exact ⟨E2, b1.trans a1, b2, b3, b4, fun F q1 q2 q3 => b5 F q1 q2 (a5 F q1 q2 q3)⟩
theorem Tells.any (k : Nat) (s s' : Slots) (st : Store) (h : ∀ i, s' i = s i ∨ s' i = .any) : Tells k s st s' st := fun E N a h1 h2 h3 =>
  ⟨E, rfl, h2, h1, ⟨h3.size, fun i => by
    rcases h i with e | e
    · rw [e]; exact h3.rep i
    · rw [e]; trivial, h3.defers⟩, fun _ _ _ h => h⟩
theorem Tells.nil (k : Nat) (s : Slots) (st : Store) (i sz : Nat) (h : s i = nilS) : Tells k s st (upd s i (.d (.slc sz []))) st := fun E N a h1 h2 h3 =>
  ⟨E, rfl, h2, h1, ⟨h3.size, fun j => by
    by_cases hj : j = i
    · subst hj
      rw [upd_same]
      have := h3.rep j
      rw [h] at this
      exact .inl ⟨rfl, this⟩
    · rw [upd_ne _ _ _ _ (by simpa using hj)]
      exact h3.rep j, h3.defers⟩, fun _ _ _ h => h⟩
theorem wpD_tells {P : Program} {N : Nat} {c : Code} {Q : Exit → Slots → Store → Prop} {s s' : Slots} {st st' : Store} (h : Tells st.length s st s' st') (hw : wpD P N c Q s' st') : wpD P N c Q s st := by
  intro E a hc hst hs
  subst hst
  obtain ⟨E', a1, a2, a3, a4, a5⟩ := h E N a hc rfl hs
  rw [← a1]
  exact wp_mono (hw E' a a3 a2 a4) fun _ _ _ ⟨s2, E2, k1, k2, k3, k4, k5⟩ => ⟨s2, E2, k1, k2, k3, Ext.trans hc.len a3.len (a5 E hc.len (Nat.le_refl _) (Ext.refl E)) k4, k5⟩
theorem least (p : Nat → Prop) (h : ∃ n, p n) : ∃ n, p n ∧ ∀ m, p m → n ≤ m := by
  obtain ⟨n, hn⟩ := h
  induction n using Nat.strongRecOn with
  | _ n ih =>
    by_cases hm : ∃ m, m < n ∧ p m
    · obtain ⟨m, h1, h2⟩ := hm
      exact ih m h1 h2
    · exact ⟨n, hn, fun m hp => Nat.le_of_not_lt fun h => hm ⟨m, h, hp⟩⟩
/-- A loop. -/
theorem wpD_loop {P : Program} {N : Nat} {c : Code} {Q : Exit → Slots → Store → Prop} {s : Slots} {st : Store} (I : Nat → Slots → Store → Prop) (n0 : Nat) (h0 : I n0 s st)
    (round : ∀ n s1 st1, I n s1 st1 → wpD P N c (thenD (fun s' st' => ∃ m s2 st2, m < n ∧ Tells st.length s' st' s2 st2 ∧ I m s2 st2) Q) s1 st1) : wpD P N (.loop c) Q s st := by
  intro E a hc hst hs
  subst hst
  let R : Nat → Act → World → Prop := fun n a w => ∃ (s1 : Slots) (E1 : Env), E1.w = w ∧ I n s1 E1.st ∧ Conc E1 ∧ Ext E E1 ∧ SlotsOk E1 N s1 a
  classical
  refine wp_loop (fun a w => ∃ n, R n a w) (fun a w => if h : ∃ n, R n a w then Classical.choose (least _ h) else 0) ⟨n0, s, E, rfl, h0, hc, Ext.refl E, hs⟩ ?_
  intro a1 w1 hR
  have hspec := (Classical.choose_spec (least _ hR)).1
  rw [dif_pos hR]
  generalize Classical.choose (least _ hR) = n at hspec ⊢
  obtain ⟨s1, E1, rfl, hI, hc1, hx1, hs1⟩ := hspec
  refine wp_mono (round n s1 E1.st hI E1 a1 hc1 rfl hs1) ?_
  rintro e a' w' ⟨s', E', rfl, hq, h1, h2, h3⟩
  have hx : Ext E E' := Ext.trans hc.len hc1.len hx1 h2
  cases e
  case normal =>
    obtain ⟨m, s2, st2, hm, ht, hI2⟩ := hq
    obtain ⟨E2, b1, b2, b3, b4, b5⟩ := ht E' N a' h1 rfl h3
    have hRm : R m a' E'.w := ⟨s2, E2, b1, by rw [b2]; exact hI2, b3, b5 E hc.len (Nat.le_refl _) hx, b4⟩
    have hex : ∃ n, R n a' E'.w := ⟨m, hRm⟩
    refine ⟨hex, ?_⟩
    rw [dif_pos hex]
    exact Nat.lt_of_le_of_lt ((Classical.choose_spec (least _ hex)).2 m hRm) hm
  all_goals exact ⟨s', E', rfl, hq, h1, hx, h3⟩
end Go.Proofs.Ytadnpgkddgbhkaa
namespace Go.Proofs.Ytadnpgkddgbhkaa
open Go.RowKit
set_option linter.all false
/-- The same world under another description. -/
def Turn (k : Nat) (st st' : Store) (T : DV → DV → Prop) : Prop :=
  ∀ E : Env, Conc E → E.st = st → ∃ E' : Env, E'.w = E.w ∧ E'.st = st' ∧ Conc E' ∧ (∀ d d' v, T d d' → Rep E d v → Rep E' d' v) ∧ ∀ F : Env, F.σ.length = F.st.length → F.st.length ≤ k → Ext F E → Ext F E'
theorem Tells.turn {k : Nat} {st st' : Store} {T : DV → DV → Prop} (h : Turn k st st' T) {s s' : Slots} (hs : ∀ i, T (s i) (s' i)) : Tells k s st s' st' := fun E N a h1 h2 h3 => by
  obtain ⟨E', a1, a2, a3, a4, a5⟩ := h E h1 h2
  exact ⟨E', a1, a2, a3, ⟨h3.size, fun i => a4 _ _ _ (hs i) (h3.rep i), h3.defers⟩, a5⟩
/-- A value with its boxes, told otherwise. -/
def TellsV (k : Nat) (d : DV) (st : Store) (d' : DV) (st' : Store) : Prop :=
  ∀ (E : Env) (v : Value), Conc E → E.st = st → Rep E d v → ∃ E' : Env, E'.w = E.w ∧ E'.st = st' ∧ Conc E' ∧ Rep E' d' v ∧ ∀ F : Env, F.σ.length = F.st.length → F.st.length ≤ k → Ext F E → Ext F E'
theorem TellsV.refl (k : Nat) (d : DV) (st : Store) : TellsV k d st d st := fun E _ h1 h2 h3 => ⟨E, rfl, h2, h1, h3, fun _ _ _ h => h⟩
theorem TellsV.trans {k : Nat} {d d' d2 : DV} {st st' st2 : Store} (h : TellsV k d st d' st') (g : TellsV k d' st' d2 st2) : TellsV k d st d2 st2 := fun E v h1 h2 h3 => by
  obtain ⟨E', a1, a2, a3, a4, a5⟩ := h E v h1 h2 h3
  obtain ⟨E2, b1, b2, b3, b4, b5⟩ := g E' v a3 a2 a4
  exact ⟨E2, b1.trans a1, b2, b3, b4, fun F q1 q2 q3 => b5 F q1 q2 (a5 F q1 q2 q3)⟩
theorem TellsV.turn {k : Nat} {st st' : Store} {T : DV → DV → Prop} (h : Turn k st st' T) {d d' : DV} (hs : T d d') : TellsV k d st d' st' := fun E v h1 h2 h3 => by
  obtain ⟨E', a1, a2, a3, a4, a5⟩ := h E h1 h2
  exact ⟨E', a1, a2, a3, a4 _ _ _ hs h3, a5⟩
theorem TellsV.nil (k : Nat) (st : Store) (sz : Nat) : TellsV k nilS st (.d (.slc sz [])) st := fun E v h1 h2 h3 => ⟨E, rfl, h2, h1, .inl ⟨rfl, h3⟩, fun _ _ _ h => h⟩
mutual
def pullD (κ : List Nat) : DV → DV
  | .any => .any
  | .d p => .d p
  | .agg cs => .agg (pullL κ cs)
  | .tup cs => .tup (pullL κ cs)
  | .ref b ver o => match κ.idxOf? b with
    | some j => .ref j ver o
    | none => .any
  | .cref cs => .cref cs
  | .view sz b ver o n => match κ.idxOf? b with
    | some j => .view sz j ver o n
    | none => .any
  | .fn f cs => .fn f (pullL κ cs)
def pullL (κ : List Nat) : List DV → List DV
  | [] => []
  | d :: ds => pullD κ d :: pullL κ ds
end
theorem pullL_eq (κ : List Nat) : ∀ ds : List DV, pullL κ ds = ds.map (pullD κ)
  | [] => rfl
  | d :: ds => by simp [pullL, pullL_eq κ ds]
def pullBox (κ : List Nat) (bx : Box) : Box := { bx with cells := pullL κ bx.cells }
def noBox : Box := ⟨0, [], false, 0, false⟩
def keepSt (κ : List Nat) (st : Store) : Store := κ.map fun b => pullBox κ (st.getD b noBox)
structure Pulled (E E' : Env) (κ : List Nat) : Prop where
  w : E'.w = E.w
  S : E'.S = E.S
  at_ : ∀ (b j : Nat), κ.idxOf? b = some j → (∀ bx, E.st[b]? = some bx → E'.st[j]? = some (pullBox κ bx)) ∧ ∀ gz, E.σ[b]? = some gz → E'.σ[j]? = some gz
mutual
theorem Rep.pull {E E' : Env} {κ : List Nat} (h : Pulled E E' κ) : ∀ (d : DV) (u : Value), Rep E d u → Rep E' (pullD κ d) u
  | .any, _, _ => trivial
  | .d p, u, hr => by simp only [pullD, Rep] at hr ⊢; rw [h.w, h.S]; exact hr
  | .agg cs, _, ⟨vs, h1, h3, h2⟩ => ⟨vs, h1, h3, Reps.pull h cs vs h2⟩
  | .tup cs, _, ⟨vs, h1, h2⟩ => ⟨vs, h1, Reps.pull h cs vs h2⟩
  | .fn _ cs, _, ⟨vs, h1, h2⟩ => ⟨vs, h1, Reps.pull h cs vs h2⟩
  | .ref b ver o, u, ⟨bx, gz, h1, h2, h0, h3, h4⟩ => by
      simp only [pullD]
      cases hk : κ.idxOf? b with
      | none => trivial
      | some j => exact ⟨_, gz, (h.at_ b j hk).1 bx h1, (h.at_ b j hk).2 gz h2, h0, h3, h4⟩
  | .cref cs, u, hr => by simp only [pullD, Rep] at hr ⊢; rw [h.w, h.S]; exact hr
  | .view sz b ver o n, u, ⟨bx, gz, h1, h2, h0, h3, h4⟩ => by
      simp only [pullD]
      cases hk : κ.idxOf? b with
      | none => trivial
      | some j => exact ⟨_, gz, (h.at_ b j hk).1 bx h1, (h.at_ b j hk).2 gz h2, h0, h3, h4⟩
theorem Reps.pull {E E' : Env} {κ : List Nat} (h : Pulled E E' κ) : ∀ (ds : List DV) (vs : List Value), Reps E ds vs → Reps E' (pullL κ ds) vs
  | [], [], _ => trivial
  | d :: ds, v :: vs, ⟨h1, h2⟩ => ⟨Rep.pull h d v h1, Reps.pull h ds vs h2⟩
  | [], _ :: _, h => h.elim
  | _ :: _, [], h => h.elim
end
/-- Some boxes are kept, the others let go. -/
theorem Turn.keep {k : Nat} {st : Store} (κ : List Nat) (hn : κ.Nodup) (hv : ∀ b ∈ κ, b < st.length) (hk : ∀ b, b < k → κ[b]? = some b) (hkl : k ≤ κ.length) : Turn k st (keepSt κ st) fun d d' => d' = pullD κ d := by
  intro E hc hst
  subst hst
  have hlen := hc.len
  let E' : Env := ⟨E.w, E.S, κ.map fun b => E.σ.getD b (0, 0), keepSt κ E.st⟩
  have hget : ∀ (j b : Nat), κ[j]? = some b → ∃ bx gz, E.st[b]? = some bx ∧ E.σ[b]? = some gz ∧ E'.st[j]? = some (pullBox κ bx) ∧ E'.σ[j]? = some gz := by
    intro j b hj
    have hb := hv b (List.mem_of_getElem? hj)
    refine ⟨E.st[b], E.σ[b]'(by omega), List.getElem?_eq_getElem _, List.getElem?_eq_getElem _, ?_, ?_⟩
    · simp [E', keepSt, hj, List.getD_eq_getElem?_getD, List.getElem?_eq_getElem hb]
    · simp [E', hj, List.getD_eq_getElem?_getD, List.getElem?_eq_getElem (show b < E.σ.length by omega)]
  have hidx : ∀ (b j : Nat), κ.idxOf? b = some j → κ[j]? = some b := by
    intro b j h
    obtain ⟨h1, h2, _⟩ := List.idxOf?_eq_some_iff.1 h
    rw [List.getElem?_eq_getElem h1]
    simpa using h2
  have hpull : Pulled E E' κ := ⟨rfl, rfl, fun b j h => by
    obtain ⟨bx, gz, a1, a2, a3, a4⟩ := hget j b (hidx b j h)
    exact ⟨fun bx' h1 => by rw [a1] at h1; cases h1; exact a3, fun gz' h1 => by rw [a2] at h1; cases h1; exact a4⟩⟩
  have hsrc : ∀ (j : Nat) (gz : Nat × Nat), E'.σ[j]? = some gz → ∃ b, κ[j]? = some b ∧ E.σ[b]? = some gz := by
    intro j gz h
    have hj : j < κ.length := by
      have := (List.getElem?_eq_some_iff.1 h).1
      simpa [E'] using this
    obtain ⟨bx, gz', a1, a2, a3, a4⟩ := hget j _ (List.getElem?_eq_getElem hj)
    rw [a4] at h
    cases h
    exact ⟨_, List.getElem?_eq_getElem hj, a2⟩
  have hinj : ∀ (j j' b : Nat), κ[j]? = some b → κ[j']? = some b → j = j' := by
    intro j j' r h1 h2
    obtain ⟨l1, e1⟩ := List.getElem?_eq_some_iff.1 h1
    obtain ⟨l2, e2⟩ := List.getElem?_eq_some_iff.1 h2
    rcases Nat.lt_trichotomy j j' with hlt | heq | hgt
    · exact absurd (e1.trans e2.symm) (List.pairwise_iff_getElem.1 hn j j' l1 l2 hlt)
    · exact heq
    · exact absurd (e2.trans e1.symm) (List.pairwise_iff_getElem.1 hn j' j l2 l1 hgt)
  refine ⟨E', rfl, rfl, ⟨by simp [E', keepSt], fun j bx g z h1 h2 hl => ?_, fun j j' g z g' z' h1 h2 he => ?_, hc.old, fun j g z h => ?_⟩, fun d d' v ht hr => by subst ht; exact Rep.pull hpull d v hr, fun F hF hFk hx => ?_⟩
  · obtain ⟨b, e1, e2⟩ := hsrc j _ h2
    obtain ⟨bx', gz', a1, a2, a3, a4⟩ := hget j b e1
    rw [h1] at a3
    cases a3
    obtain ⟨cur, c1, c2, c3, c4, c5, c6, c7, c8⟩ := hc.box b bx' g z a1 e2 hl
    refine ⟨cur, c1, c2, by simpa [pullBox, pullL_eq] using c3, fun he => by simpa [pullBox, pullL_eq] using c4 he, c5, c6, fun i d hi => ?_, c8⟩
    simp only [pullBox, pullL_eq, List.getElem?_map] at hi
    cases hd : bx'.cells[i]? with
    | none => rw [hd] at hi; cases hi
    | some d0 =>
      rw [hd] at hi
      simp only [Option.map_some, Option.some.injEq] at hi
      subst hi
      obtain ⟨u, q1, q2, q3⟩ := c7 i d0 hd
      exact ⟨u, q1, q2, Rep.pull hpull d0 u q3⟩
  · obtain ⟨b, e1, e2⟩ := hsrc j _ h1
    obtain ⟨b', e3, e4⟩ := hsrc j' _ h2
    have := hc.inj b b' g z g' z' e2 e4 he
    subst this
    exact hinj j j' b e1 e3
  · obtain ⟨b, e1, e2⟩ := hsrc j _ h
    exact hc.lt b g z e2
  · refine ⟨hx.size, hx.os, hx.tape, hx.output, hx.set, hx.fresh, hx.heap, fun b bx gz h1 h2 => ?_, fun j gz h1 h2 => ?_⟩
    · have hb := (List.getElem?_eq_some_iff.1 h1).1
      obtain ⟨bx', gz', a1, a2, a3, a4, a5, a6⟩ := hx.box b bx gz h1 h2
      obtain ⟨bx2, gz2, b1, b2, b3, b4⟩ := hget b b (hk b (by omega))
      rw [a1] at b1; cases b1
      rw [a2] at b2; cases b2
      exact ⟨_, _, b3, b4, a3, a4, a5, a6⟩
    · obtain ⟨b, e1, e2⟩ := hsrc j _ h2
      have hj := List.getElem?_eq_none_iff.1 h1
      refine hx.new b gz ?_ e2
      rw [List.getElem?_eq_none_iff]
      rcases Nat.lt_or_ge b F.σ.length with hlt | hge
      · have := hinj j b b e1 (hk b (by omega))
        omega
      · exact hge
mutual
/-- The whole slice over a box, settled. -/
def fzD (b ver sz : Nat) (xs : List (List PD)) : DV → DV
  | .any => .any
  | .d p => .d p
  | .agg cs => .agg (fzL b ver sz xs cs)
  | .tup cs => .tup (fzL b ver sz xs cs)
  | .ref b' ver' o => .ref b' ver' o
  | .cref cs => .cref cs
  | .view sz' b' ver' o n => if b' = b ∧ ver' = ver ∧ sz' = sz ∧ o = 0 ∧ n = xs.length then .d (.slc sz xs) else .view sz' b' ver' o n
  | .fn f cs => .fn f (fzL b ver sz xs cs)
def fzL (b ver sz : Nat) (xs : List (List PD)) : List DV → List DV
  | [] => []
  | d :: ds => fzD b ver sz xs d :: fzL b ver sz xs ds
end
theorem fzL_eq (b ver sz : Nat) (xs : List (List PD)) : ∀ ds : List DV, fzL b ver sz xs ds = ds.map (fzD b ver sz xs)
  | [] => rfl
  | d :: ds => by simp [fzL, fzL_eq b ver sz xs ds]
def fzBox (b ver sz : Nat) (xs : List (List PD)) (bx : Box) : Box := { bx with cells := fzL b ver sz xs bx.cells }
def fzSt (b sz : Nat) (xs : List (List PD)) (st : Store) : Store := match st[b]? with
  | some bx => (st.map (fzBox b bx.ver sz xs)).set b ⟨bx.ty, [], false, bx.ver + 1, false⟩
  | none => st
theorem freeze_env {st : Store} (b sz : Nat) (xs : List (List PD)) (bx : Box) (hb : st[b]? = some bx) (hl : bx.live = true) (hcells : bx.cells = rowsD xs) (hsz : ∀ x ∈ xs, x.length = sz) (E : Env) (hc : Conc E) (hst : E.st = st) :
    ∃ E' : Env, E'.w = E.w ∧ E'.st = fzSt b sz xs st ∧ Conc E' ∧ (∀ d v, Rep E d v → Rep E' (fzD b bx.ver sz xs d) v) ∧ Ext E E' ∧ ∀ k, k ≤ b → ∀ F : Env, F.σ.length = F.st.length → F.st.length ≤ k → Ext F E → Ext F E' := by
  subst hst
  have hbl := (List.getElem?_eq_some_iff.1 hb).1
  have hlen := hc.len
  obtain ⟨⟨g, z⟩, hg⟩ : ∃ gz, E.σ[b]? = some gz := ⟨E.σ[b]'(by omega), List.getElem?_eq_getElem _⟩
  obtain ⟨cur, a1, a2, a3, a4, a5, a6, a7, a8⟩ := hc.box b bx g z hb hg hl
  let S' : Nat → Prop := fun g' => E.S g' ∨ g' = g
  let E' : Env := ⟨E.w, S', E.σ, fzSt b sz xs E.st⟩
  have hkept : Kept E.w E.w E.S S' := fun g' h => ⟨.inl h, rfl⟩
  have hrows : RowsP E.w S' sz xs ⟨g, 0, none⟩ := by
    refine RowsP.of_flat xs _ hsz (CellsP.of_get _ _ fun j p hj => ?_)
    obtain ⟨u, c1, c2, c3⟩ := a7 j (.d p) (by rw [hcells, rowsD_get, hj]; rfl)
    refine ⟨u, ?_, c2, RepP.keep hkept p u c3⟩
    have hadd : (⟨g, 0, none⟩ : Addr).add j = ⟨g, j, none⟩ := by unfold Addr.add; split <;> simp_all
    rw [hadd]
    simp [World.cell?, a1, c1]
  have hst' : ∀ i, i ≠ b → E'.st[i]? = (E.st[i]?).map (fzBox b bx.ver sz xs) := fun i hi => by rw [show E'.st = (E.st.map (fzBox b bx.ver sz xs)).set b ⟨bx.ty, [], false, bx.ver + 1, false⟩ by simp only [E', fzSt, hb]]; simp [Ne.symm hi]
  have hstb : E'.st[b]? = some ⟨bx.ty, [], false, bx.ver + 1, false⟩ := by
    rw [show E'.st = (E.st.map (fzBox b bx.ver sz xs)).set b ⟨bx.ty, [], false, bx.ver + 1, false⟩ by simp only [E', fzSt, hb]]
    simp [hbl]
  have hbox : ∀ (i : Nat) (bi : Box), E.st[i]? = some bi → ∃ bi', E'.st[i]? = some bi' ∧ bi.ver ≤ bi'.ver ∧ (i ≠ b → bi'.ver = bi.ver) ∧ (i = b → bi'.ver = bi.ver + 1) := by
    intro i bi hi
    by_cases e : i = b
    · subst e
      rw [hb] at hi; cases hi
      exact ⟨_, hstb, by simp, fun h => absurd rfl h, fun _ => rfl⟩
    · exact ⟨fzBox b bx.ver sz xs bi, by rw [hst' i e, hi]; rfl, Nat.le_refl _, fun _ => rfl, fun h => absurd h e⟩
  have key : (∀ (d : DV) (u : Value), Rep E d u → Rep E' (fzD b bx.ver sz xs d) u) := by
    intro d
    refine DV.rec (motive_1 := fun d => ∀ u, Rep E d u → Rep E' (fzD b bx.ver sz xs d) u) (motive_2 := fun ds => ∀ vs, Reps E ds vs → Reps E' (fzL b bx.ver sz xs ds) vs) ?_ ?_ ?_ ?_ ?_ ?_ ?_ ?_ ?_ ?_ d
    · intro u _; trivial
    · intro p u h; exact RepP.keep hkept p u h
    · intro cs ih u ⟨vs, h1, h3, h2⟩; exact ⟨vs, h1, h3, ih vs h2⟩
    · intro cs ih u ⟨vs, h1, h2⟩; exact ⟨vs, h1, ih vs h2⟩
    · intro b' ver o u ⟨bi, gz, h1, h2, h0, h3, h4⟩
      obtain ⟨bi', q1, q2, q3, q4⟩ := hbox b' bi h1
      refine ⟨bi', gz, q1, h2, h0, by omega, fun e => ?_⟩
      by_cases eb : b' = b
      · have := q4 eb; omega
      · exact h4 (by have := q3 eb; omega)
    · intro cs u ⟨a, h1, h2, h3⟩
      refine ⟨a, h1, fun hx => .inl (h2 hx), ?_⟩
      cases cs with
      | nil => trivial
      | cons c cs => exact CellsP.keep hkept (c :: cs) a (h2 (by simp)) h3
    · intro sz' b' ver o n u ⟨bi, gz, h1, h2, h0, h3, h4⟩
      simp only [fzD]
      split
      · rename_i hq
        obtain ⟨rfl, rfl, rfl, rfl, rfl⟩ := hq
        rw [hb] at h1; cases h1
        rw [hg] at h2; cases h2
        obtain ⟨c, rfl, c1, c2, c3⟩ := h4 rfl
        exact .inr ⟨_, c, rfl, c1, c2, fun _ => .inr rfl, hrows⟩
      · obtain ⟨bi', q1, q2, q3, q4⟩ := hbox b' bi h1
        refine ⟨bi', gz, q1, h2, h0, by omega, fun e => ?_⟩
        by_cases eb : b' = b
        · have := q4 eb; omega
        · exact h4 (by have := q3 eb; omega)
    · intro f cs ih u ⟨vs, h1, h2⟩; exact ⟨vs, h1, ih vs h2⟩
    · intro vs h; cases vs <;> first | trivial | exact h.elim
    · intro d ds ih1 ih2 vs h
      cases vs with
      | nil => exact h.elim
      | cons v vs => exact ⟨ih1 v h.1, ih2 vs h.2⟩
  refine ⟨E', rfl, rfl, ⟨by simp [E', fzSt, hb, hlen], fun i bi g' z' h1 h2 hli => ?_, hc.inj, fun g' h => ?_, hc.lt⟩, fun d v hr => key d v hr, ⟨Nat.le_refl _, rfl, rfl, rfl, fun _ h => .inl h, fun g' h => ?_, fun _ _ _ => rfl, fun i bi gz h1 h2 => ?_, fun i gz h1 h2 => by rw [show E'.σ = E.σ from rfl, h1] at h2; cases h2⟩, fun k hkb F hF hFk hx => ?_⟩
  · by_cases e : i = b
    · subst e
      rw [hstb] at h1
      cases h1
      cases hli
    · rw [hst' i e] at h1
      cases hi : E.st[i]? with
      | none => rw [hi] at h1; cases h1
      | some bi0 =>
        rw [hi] at h1
        simp only [Option.map_some, Option.some.injEq] at h1
        subst h1
        obtain ⟨cur', c1, c2, c3, c4, c5, c6, c7, c8⟩ := hc.box i bi0 g' z' hi h2 hli
        refine ⟨cur', c1, c2, by simpa [fzBox, fzL_eq] using c3, fun he => by simpa [fzBox, fzL_eq] using c4 he, c5, fun hS => ?_, fun j d hj => ?_, c8⟩
        · rcases hS with hS | hS
          · exact c6 hS
          · exact e (hc.inj i b g' z' g z h2 hg hS)
        · simp only [fzBox, fzL_eq, List.getElem?_map] at hj
          cases hd : bi0.cells[j]? with
          | none => rw [hd] at hj; cases hj
          | some d0 =>
            rw [hd] at hj
            simp only [Option.map_some, Option.some.injEq] at hj
            subst hj
            obtain ⟨u, q1, q2, q3⟩ := c7 j d0 hd
            exact ⟨u, q1, q2, key d0 u q3⟩
  · rcases h with h | h
    · exact hc.old g' h
    · subst h; exact hc.lt b _ z hg
  · rcases h with h | h
    · exact .inl h
    · subst h; exact .inr (.inr ⟨b, z, hg⟩)
  · by_cases e : i = b
    · subst e
      rw [hb] at h1; cases h1
      exact ⟨_, gz, hstb, h2, Nat.le_succ _, fun e => absurd e (by simp), fun _ => rfl, .inl rfl⟩
    · exact ⟨fzBox b bx.ver sz xs bi, gz, by rw [hst' i e, h1]; rfl, h2, Nat.le_refl _, fun _ => rfl, id, .inl rfl⟩
  · refine ⟨hx.size, hx.os, hx.tape, hx.output, fun g' h => .inl (hx.set g' h), fun g' h => ?_, hx.heap, fun i bi gz h1 h2 => ?_, hx.new⟩
    · rcases h with h | h
      · exact hx.fresh g' h
      · subst h
        exact .inr (.inl (hx.new b (_, z) (List.getElem?_eq_none_iff.2 (by omega)) hg))
    · have hi := (List.getElem?_eq_some_iff.1 h1).1
      obtain ⟨bi', gz', q1, q2, q3, q4, q5, q6⟩ := hx.box i bi gz h1 h2
      exact ⟨fzBox b bx.ver sz xs bi', gz', by rw [hst' i (by omega), q1]; rfl, q2, q3, q4, q5, q6⟩
theorem Turn.freeze {k : Nat} {st : Store} (b sz : Nat) (xs : List (List PD)) (bx : Box) (hb : st[b]? = some bx) (hl : bx.live = true) (hkb : k ≤ b) (hcells : bx.cells = rowsD xs) (hsz : ∀ x ∈ xs, x.length = sz) :
    Turn k st (fzSt b sz xs st) fun d d' => d' = fzD b bx.ver sz xs d := by
  intro E hc hst
  obtain ⟨E', a1, a2, a3, a4, _, a5⟩ := freeze_env b sz xs bx hb hl hcells hsz E hc hst
  exact ⟨E', a1, a2, a3, fun d d' v ht hr => by subst ht; exact a4 d v hr, a5 k hkb⟩
end Go.Proofs.Ytadnpgkddgbhkaa
namespace Go.Proofs.Ytadnpgkddgbhkaa
open Go.RowKit
set_option linter.all false
def initS (args : List DV) : Slots := fun i => match args[i]? with
  | some d => d
  | none => .d (.sc undef)
/-- The results. -/
def resD (P : Program) (s : Slots) (st : Store) : List ResultVar → (List DV → Prop) → Prop
  | [], K => K []
  | .tmp t :: rs, K => resD P s st rs fun ds => K (s t :: ds)
  | .cell p ty :: rs, K => loadD P st ty (s p) fun d => resD P s st rs fun ds => K (d :: ds)
def oneD : List DV → DV
  | [d] => d
  | ds => .tup ds
/-- The contract holds of what is left, told this way or another. -/
def RetW (k : Nat) (R : DV → Store → Prop) (d : DV) (st : Store) : Prop := ∃ d' st', TellsV k d st d' st' ∧ R d' st'
theorem RetW.refl {k : Nat} {R : DV → Store → Prop} {d : DV} {st : Store} (h : R d st) : RetW k R d st := ⟨d, st, TellsV.refl k d st, h⟩
def retQ (P : Program) (rs : List ResultVar) (k : Nat) (R : DV → Store → Prop) : Exit → Slots → Store → Prop
  | .ret, s, st => resD P s st rs fun ds => RetW k R (oneD ds) st
  | .normal, s, st => resD P s st rs fun ds => RetW k R (oneD ds) st
  | _, _, _ => False
def resF (tmps : Array Value) : ResultVar → Sem Value
  | .tmp t => pure (tmps.getD t undef)
  | .cell p t => do loadVar t (← asAddr (tmps.getD p undef))
theorem res_ok {P : Program} {E : Env} {N : Nat} {s : Slots} {a : Act} (hc : Conc E) (hs : SlotsOk E N s a) : ∀ (rs : List ResultVar) (K : List DV → Prop), resD P s E.st rs K →
    ∃ (vs : List Value) (ds : List DV), (rs.mapM (resF a.tmps)).run P E.w = Result.ok vs E.w ∧ Reps E ds vs ∧ K ds
  | [], K, h => ⟨[], [], by simp, trivial, h⟩
  | .tmp t :: rs, K, h => by
      obtain ⟨vs, ds, h1, h2, h3⟩ := res_ok hc hs rs _ h
      exact ⟨a.tmps.getD t undef :: vs, s t :: ds, by simp only [List.mapM_cons, resF, Sem.run_bind, Sem.run_pure, Result.andThen_ok, h1], ⟨hs.rep t, h2⟩, h3⟩
  | .cell p ty :: rs, K, h => by
      obtain ⟨u, d, h0, h1, h2⟩ := load_ok hc (hs.rep p) h
      obtain ⟨vs, ds, h3, h4, h5⟩ := res_ok hc hs rs _ h1
      refine ⟨u :: vs, d :: ds, ?_, ⟨h2, h4⟩, h5⟩
      generalize hp : a.tmps.getD p undef = q at h0
      have key : (do loadVar ty (← asAddr q) : Sem Value).run P E.w = .ok u E.w := by
        unfold Instr.loadAt Instr.sureAddr at h0
        cases q <;> try (simp at h0; done)
        rename_i o
        cases o
        · simp at h0
        · simpa [asAddr] using h0
      rw [← hp] at key
      simp only [List.mapM_cons, resF, Sem.run_bind] at key ⊢
      rw [key]
      simp only [Result.andThen_ok, h3, Sem.run_pure]
theorem FnD_intro {P : Program} {f : FuncId} {fn : Func} {c : Code} {N : Nat} {args : List DV} {st : Store} {R : DV → Store → Prop} (hf : P.funcs[f]? = some fn) (hb : fn.body = some c) (hN : fn.ntmps = N) (ha : args.length ≤ N)
    (h : wpD P N c (retQ P fn.results.toList st.length R) (initS args) st) : FnD P f args st R := by
  intro E vs hc hst hr
  subst hst
  have hlen := hr.length
  have hs : SlotsOk E N (initS args) { tmps := vs.toArray ++ Array.replicate (fn.ntmps - vs.toArray.size) undef, defers := [] } := by
    refine ⟨by simp; omega, fun i => ?_, rfl⟩
    simp only [initS]
    rw [Array.getD_eq_getD_getElem?]
    by_cases hi : i < vs.length
    · rw [Array.getElem?_append_left (by simpa using hi), List.getElem?_toArray]
      rw [List.getElem?_eq_getElem (show i < args.length by omega)]
      obtain ⟨v, e1, e2⟩ := hr.get _ _ i _ (List.getElem?_eq_getElem (show i < args.length by omega))
      rw [e1]
      exact e2
    · rw [List.getElem?_eq_none (show args.length ≤ i by omega)]
      rw [Array.getElem?_append_right (by simp; omega)]
      show _ = undef
      rw [Array.getElem?_replicate]
      split <;> rfl
  refine calls_of_wp hf hb (wp_mono (h E _ hc rfl hs) ?_)
  rintro e a' w' ⟨s', E', rfl, hq, h1, h2, h3⟩
  have fin : resD P s' E'.st fn.results.toList (fun ds => RetW E.st.length R (oneD ds) E'.st) → a'.defers = [] ∧ ∃ v, (results fn a'.tmps).run P E'.w = .ok v E'.w ∧ ∃ (v' : Value) (E2 : Env) (r : DV), Ending.returned v = .returned v' ∧ E2.w = E'.w ∧ R r E2.st ∧ Conc E2 ∧ Ext E E2 ∧ Rep E2 r v' := by
    intro hq
    obtain ⟨us, ds, k1, k2, d', st', k3, k4⟩ := res_ok h1 h3 _ _ hq
    have hrep : Rep E' (oneD ds) (if h : us.toArray.size = 1 then us.toArray[0] else .tuple us.toArray) := by
      match ds, us, k2 with
      | [], [], _ => exact ⟨[], rfl, trivial⟩
      | [d], [u], ⟨q1, _⟩ => exact q1
      | d :: d2 :: ds, u :: u2 :: us, q => exact ⟨u :: u2 :: us, by simp, q⟩
    obtain ⟨E2, m1, m2, m3, m4, m5⟩ := k3 E' _ h1 rfl hrep
    refine ⟨h3.defers, _, ?_, _, E2, d', rfl, m1, by rw [m2]; exact k4, m3, m5 E hc.len (Nat.le_refl _) h2, m4⟩
    have hfun : (results fn a'.tmps) = (do let vs ← fn.results.mapM (resF a'.tmps); pure (if h : vs.size = 1 then vs[0] else .tuple vs)) := by
      unfold results
      congr 2
    rw [hfun, Array.mapM_eq_mapM_toList]
    simp only [Sem.run_bind, Sem.run_map, k1, Result.andThen_ok, Sem.run_pure]
  cases e <;> first
    | exact hq.elim
    | exact fin hq
/-- Plain: no box is spoken of. -/
def pureD (d : DV) : Bool := closedD 0 d
mutual
theorem renD_pure (φ : Nat → Nat) : ∀ d : DV, closedD 0 d = true → renD φ d = d
  | .any, _ => rfl
  | .d _, _ => rfl
  | .agg cs, h => by simp only [renD, renL_pure φ cs h]
  | .tup cs, h => by simp only [renD, renL_pure φ cs h]
  | .fn _ cs, h => by simp only [renD, renL_pure φ cs h]
  | .ref _ _ _, h => by simp [closedD] at h
  | .cref _, _ => rfl
  | .view _ _ _ _ _, h => by simp [closedD] at h
theorem renL_pure (φ : Nat → Nat) : ∀ ds : List DV, closedL 0 ds = true → renL φ ds = ds
  | [], _ => rfl
  | d :: ds, h => by
      simp only [closedL, Bool.and_eq_true] at h
      simp only [renL, renD_pure φ d h.1, renL_pure φ ds h.2]
end
mutual
theorem closedD_mono {n m : Nat} (hm : n ≤ m) : ∀ d : DV, closedD n d = true → closedD m d = true
  | .any, _ => rfl
  | .d _, _ => rfl
  | .agg cs, h => closedL_mono hm cs h
  | .tup cs, h => closedL_mono hm cs h
  | .fn _ cs, h => closedL_mono hm cs h
  | .ref b _ _, h => by simp only [closedD, decide_eq_true_eq] at h ⊢; omega
  | .cref _, _ => rfl
  | .view _ b _ _ _, h => by simp only [closedD, decide_eq_true_eq] at h ⊢; omega
theorem closedL_mono {n m : Nat} (hm : n ≤ m) : ∀ ds : List DV, closedL n ds = true → closedL m ds = true
  | [], _ => rfl
  | d :: ds, h => by
      simp only [closedL, Bool.and_eq_true] at h ⊢
      exact ⟨closedD_mono hm d h.1, closedL_mono hm ds h.2⟩
end
/-- A contract over plain data: called with plain data it gives plain data that meet Q, whatever boxes there are. -/
def FnP (P : Program) (f : FuncId) (args : List DV) (Q : DV → Prop) : Prop := FnD P f args [] fun r st => st = [] ∧ pureD r = true ∧ Q r
theorem FnP.use {P : Program} {f : FuncId} {args : List DV} {Q : DV → Prop} (h : FnP P f args Q) {st : Store} (ha : closedL 0 args = true) {K : DV → Store → Prop} (hk : ∀ r, Q r → pureD r = true → K r st) : FnD P f args st K := by
  have := FnD.frame (st := st) h [] List.nodup_nil (by simp) rfl (by simp) ha
  rw [renL_pure _ args ha] at this
  refine this.mono ?_
  rintro r st' ⟨r0, stc, ⟨rfl, hp, hq⟩, _, rfl, rfl⟩
  rw [renD_pure _ r0 hp]
  have hm : mergeL st [] (([] : Store).map (Box.ren (place [] st.length))) = st := by
    apply List.ext_getElem?
    intro i
    simp [mergeL]
  rw [hm]
  exact hk r0 hq hp
theorem FnP.mono {P : Program} {f : FuncId} {args : List DV} {Q Q' : DV → Prop} (h : FnP P f args Q) (hq : ∀ r, Q r → Q' r) : FnP P f args Q' := FnD.mono h fun _ _ ⟨a, b, c⟩ => ⟨a, b, hq _ c⟩
/-- Its result is this. -/
abbrev FnV (P : Program) (f : FuncId) (args : List DV) (r : DV) : Prop := FnP P f args fun d => d = r
theorem FnV.use {P : Program} {f : FuncId} {args : List DV} {r : DV} (h : FnV P f args r) {st : Store} (ha : closedL 0 args = true) {K : DV → Store → Prop} (hk : K r st) : FnD P f args st K :=
  FnP.use h ha fun _ e _ => by subst e; exact hk
/-- At the end of a function over plain data: all its boxes are let go. -/
theorem RetW.drop {Q : DV → Prop} {d : DV} {st : Store} (hp : pureD d = true) (h : Q d) : RetW 0 (fun r st => st = [] ∧ pureD r = true ∧ Q r) d st := by
  refine ⟨d, [], ?_, rfl, hp, h⟩
  have := TellsV.turn (k := 0) (st := st) (d := d) (d' := pullD [] d) (Turn.keep [] List.nodup_nil (by simp) (fun b hb => by omega) (Nat.le_refl _)) rfl
  have e : pullD [] d = d := pullD_pure [] d hp
  rw [e] at this
  exact this
where
  pullD_pure (κ : List Nat) : ∀ d : DV, closedD 0 d = true → pullD κ d = d := by
    intro d
    refine DV.rec (motive_1 := fun d => closedD 0 d = true → pullD κ d = d) (motive_2 := fun ds => closedL 0 ds = true → pullL κ ds = ds) ?_ ?_ ?_ ?_ ?_ ?_ ?_ ?_ ?_ ?_ d
    · intro _; rfl
    · intro _ _; rfl
    · intro cs ih h; simp only [pullD, ih h]
    · intro cs ih h; simp only [pullD, ih h]
    · intro b v o h; simp [closedD] at h
    · intro _ _; rfl
    · intro a b c d e h; simp [closedD] at h
    · intro f cs ih h; simp only [pullD, ih h]
    · intro _; rfl
    · intro d ds h1 h2 h
      simp only [closedL, Bool.and_eq_true] at h
      simp only [pullL, h1 h.1, h2 h.2]
end Go.Proofs.Ytadnpgkddgbhkaa
namespace Go.Proofs.Ytadnpgkddgbhkaa
open Go.RowKit
set_option linter.all false
/-- Functions whose results are known: what a call of them with these gives. -/
abbrev Known := List (FuncId × (List DV → Option DV))
def findH : Known → FuncId → List DV → Option DV
  | [], _, _ => none
  | (g, h) :: H, f, args => if f = g then h args else findH H f args
def knowsH : Known → FuncId → Bool
  | [], _ => false
  | (g, _) :: H, f => if f = g then true else knowsH H f
def Sound (P : Program) (H : Known) : Prop := ∀ f args r, findH H f args = some r → FnV P f args r
def knownD (P : Program) (H : Known) (f : FuncId) (args : List DV) (st : Store) (K : DV → Store → Prop) : Prop :=
  match findH H f args with
  | some r => closedL 0 args = true ∧ K r st
  | none => FnD P f args st K
def callE (P : Program) (H : Known) (c : Call) (s : Slots) (st : Store) (K : DV → Store → Prop) : Prop :=
  match c.callee with
  | .value (.func f) => (hasBody P f = true ∧ knownD P H f (c.args.toList.map (ev s)) st K) ∨ ovlD P f (c.args.toList.map (ev s)) st K
  | _ => callD P c s st K
theorem callE_ok {P : Program} {H : Known} (hH : Sound P H) {c : Call} {s : Slots} {st : Store} {K : DV → Store → Prop} (h : callE P H c s st K) : callD P c s st K := by
  unfold callE at h
  split at h
  · rename_i f hf
    unfold callD
    rw [hf]
    rcases h with ⟨hb, h⟩ | h
    rotate_left
    · exact .inr h
    refine .inl ⟨hb, ?_⟩
    unfold knownD at h
    split at h
    · rename_i r hr
      exact FnV.use (hH f _ r hr) h.1 h.2
    · exact h
  · exact h
def opE (P : Program) (H : Known) (o : Op) (s : Slots) (st : Store) (K : DV → Store → Prop) : Prop :=
  match o with
  | .call c => callE P H c s st K
  | o => opD P o s st K
theorem opE_ok {P : Program} {H : Known} (hH : Sound P H) {o : Op} {s : Slots} {st : Store} {K : DV → Store → Prop} (h : opE P H o s st K) : opD P o s st K := by
  unfold opE at h
  split at h
  · exact callE_ok hH h
  · exact h
def runG (P : Program) (H : Known) (N : Nat) (o : Oper) (s : Slots) (st : Store) (K : Slots → Store → Prop) : Prop := dstOk N o.dst ∧ opE P H o.op s st fun d st' => K (putS o.dst d s) st'
def skipG (N : Nat) (o : Oper) (s : Slots) (st : Store) (K : Slots → Store → Prop) : Prop := dstOk N o.dst ∧ K (putS o.dst (.d (.sc (.tuple #[]))) s) st
/-- A step, the guard's flag told in each case. -/
def stepG (P : Program) (H : Known) (N : Nat) (ops : Array Oper) (o : Oper) (s : Slots) (st : Store) (K : Slots → Store → Prop) : Prop :=
  match o.guard with
  | none => runG P H N o s st K
  | some (j, w) => match slotOf ops j with
    | none => skipG N o s st K
    | some k => match s k with
      | .d (.sc (.bool t)) => if t = w then runG P H N o (upd s k (.d (.sc (.bool w)))) st K else skipG N o (upd s k (.d (.sc (.bool (!w))))) st K
      | .d (.sc (.tuple _)) => skipG N o s st K
      | _ => False
theorem upd_self {s : Slots} {k : Nat} {d : DV} (h : s k = d) : upd s k d = s := by
  funext i
  simp only [upd_eq]
  split
  · rename_i e; rw [e, h]
  · rfl
def opsG (P : Program) (H : Known) (N : Nat) (ops : Array Oper) : List Oper → Slots → Store → (Slots → Store → Prop) → Prop
  | [], s, st, Q => Q s st
  | o :: rest, s, st, Q => stepG P H N ops o s st fun s' st' => opsG P H N ops rest s' st' Q
end Go.Proofs.Ytadnpgkddgbhkaa
namespace Go.Proofs.Ytadnpgkddgbhkaa
open Go.RowKit
set_option linter.all false
/-- Operations that turn the store. -/
def turns : Op → Bool
  | .store .. => true
  | .alloc _ => true
  | .box .. => true
  | .buildSlice .. => true
  | .makeSlice .. => true
  | .call c => match c.callee with
    | .builtin .append => true
    | .builtin .copy => true
    | .builtin .clear => true
    | _ => false
  | _ => false
/-- They stand in a row. -/
def turnsB (ops : Array Oper) : Bool := (List.range ops.size).all fun j => (List.range j).all fun i => match ops[i]?, ops[j]? with
  | some a, some b => !(turns a.op && turns b.op) || b.after.any fun e => Region.binds .any e && e.on == i
  | _, _ => true
theorem turnsB_spec {ops : Array Oper} (h : turnsB ops = true) {i j : Nat} {a b : Oper} (hi : ops[i]? = some a) (hj : ops[j]? = some b) (hij : i < j) (ha : turns a.op = true) (hb : turns b.op = true) : ∃ e ∈ b.after, Region.binds .any e = true ∧ e.on = i := by
  unfold turnsB at h
  rw [List.all_eq_true] at h
  have hjs : j < ops.size := by
    rcases Nat.lt_or_ge j ops.size with h' | h'
    · exact h'
    · rw [Array.getElem?_eq_none h'] at hj; cases hj
  have h1 := h j (by simpa using hjs)
  rw [List.all_eq_true] at h1
  have h2 := h1 i (by simpa using hij)
  rw [hi, hj] at h2
  simp only [ha, hb, Bool.and_self, Bool.not_true, Bool.false_or, Array.any_eq_true, Bool.and_eq_true, beq_iff_eq] at h2
  obtain ⟨q, hq, h3, h4⟩ := h2
  exact ⟨_, Array.getElem_mem hq, h3, h4⟩
/-- In these slots, with these boxes, the operation yields this and leaves these boxes. -/
def Stp (P : Program) (ops : Array Oper) (o : Oper) (s : Slots) (st : Store) (d : DV) (st' : Store) : Prop :=
  (wantedD ops o.guard s = some true ∧ ∀ K : DV → Store → Prop, K d st' → opD P o.op s st K) ∨ (wantedD ops o.guard s = some false ∧ d = .d (.sc undef) ∧ st' = st)
theorem Stp.put {P : Program} {ops : Array Oper} {o : Oper} {s : Slots} {st st' : Store} {d e : DV} {dst : Option Nat} (hap : ∀ t, dst = some t → t ∉ o.looksAt ops) : Stp P ops o (putS dst e s) st d st' ↔ Stp P ops o s st d st' := by
  unfold Stp
  rw [wantedD_put hap]
  have : ∀ K, opD P o.op (putS dst e s) st K = opD P o.op s st K := fun K => opD_congr fun x hx => ev_put fun t ht hxt => by
    subst hxt
    exact hap t ht (mem_looks hx)
  simp only [this]
/-- A step at place k of the row of stores. -/
def StepS (P : Program) (ops : Array Oper) (sts : Nat → Store) (m : Nat) (o : Oper) (s : Slots) (k : Nat) (d : DV) (k' : Nat) : Prop :=
  if turns o.op = true then Stp P ops o s (sts k) d (sts k') ∧ k' = k + 1 ∧ k < m else (∀ q, q ≤ m → Stp P ops o s (sts q) d (sts q)) ∧ k' = k
theorem StepS.put {P : Program} {ops : Array Oper} {sts : Nat → Store} {m : Nat} {o : Oper} {s : Slots} {k k' : Nat} {d e : DV} {dst : Option Nat} (hap : ∀ t, dst = some t → t ∉ o.looksAt ops) : StepS P ops sts m o (putS dst e s) k d k' ↔ StepS P ops sts m o s k d k' := by
  unfold StepS
  simp only [Stp.put hap]
def anyS (P : Program) (N : Nat) (ops : Array Oper) (sts : Nat → Store) (m : Nat) (Q : Slots → Prop) : Nat → Array Bool → Slots → Nat → Prop
  | 0, listed, s, k => Region.ready .any ops listed = [] ∧ k = m ∧ Q s
  | fuel + 1, listed, s, k => (Region.ready .any ops listed = [] → k = m ∧ Q s) ∧
      ∀ i ∈ Region.ready .any ops listed, ∀ o, ops[i]? = some o → ∃ d k', StepS P ops sts m o s k d k' ∧ dstOk N o.dst ∧ anyS P N ops sts m Q fuel (listed.setIfInBounds i true) (putS o.dst d s) k'
theorem anyD_of_S {P : Program} {N : Nat} {ops : Array Oper} {sts : Nat → Store} {m : Nat} {Q : Slots → Store → Prop} : ∀ (fuel : Nat) (listed : Array Bool) (s : Slots) (k : Nat), k ≤ m → anyS P N ops sts m (fun s => Q s (sts m)) fuel listed s k → anyD P N ops Q fuel listed s (sts k)
  | 0, _, _, k, _, ⟨h1, h2, h3⟩ => ⟨h1, by subst h2; exact h3⟩
  | fuel + 1, listed, s, k, hm, h => by
      refine ⟨fun h0 => by obtain ⟨h2, h3⟩ := h.1 h0; subst h2; exact h3, fun i hi => ?_⟩
      obtain ⟨o, ho⟩ := ready_some hi
      obtain ⟨d, k', hs, hd, hK⟩ := h.2 i hi o ho
      rw [ho]
      have key : k' ≤ m ∧ Stp P ops o s (sts k) d (sts k') := by
        unfold StepS at hs
        split at hs
        · exact ⟨by omega, hs.1⟩
        · obtain ⟨h1, rfl⟩ := hs
          exact ⟨hm, h1 _ hm⟩
      have ih := anyD_of_S fuel _ _ k' key.1 hK
      rcases key.2 with ⟨hw, hy⟩ | ⟨hw, rfl, hst⟩
      · simp only [stepD, hw]
        exact ⟨hd, hy _ ih⟩
      · simp only [stepD, hw]
        rw [hst] at ih
        exact ⟨hd, ih⟩
theorem anyS_first {P : Program} {N : Nat} {ops : Array Oper} {sts : Nat → Store} {m : Nat} {Q : Slots → Prop} (hT : turnsB ops = true) {i : Nat} {oi : Oper} {d : DV} (hi : ops[i]? = some oi) : ∀ (fuel : Nat) (listed : Array Bool) (s : Slots) (k k' : Nat),
    (∀ j oj, ops[j]? = some oj → j ≠ i → listed.getD j true = false → (∀ e ∈ oj.after, Region.binds .any e = true → e.on ≠ i) → oi.apart ops oj = true) →
    i ∈ Region.ready .any ops listed → StepS P ops sts m oi s k d k' → dstOk N oi.dst → anyS P N ops sts m Q fuel (listed.setIfInBounds i true) (putS oi.dst d s) k' → anyS P N ops sts m Q (fuel + 1) listed s k := by
  intro fuel
  induction fuel with
  | zero =>
    intro listed s k k' _ hr hy hd H
    refine ⟨fun h => (by rw [h] at hr; cases hr), fun j hj oj hoj => ?_⟩
    by_cases hji : j = i
    · subst hji
      rw [hi] at hoj; cases hoj
      exact ⟨d, k', hy, hd, H⟩
    · have := ready_mono hj hji
      rw [H.1] at this
      cases this
  | succ fuel ih =>
    intro listed s k k' hfree hr hy hd H
    refine ⟨fun h => (by rw [h] at hr; cases hr), fun j hj oj hoj => ?_⟩
    by_cases hji : j = i
    · subst hji
      rw [hi] at hoj; cases hoj
      exact ⟨d, k', hy, hd, H⟩
    · obtain ⟨dj, kj, hyj, hdj, hK⟩ := H.2 j (ready_mono hj hji) oj hoj
      obtain ⟨hjun, oj', hoj', hall⟩ := mem_ready.1 hj
      rw [hoj] at hoj'; cases hoj'
      obtain ⟨hiun, oi', hoi', halli⟩ := mem_ready.1 hr
      rw [hi] at hoi'; cases hoi'
      have unl : ∀ q, listed.getD q true = false → listed.getD q false = true → False := fun q h0 h1 => by
        rcases Nat.lt_or_ge q listed.size with h' | h'
        · simp [h'] at h0 h1; rw [h0] at h1; cases h1
        · simp [Array.getElem?_eq_none h'] at h1
      have hnot : ∀ e ∈ oj.after, Region.binds .any e = true → e.on ≠ i := fun e he hb heq => by
        have h1 := hall e he hb
        rw [heq] at h1
        exact unl i hiun h1
      have hnoti : ∀ e ∈ oi.after, Region.binds .any e = true → e.on ≠ j := fun e he hb heq => by
        have h1 := halli e he hb
        rw [heq] at h1
        exact unl j hjun h1
      have hboth : turns oi.op = true → turns oj.op = true → False := fun h1 h2 => by
        rcases Nat.lt_or_gt_of_ne hji with h | h
        · obtain ⟨e, e1, e2, e3⟩ := turnsB_spec hT hoj hi h h2 h1
          exact hnoti e e1 e2 e3
        · obtain ⟨e, e1, e2, e3⟩ := turnsB_spec hT hi hoj h h1 h2
          exact hnot e e1 e2 e3
      obtain ⟨a1, a2, a3⟩ := Oper.apart_spec (hfree j oj hoj hji hjun hnot)
      have hfree' : ∀ k ok, ops[k]? = some ok → k ≠ i → (listed.setIfInBounds j true).getD k true = false →
          (∀ e ∈ ok.after, Region.binds .any e = true → e.on ≠ i) → oi.apart ops ok = true := fun k ok hk hki hun hno => by
        refine hfree k ok hk hki ?_ hno
        by_cases hjk : j = k
        · subst hjk; exact hjun
        · rw [getD_set_ne true hjk] at hun; exact hun
      have hyj' := (StepS.put a1).1 hyj
      have swap : ∃ k1, StepS P ops sts m oj s k dj k1 ∧ StepS P ops sts m oi s k1 d kj := by
        unfold StepS at hy hyj' ⊢
        by_cases h1 : turns oi.op = true
        · by_cases h2 : turns oj.op = true
          · exact (hboth h1 h2).elim
          · rw [if_pos h1] at hy
            rw [if_neg h2] at hyj'
            obtain ⟨q1, rfl⟩ := hyj'
            refine ⟨k, ?_, ?_⟩
            · rw [if_neg h2]; exact ⟨q1, rfl⟩
            · rw [if_pos h1]; exact hy
        · rw [if_neg h1] at hy
          obtain ⟨q1, rfl⟩ := hy
          refine ⟨kj, hyj', ?_⟩
          rw [if_neg h1]
          exact ⟨q1, rfl⟩
      obtain ⟨k1, w1, w2⟩ := swap
      refine ⟨dj, k1, w1, hdj, ih (listed.setIfInBounds j true) _ k1 kj hfree' (ready_mono hr (Ne.symm hji)) ((StepS.put a3).2 w2) hd ?_⟩
      rw [Array.setIfInBounds_comm _ _ hji, ← putS_comm a2]
      exact hK
def lexS (P : Program) (N : Nat) (ops : Array Oper) (sts : Nat → Store) (m : Nat) (Q : Slots → Prop) : List Oper → Slots → Nat → Prop
  | [], s, k => k = m ∧ Q s
  | o :: rest, s, k => ∃ d k', StepS P ops sts m o s k d k' ∧ dstOk N o.dst ∧ lexS P N ops sts m Q rest (putS o.dst d s) k'
theorem anyS_lex {P : Program} {N : Nat} {ops : Array Oper} {sts : Nat → Store} {m : Nat} {Q : Slots → Prop} (hT : turnsB ops = true) : ∀ (l : List Oper) (k : Nat) (listed : Array Bool) (s : Slots) (n : Nat), (∀ j, l[j]? = ops[k + j]?) →
    Region.lexFrom .any ops l.length k listed = true → lexS P N ops sts m Q l s n → anyS P N ops sts m Q l.length listed s n
  | [], _, _, _, _, _, hB, h => ⟨by simpa [Region.lexFrom] using hB, h⟩
  | o :: l, k, listed, s, n, hl, hB, h => by
    have h0 : ops[k]? = some o := by simpa using (hl 0).symm
    simp only [List.length_cons, Region.lexFrom, Bool.and_eq_true] at hB
    obtain ⟨⟨hr, hf⟩, hB'⟩ := hB
    obtain ⟨d, k', hy, hd, hK⟩ := h
    exact anyS_first hT h0 l.length listed s n k' (Region.free_spec h0 hf) (by simpa using hr) hy hd
      (anyS_lex hT l (k + 1) _ _ k' (fun j => by have := hl (j + 1); simpa [Nat.add_assoc, Nat.add_comm 1 j] using this) hB' hK)
theorem wpD_S {P : Program} {N : Nat} {Q : Exit → Slots → Store → Prop} {s : Slots} {id : Nat} {l : List Oper} (sts : Nat → Store) (m : Nat) (hm : P.follows .mixedOrders = true) (hB : Region.lexB .any l.toArray = true) (hT : turnsB l.toArray = true)
    (h : lexS P N l.toArray sts m (fun s' => Q .normal s' (sts m)) l s 0) : wpD P N (.region id l.toArray true) Q s (sts 0) := by
  refine wpD_any hm (anyD_of_S (sts := sts) (m := m) _ _ _ 0 (Nat.zero_le m) ?_)
  simp only [Region.lexB, Bool.and_eq_true] at hB
  exact anyS_lex hT l 0 (Array.replicate l.length false) s 0 (by simp) (by simpa using hB.2) h
end Go.Proofs.Ytadnpgkddgbhkaa
namespace Go.Proofs.Ytadnpgkddgbhkaa
open Go.RowKit
set_option linter.all false
def yieldE (A X : DV → Prop) : Prop := ∃ d, A d ∧ X d
theorem yieldE_eq (v : DV) (X : DV → Prop) : yieldE (fun d => d = v) X ↔ X v := ⟨fun ⟨_, e, h⟩ => e ▸ h, fun h => ⟨v, rfl, h⟩⟩
theorem yieldE_and (c : Prop) (A X : DV → Prop) : yieldE (fun d => c ∧ A d) X ↔ c ∧ yieldE A X := ⟨fun ⟨d, ⟨h1, h2⟩, h3⟩ => ⟨h1, d, h2, h3⟩, fun ⟨h1, d, h2, h3⟩ => ⟨d, ⟨h1, h2⟩, h3⟩⟩
theorem pureK (d v : DV) (st w : Store) : (∀ K : DV → Store → Prop, K d st → K v w) ↔ d = v ∧ st = w :=
  ⟨fun h => h (fun x y => d = x ∧ st = y) ⟨rfl, rfl⟩, fun ⟨e, g⟩ _ h => e ▸ g ▸ h⟩
theorem pureKc (d : DV) (st : Store) (c : Prop) (X : (DV → Store → Prop) → Prop) : (∀ K : DV → Store → Prop, K d st → c ∧ X K) ↔ c ∧ ∀ K : DV → Store → Prop, K d st → X K :=
  ⟨fun h => ⟨(h (fun _ _ => True) trivial).1, fun K hK => (h K hK).2⟩, fun h _ hK => ⟨h.1, h.2 _ hK⟩⟩
theorem updW_is : ∃ f : (Nat → Bool) → Nat → Bool → Nat → Bool, ∀ s k v i, f s k v i = if i = k then v else s i := ⟨fun s k v i => if i = k then v else s i, fun _ _ _ _ => rfl⟩
noncomputable def updW : (Nat → Bool) → Nat → Bool → Nat → Bool := Classical.choose updW_is
theorem updW_eq (s : Nat → Bool) (k : Nat) (v : Bool) (i : Nat) : updW s k v i = if i = k then v else s i := Classical.choose_spec updW_is s k v i
noncomputable def putW (dst : Option Nat) (b : Bool) (wt : Nat → Bool) : Nat → Bool := match dst with
  | none => wt
  | some i => updW wt i b
/-- Operations that may be reckoned though they are not wanted. -/
def specOk (H : Known) : Op → Bool
  | .move _ => true
  | .assign _ => true
  | .pick .. => true
  | .load .. => true
  | .unOp .. => true
  | .convert .. => true
  | .field .. => true
  | .fieldAddr .. => true
  | .extract .. => true
  | .binOp op .. => match op with
    | .quo => false
    | .rem => false
    | .shl => false
    | .shr => false
    | _ => true
  | .call c => match c.callee with
    | .builtin .len => true
    | .value (.func f) => knowsH H f
    | _ => false
  | _ => false
def opnd (W : Bool) (wt : Nat → Bool) : Operand → Prop
  | .tmp t => W = true → wt t = true
  | _ => True
def wtOk (W : Bool) (wt : Nat → Bool) : List Operand → Prop
  | [] => True
  | x :: l => opnd W wt x ∧ wtOk W wt l
/-- What it looks at was reckoned, if it is wanted. -/
def readsOk (W : Bool) (wt : Nat → Bool) (sp : Slots) (o : Op) : Prop :=
  match o with
  | .pick c a b => opnd W wt c ∧ (match ev sp c with
    | .d (.sc (.bool t)) => opnd (W && t) wt a ∧ opnd (W && !t) wt b
    | _ => False)
  | o => wtOk W wt o.operands.toList
def Spec (s sp : Slots) (wt : Nat → Bool) : Prop := ∀ k, s k = if wt k = true then sp k else .d (.sc undef)
theorem opnd_ev {s sp : Slots} {wt : Nat → Bool} (hI : Spec s sp wt) {W : Bool} {x : Operand} (h : opnd W wt x) (hW : W = true) : ev s x = ev sp x := by
  cases x with
  | tmp t =>
    have := hI t
    rw [if_pos (h hW)] at this
    exact this
  | const v => rfl
  | global g => rfl
  | func f => rfl
theorem wtOk_ev {s sp : Slots} {wt : Nat → Bool} (hI : Spec s sp wt) {W : Bool} (hW : W = true) : ∀ {l : List Operand}, wtOk W wt l → ∀ x ∈ l, ev s x = ev sp x
  | [], _, _, hx => by cases hx
  | y :: l, h, x, hx => by
      rcases List.mem_cons.1 hx with rfl | hx
      · exact opnd_ev hI h.1 hW
      · exact wtOk_ev hI hW h.2 x hx
theorem pickD_turn {t : Bool} {a b a' b' : DV} {K : DV → Prop} (ha : t = true → a' = a) (hb : t = false → b' = b) (h : pickD (.d (.sc (.bool t))) a b K) : pickD (.d (.sc (.bool t))) a' b' K := by
  have two : (t = true → K a) ∧ (t = false → K b) := by
    unfold pickD at h
    simp only at h
    split at h
    · cases t
      · exact ⟨fun e => (by cases e), fun _ => h⟩
      · exact ⟨fun _ => h, fun e => (by cases e)⟩
    · exact h
  have two' : (t = true → K a') ∧ (t = false → K b') := ⟨fun e => by rw [ha e]; exact two.1 e, fun e => by rw [hb e]; exact two.2 e⟩
  unfold pickD
  simp only
  split
  · cases t
    · exact two'.2 rfl
    · exact two'.1 rfl
  · exact two'
theorem readsOk_D {P : Program} {s sp : Slots} {wt : Nat → Bool} (hI : Spec s sp wt) {W : Bool} (hW : W = true) {o : Op} (h : readsOk W wt sp o) {st : Store} {K : DV → Store → Prop} (ho : opD P o sp st K) : opD P o s st K := by
  unfold readsOk at h
  split at h
  · rename_i c a b
    obtain ⟨h1, h2⟩ := h
    split at h2
    · rename_i t ht
      simp only [opD] at ho ⊢
      rw [opnd_ev hI h1 hW, ht]
      rw [ht] at ho
      exact pickD_turn (fun e => opnd_ev hI h2.1 (by simp [hW, e])) (fun e => opnd_ev hI h2.2 (by simp [hW, e])) ho
    · exact h2.elim
  · rw [opD_congr (s' := sp)]
    · exact ho
    · intro x hx
      exact wtOk_ev hI hW h x (by simpa using hx)
theorem Spec.put {s sp : Slots} {wt : Nat → Bool} (h : Spec s sp wt) (dst : Option Nat) (d : DV) (W : Bool) : Spec (putS dst (if W = true then d else .d (.sc undef)) s) (putS dst d sp) (putW dst W wt) := by
  cases dst with
  | none => exact h
  | some i =>
    intro k
    simp only [putS, putW, upd_eq, updW_eq]
    by_cases hk : k = i
    · simp [hk]
    · simp only [hk, ↓reduceIte]
      exact h k
/-- A row of operations; 'sp': the slots as if all had been wanted. -/
def specG (P : Program) (H : Known) (N : Nat) (ops : Array Oper) : List Oper → Slots → Slots → (Nat → Bool) → Store → (Slots → Store → Prop) → Prop
  | [], s, _, _, st, Q => Q s st
  | o :: rest, s, sp, wt, st, Q => dstOk N o.dst ∧ match o.guard with
    | none => readsOk true wt sp o.op ∧ opE P H o.op sp st fun d st' => specG P H N ops rest (putS o.dst d s) (putS o.dst d sp) (putW o.dst true wt) st' Q
    | some (j, w) => match slotOf ops j with
      | none => False
      | some k => match sp k with
        | .d (.sc (.bool t)) => readsOk (wt k && (t == w)) wt sp o.op ∧ yieldE (fun d => ∀ K : DV → Store → Prop, K d st → opE P H o.op sp st K)
            fun d => specG P H N ops rest (putS o.dst (if (wt k && (t == w)) = true then d else .d (.sc (.tuple #[]))) s) (putS o.dst d sp) (putW o.dst (wt k && (t == w)) wt) st Q
        | _ => False
/-- Is it so reckoned? -/
def useSpec (H : Known) (ops : Array Oper) : Bool := (ops.toList.any fun o => o.guard.isSome) && ops.toList.all fun o => o.guard.isNone || specOk H o.op
end Go.Proofs.Ytadnpgkddgbhkaa
namespace Go.Proofs.Ytadnpgkddgbhkaa
open Go.RowKit
set_option linter.all false
def turnE (A X : DV → Store → Prop) : Prop := ∃ d st, A d st ∧ X d st
theorem turnE_eq (v : DV) (w : Store) (X : DV → Store → Prop) : turnE (fun d st => d = v ∧ st = w) X ↔ X v w := ⟨fun ⟨_, _, ⟨e, g⟩, h⟩ => e ▸ g ▸ h, fun h => ⟨v, w, ⟨rfl, rfl⟩, h⟩⟩
theorem turnE_and (c : Prop) (A X : DV → Store → Prop) : turnE (fun d st => c ∧ A d st) X ↔ c ∧ turnE A X := ⟨fun ⟨d, st, ⟨h1, h2⟩, h3⟩ => ⟨h1, d, st, h2, h3⟩, fun ⟨h1, d, st, h2, h3⟩ => ⟨d, st, ⟨h1, h2⟩, h3⟩⟩
/-- What was yielded is yielded with these boxes, too. -/
def staysE (P : Program) (H : Known) (st : Store) : List (Op × Slots × DV) → Prop
  | [] => True
  | (o, s, d) :: l => (∀ K : DV → Store → Prop, K d st → opE P H o s st K) ∧ staysE P H st l
def stoodE (P : Program) (H : Known) (o : Op) (s : Slots) (d : DV) : List Store → Prop
  | [] => True
  | st :: l => (∀ K : DV → Store → Prop, K d st → opE P H o s st K) ∧ stoodE P H o s d l
abbrev After := DV → Store → List Store → List (Op × Slots × DV) → Prop
def mixRun (P : Program) (H : Known) (o : Op) (s : Slots) (st : Store) (olds : List Store) (done : List (Op × Slots × DV)) (X : After) : Prop :=
  if turns o = true then turnE (fun d st1 => ∀ K : DV → Store → Prop, K d st1 → opE P H o s st K) fun d st1 => staysE P H st1 done ∧ X d st1 (st :: olds) done
  else yieldE (fun d => ∀ K : DV → Store → Prop, K d st → opE P H o s st K) fun d => stoodE P H o s d olds ∧ X d st olds ((o, s, d) :: done)
def mixSkip (P : Program) (H : Known) (o : Op) (st : Store) (olds : List Store) (done : List (Op × Slots × DV)) (X : After) : Prop :=
  if turns o = true then staysE P H st done ∧ X (.d (.sc (.tuple #[]))) st (st :: olds) done else X (.d (.sc (.tuple #[]))) st olds done
/-- A region in any order. -/
def mixG (P : Program) (H : Known) (N : Nat) (ops : Array Oper) (Q : Slots → Store → Prop) : List Oper → Slots → Store → List Store → List (Op × Slots × DV) → Prop
  | [], s, st, _, _ => Q s st
  | o :: rest, s, st, olds, done => dstOk N o.dst ∧ match o.guard with
    | none => mixRun P H o.op s st olds done fun d st1 olds1 done1 => mixG P H N ops Q rest (putS o.dst d s) st1 olds1 done1
    | some (j, w) => match slotOf ops j with
      | none => mixSkip P H o.op st olds done fun d st1 olds1 done1 => mixG P H N ops Q rest (putS o.dst d s) st1 olds1 done1
      | some k => match s k with
        | .d (.sc (.bool t)) => if t = w then mixRun P H o.op (upd s k (.d (.sc (.bool w)))) st olds done fun d st1 olds1 done1 => mixG P H N ops Q rest (putS o.dst d (upd s k (.d (.sc (.bool w))))) st1 olds1 done1
            else mixSkip P H o.op st olds done fun d st1 olds1 done1 => mixG P H N ops Q rest (putS o.dst d (upd s k (.d (.sc (.bool (!w)))))) st1 olds1 done1
        | .d (.sc (.tuple _)) => mixSkip P H o.op st olds done fun d st1 olds1 done1 => mixG P H N ops Q rest (putS o.dst d s) st1 olds1 done1
        | _ => False
def rowSt (olds : List Store) (st : Store) (later : List Store) (q : Nat) : Store := (olds.reverse ++ st :: later).getD q []
theorem rowSt_at (olds : List Store) (st : Store) (later : List Store) : rowSt olds st later olds.length = st := by simp [rowSt]
theorem rowSt_next (olds : List Store) (st st1 : Store) (later : List Store) : rowSt olds st (st1 :: later) = rowSt (st :: olds) st1 later := by
  funext q
  simp [rowSt]
theorem rowSt_mem (olds : List Store) (st : Store) (later : List Store) (q : Nat) (hq : q ≤ olds.length + later.length) : rowSt olds st later q ∈ olds ∨ rowSt olds st later q = st ∨ rowSt olds st later q ∈ later := by
  have hlt : q < (olds.reverse ++ st :: later).length := by simp; omega
  have : rowSt olds st later q ∈ olds.reverse ++ st :: later := by
    unfold rowSt
    rw [List.getD_eq_getElem?_getD, List.getElem?_eq_getElem hlt]
    exact List.getElem_mem hlt
  simpa using this
theorem staysE_mem {P : Program} {H : Known} (hH : Sound P H) {st : Store} : ∀ {l : List (Op × Slots × DV)}, staysE P H st l → ∀ p ∈ l, ∀ K : DV → Store → Prop, K p.2.2 st → opD P p.1 p.2.1 st K
  | [], _, p, hp, _, _ => by cases hp
  | q :: l, h, p, hp, K, hK => by
      rcases List.mem_cons.1 hp with rfl | hp
      · exact opE_ok hH (h.1 K hK)
      · exact staysE_mem hH h.2 p hp K hK
theorem stoodE_mem {P : Program} {H : Known} (hH : Sound P H) {o : Op} {s : Slots} {d : DV} : ∀ {l : List Store}, stoodE P H o s d l → ∀ st ∈ l, ∀ K : DV → Store → Prop, K d st → opD P o s st K
  | [], _, p, hp, _, _ => by cases hp
  | q :: l, h, p, hp, K, hK => by
      rcases List.mem_cons.1 hp with rfl | hp
      · exact opE_ok hH (h.1 K hK)
      · exact stoodE_mem hH h.2 p hp K hK
section mix
variable {P : Program} {H : Known} (hH : Sound P H) {N : Nat} {ops : Array Oper} {Q : Slots → Store → Prop}
/-- What the evaluation shows. -/
def MixOk (P : Program) (N : Nat) (ops : Array Oper) (Q : Slots → Store → Prop) (l : List Oper) (s : Slots) (st : Store) (olds : List Store) (done : List (Op × Slots × DV)) : Prop :=
  ∃ later : List Store, lexS P N ops (rowSt olds st later) (olds.length + later.length) (fun s' => Q s' (rowSt olds st later (olds.length + later.length))) l s olds.length ∧ ∀ p ∈ done, ∀ st' ∈ later, ∀ K : DV → Store → Prop, K p.2.2 st' → opD P p.1 p.2.1 st' K
include hH
theorem mixRun_ok {o : Oper} {rest : List Oper} {s : Slots} {st : Store} {olds : List Store} {done : List (Op × Slots × DV)} (hd : dstOk N o.dst) (hw : wantedD ops o.guard s = some true) {X : After}
    (h : mixRun P H o.op s st olds done X) (ih : ∀ d st1 olds1 done1, X d st1 olds1 done1 → MixOk P N ops Q rest (putS o.dst d s) st1 olds1 done1) : MixOk P N ops Q (o :: rest) s st olds done := by
  unfold mixRun at h
  split at h
  · rename_i ht
    obtain ⟨d, st1, h1, h2, h3⟩ := h
    obtain ⟨later, g1, g2⟩ := ih _ _ _ _ h3
    have hl : olds.length + (st1 :: later).length = (st :: olds).length + later.length := by simp; omega
    refine ⟨st1 :: later, ⟨d, olds.length + 1, ?_, hd, ?_⟩, ?_⟩
    · unfold StepS
      rw [if_pos ht]
      refine ⟨?_, rfl, by simp⟩
      rw [rowSt_at, rowSt_next, show olds.length + 1 = (st :: olds).length from rfl, rowSt_at]
      exact .inl ⟨hw, fun K hK => opE_ok hH (h1 K hK)⟩
    · rw [rowSt_next, hl]
      exact g1
    · intro p hp st' hst'
      rcases List.mem_cons.1 hst' with rfl | hst'
      · exact staysE_mem hH h2 p hp
      · exact g2 p hp st' hst'
  · rename_i ht
    obtain ⟨d, h1, h2, h3⟩ := h
    obtain ⟨later, g1, g2⟩ := ih _ _ _ _ h3
    refine ⟨later, ⟨d, olds.length, ?_, hd, g1⟩, fun p hp => g2 p (List.mem_cons_of_mem _ hp)⟩
    unfold StepS
    rw [if_neg ht]
    refine ⟨fun q hq => .inl ⟨hw, ?_⟩, rfl⟩
    rcases rowSt_mem olds st later q hq with e | e | e
    · exact stoodE_mem hH h2 _ e
    · rw [e]; exact fun K hK => opE_ok hH (h1 K hK)
    · exact g2 (o.op, s, d) (List.mem_cons_self ..) _ e
theorem mixSkip_ok {o : Oper} {rest : List Oper} {s : Slots} {st : Store} {olds : List Store} {done : List (Op × Slots × DV)} (hd : dstOk N o.dst) (hw : wantedD ops o.guard s = some false) {X : After}
    (h : mixSkip P H o.op st olds done X) (ih : ∀ d st1 olds1 done1, X d st1 olds1 done1 → MixOk P N ops Q rest (putS o.dst d s) st1 olds1 done1) : MixOk P N ops Q (o :: rest) s st olds done := by
  unfold mixSkip at h
  split at h
  · rename_i ht
    obtain ⟨h2, h3⟩ := h
    obtain ⟨later, g1, g2⟩ := ih _ _ _ _ h3
    have hl : olds.length + (st :: later).length = (st :: olds).length + later.length := by simp; omega
    refine ⟨st :: later, ⟨.d (.sc (.tuple #[])), olds.length + 1, ?_, hd, ?_⟩, ?_⟩
    · unfold StepS
      rw [if_pos ht]
      refine ⟨.inr ⟨hw, rfl, ?_⟩, rfl, by simp⟩
      rw [rowSt_at, rowSt_next, show olds.length + 1 = (st :: olds).length from rfl, rowSt_at]
    · rw [rowSt_next, hl]
      exact g1
    · intro p hp st' hst'
      rcases List.mem_cons.1 hst' with rfl | hst'
      · exact staysE_mem hH h2 p hp
      · exact g2 p hp st' hst'
  · rename_i ht
    obtain ⟨later, g1, g2⟩ := ih _ _ _ _ h
    refine ⟨later, ⟨.d (.sc (.tuple #[])), olds.length, ?_, hd, g1⟩, g2⟩
    unfold StepS
    rw [if_neg ht]
    exact ⟨fun q hq => .inr ⟨hw, rfl, rfl⟩, rfl⟩
theorem mixG_ok : ∀ (l : List Oper) (s : Slots) (st : Store) (olds : List Store) (done : List (Op × Slots × DV)), mixG P H N ops Q l s st olds done → MixOk P N ops Q l s st olds done
  | [], s, st, olds, done, h => ⟨[], ⟨rfl, by rw [show olds.length + ([] : List Store).length = olds.length from rfl, rowSt_at]; exact h⟩, fun _ _ _ h => by cases h⟩
  | o :: rest, s, st, olds, done, h => by
      obtain ⟨hd, h⟩ := h
      split at h
      · rename_i hg
        exact mixRun_ok hH hd (by rw [hg]; rfl) h fun _ _ _ _ => mixG_ok rest _ _ _ _
      · rename_i j w hg
        split at h
        · rename_i hk
          exact mixSkip_ok hH hd (by rw [hg]; simp only [wantedD, hk]) h fun _ _ _ _ => mixG_ok rest _ _ _ _
        · rename_i k hk
          split at h
          · rename_i t ht
            by_cases hw : t = w
            · subst hw
              rw [if_pos rfl, upd_self ht] at h
              exact mixRun_ok hH hd (by rw [hg]; simp only [wantedD, hk, ht, BEq.rfl]) h fun _ _ _ _ => mixG_ok rest _ _ _ _
            · have hw' : t = !w := by cases t <;> cases w <;> first | rfl | exact absurd rfl hw
              rw [if_neg hw, ← hw', upd_self ht] at h
              exact mixSkip_ok hH hd (by rw [hg]; simp only [wantedD, hk, ht]; simpa using hw) h fun _ _ _ _ => mixG_ok rest _ _ _ _
          · rename_i vs ht
            exact mixSkip_ok hH hd (by rw [hg]; simp only [wantedD, hk, ht]) h fun _ _ _ _ => mixG_ok rest _ _ _ _
          · exact h.elim
end mix
theorem wpD_mix {P : Program} {H : Known} (hH : Sound P H) {N : Nat} {Q : Exit → Slots → Store → Prop} {s : Slots} {st : Store} {id : Nat} {l : List Oper} (hm : P.follows .mixedOrders = true) (hB : Region.lexB .any l.toArray = true) (hT : turnsB l.toArray = true)
    (h : mixG P H N l.toArray (fun s' st' => Q .normal s' st') l s st [] []) : wpD P N (.region id l.toArray true) Q s st := by
  obtain ⟨later, h1, _⟩ := mixG_ok hH l s st [] [] h
  have := wpD_S (id := id) (Q := Q) (rowSt [] st later) (0 + later.length) hm hB hT h1
  exact this
/-- A body, evaluated; its loops are left. -/
def wpE (P : Program) (H : Known) (N : Nat) : Code → (Exit → Slots → Store → Prop) → Slots → Store → Prop
  | .skip, Q, s, st => Q .normal s st
  | .exit id, Q, s, st => Q (.exit id) s st
  | .ret, Q, s, st => Q .ret s st
  | .seq x y, Q, s, st => wpE P H N x (thenD (wpE P H N y Q) Q) s st
  | .block id c, Q, s, st => wpE P H N c (blockD id Q) s st
  | .cond c x y, Q, s, st => match ev s c with
    | .d (.sc (.bool t)) => if t = true then wpE P H N x Q s st else wpE P H N y Q s st
    | _ => False
  | .region _ ops false, Q, s, st => if useSpec H ops = true then specG P H N ops ops.toList s s (fun _ => true) st fun s' st' => Q .normal s' st' else opsG P H N ops ops.toList s st fun s' st' => Q .normal s' st'
  | .region _ ops true, Q, s, st => P.follows .mixedOrders = true ∧ Region.lexB .any ops = true ∧ turnsB ops = true ∧ mixG P H N ops (fun s' st' => Q .normal s' st') ops.toList s st [] []
  | c, Q, s, st => wpD P N c Q s st
attribute [go_sem] upd_eq updW_eq specG putW specOk opnd wtOk readsOk useSpec Op.operands Call.operands
@[go_sem] theorem initS_nil (i : Nat) : initS [] i = .d (.sc undef) := by simp [initS]
@[go_sem] theorem initS_zero (d : DV) (ds : List DV) : initS (d :: ds) 0 = d := by simp [initS]
@[go_sem] theorem initS_succ (d : DV) (ds : List DV) (i : Nat) : initS (d :: ds) (i + 1) = initS ds i := by simp [initS]
/- In the evaluation nothing is done under a continuation before it is reached. -/
section
variable {P : Program} {H : Known} {N : Nat} {st st' : Store} {K : DV → Prop} {KS : DV → Store → Prop} {KT : Slots → Store → Prop} {Q : Exit → Slots → Store → Prop} {s s' : Slots} {a a' b b' c c' : DV}
@[congr] theorem FnD_cong {f : FuncId} {l l' : List DV} (h : l = l') (g : st = st') : FnD P f l st KS = FnD P f l' st' KS := by rw [h, g]
@[congr] theorem knownD_cong {f : FuncId} {l l' : List DV} (h : l = l') (g : st = st') : knownD P H f l st KS = knownD P H f l' st' KS := by rw [h, g]
@[congr] theorem wpD_cong {x : Code} (h : s = s') (g : st = st') : wpD P N x Q s st = wpD P N x Q s' st' := by rw [h, g]
@[congr] theorem wpE_cong {x : Code} (h : s = s') (g : st = st') : wpE P H N x Q s st = wpE P H N x Q s' st' := by rw [h, g]
@[congr] theorem opsG_cong {ops : Array Oper} {l : List Oper} (h : s = s') (g : st = st') : opsG P H N ops l s st KT = opsG P H N ops l s' st' KT := by rw [h, g]
@[congr] theorem stepG_cong {ops : Array Oper} {o : Oper} (h : s = s') (g : st = st') : stepG P H N ops o s st KT = stepG P H N ops o s' st' KT := by rw [h, g]
@[congr] theorem runG_cong {o : Oper} (h : s = s') (g : st = st') : runG P H N o s st KT = runG P H N o s' st' KT := by rw [h, g]
@[congr] theorem skipG_cong {o : Oper} (h : s = s') (g : st = st') : skipG N o s st KT = skipG N o s' st' KT := by rw [h, g]
@[congr] theorem mixG_cong {ops : Array Oper} {l : List Oper} {olds olds' : List Store} {done done' : List (Op × Slots × DV)} (h : s = s') (g : st = st') (i : olds = olds') (j : done = done') : mixG P H N ops KT l s st olds done = mixG P H N ops KT l s' st' olds' done' := by rw [h, g, i, j]
@[congr] theorem mixRun_cong {o : Op} {X : After} {olds olds' : List Store} {done done' : List (Op × Slots × DV)} (h : s = s') (g : st = st') (i : olds = olds') (j : done = done') : mixRun P H o s st olds done X = mixRun P H o s' st' olds' done' X := by rw [h, g, i, j]
@[congr] theorem mixSkip_cong {o : Op} {X : After} {olds olds' : List Store} {done done' : List (Op × Slots × DV)} (g : st = st') (i : olds = olds') (j : done = done') : mixSkip P H o st olds done X = mixSkip P H o st' olds' done' X := by rw [g, i, j]
@[congr] theorem turnE_cong {A A' X : DV → Store → Prop} (h : A = A') : turnE A X = turnE A' X := by rw [h]
@[congr] theorem lexB_cong {md : Region.Mode} {ops : Array Oper} : Region.lexB md ops = Region.lexB md ops := rfl
@[congr] theorem turnsB_cong {ops : Array Oper} : turnsB ops = turnsB ops := rfl
@[congr] theorem specG_cong {ops : Array Oper} {l : List Oper} {sp sp' : Slots} {wt wt' : Nat → Bool} (h : s = s') (i : sp = sp') (j : wt = wt') (g : st = st') : specG P H N ops l s sp wt st KT = specG P H N ops l s' sp' wt' st' KT := by rw [h, g, i, j]
@[congr] theorem yieldE_cong {A A' X : DV → Prop} (h : A = A') : yieldE A X = yieldE A' X := by rw [h]
@[congr] theorem opE_cong {o : Op} (h : s = s') (g : st = st') : opE P H o s st KS = opE P H o s' st' KS := by rw [h, g]
@[congr] theorem opD_cong {o : Op} (h : s = s') (g : st = st') : opD P o s st KS = opD P o s' st' KS := by rw [h, g]
@[congr] theorem callE_cong {o : Call} (h : s = s') (g : st = st') : callE P H o s st KS = callE P H o s' st' KS := by rw [h, g]
@[congr] theorem callD_cong {o : Call} (h : s = s') (g : st = st') : callD P o s st KS = callD P o s' st' KS := by rw [h, g]
@[congr] theorem thenD_cong {X : Slots → Store → Prop} {e e' : Exit} (i : e = e') (h : s = s') (g : st = st') : thenD X Q e s st = thenD X Q e' s' st' := by rw [i, h, g]
@[congr] theorem blockD_cong {id : Nat} {e e' : Exit} (i : e = e') (h : s = s') (g : st = st') : blockD id Q e s st = blockD id Q e' s' st' := by rw [i, h, g]
@[congr] theorem retQ_cong {rs rs' : List ResultVar} {k k' : Nat} {R : DV → Store → Prop} {e e' : Exit} (j : rs = rs') (i : e = e') (m : k = k') (h : s = s') (g : st = st') : retQ P rs k R e s st = retQ P rs' k' R e' s' st' := by rw [j, i, m, h, g]
@[congr] theorem resD_cong {rs : List ResultVar} {X : List DV → Prop} (h : s = s') (g : st = st') : resD P s st rs X = resD P s' st' rs X := by rw [h, g]
@[congr] theorem RetW_cong {k : Nat} {R : DV → Store → Prop} (h : a = a') (g : st = st') : RetW k R a st = RetW k R a' st' := by rw [h, g]
@[congr] theorem loadD_cong {t : TypeId} (g : st = st') (h : a = a') : loadD P st t a K = loadD P st' t a' K := by rw [h, g]
@[congr] theorem fieldAddrD_cong {t : TypeId} {f : Nat} (g : st = st') (h : a = a') : fieldAddrD P st t a f K = fieldAddrD P st' t a' f K := by rw [h, g]
@[congr] theorem indexAddrD_cong {t : TypeId} (g : st = st') (h : a = a') (i : b = b') : indexAddrD P st t a b K = indexAddrD P st' t a' b' K := by rw [h, g, i]
@[congr] theorem partD_cong {t : TypeId} {cs cs' : List DV} {off off' : Nat} (h : cs = cs') (g : off = off') : partD P t cs off K = partD P t cs' off' K := by rw [h, g]
@[congr] theorem indexD_cong {t : TypeId} (h : a = a') (i : b = b') : indexD P t a b K = indexD P t a' b' K := by rw [h, i]
@[congr] theorem intBin_cong {op : BinOp} {k k' : IntKind} {x x' y y' : Int} (h : x = x') (i : y = y') : intBin op k k' x y K = intBin op k k' x' y' K := by rw [h, i]
@[congr] theorem strBin_cong {op : BinOp} {x x' y y' : ByteArray} (h : x = x') (i : y = y') : strBin op x y K = strBin op x' y' K := by rw [h, i]
@[congr] theorem eqK_cong {op : BinOp} {x x' : Bool} (h : x = x') : eqK op x K = eqK op x' K := by rw [h]
@[congr] theorem binD_cong {op : BinOp} {t : TypeId} (g : st = st') (h : a = a') (i : b = b') : binD P st op t a b K = binD P st' op t a' b' K := by rw [g, h, i]
@[congr] theorem unD_cong {op : UnOp} (h : a = a') : unD op a K = unD op a' K := by rw [h]
@[congr] theorem convD_cong {t u : TypeId} (h : a = a') : convD P t u a K = convD P t u a' K := by rw [h]
@[congr] theorem sliceD_cong {t : TypeId} {lo lo' hi hi' : Option DV} (g : st = st') (h : a = a') (i : lo = lo') (j : hi = hi') : sliceD P st t a lo hi K = sliceD P st' t a' lo' hi' K := by rw [g, h, i, j]
@[congr] theorem lenD_cong {t : TypeId} (g : st = st') (h : a = a') : lenD P st t a K = lenD P st' t a' K := by rw [g, h]
@[congr] theorem boxD_cong {t : TypeId} (g : st = st') (h : a = a') : boxD st t a KS = boxD st' t a' KS := by rw [g, h]
@[congr] theorem allocD_cong {t : TypeId} (g : st = st') : allocD P st t KS = allocD P st' t KS := by rw [g]
@[congr] theorem storeD_cong {t : TypeId} {X : Store → Prop} (g : st = st') (h : a = a') (i : b = b') : storeD P st t a b X = storeD P st' t a' b' X := by rw [g, h, i]
@[congr] theorem buildD_cong {t : TypeId} {l l' : List (Nat × DV)} (h : l = l') : buildD P t l K = buildD P t l' K := by rw [h]
@[congr] theorem buildSliceD_cong {t : TypeId} {n : Nat} {l l' : List (Nat × DV)} (g : st = st') (h : l = l') : buildSliceD P st t n l KS = buildSliceD P st' t n l' KS := by rw [g, h]
@[congr] theorem makeD_cong {t : TypeId} (g : st = st') (h : a = a') (i : b = b') : makeD P st t a b KS = makeD P st' t a' b' KS := by rw [g, h, i]
@[congr] theorem appendD_cong {t u : TypeId} (g : st = st') (h : a = a') (i : b = b') : appendD P st t u a b KS = appendD P st' t u a' b' KS := by rw [g, h, i]
@[congr] theorem mmD_cong {m : Bool} (h : a = a') (i : b = b') : mmD m a b K = mmD m a' b' K := by rw [h, i]
@[congr] theorem pickD_cong (h : a = a') (i : b = b') (j : c = c') : pickD a b c K = pickD a' b' c' K := by rw [h, i, j]
@[congr] theorem extractD_cong {i : Nat} (h : a = a') : extractD a i K = extractD a' i K := by rw [h]
@[congr] theorem fieldVD_cong {t : TypeId} {f : Nat} (h : a = a') : fieldVD P t a f K = fieldVD P t a' f K := by rw [h]
end
attribute [go_sem] yieldE_eq yieldE_and turnE_eq turnE_and pureK pureKc staysE stoodE mixRun mixSkip turns knownD callE opE closedD closedL Value.oneCell'
attribute [go_sem] opsG stepG runG skipG mixG slotOf dstOk putS opD callD ev thenD blockD resD oneD retQ wpE
attribute [go_sem] loadD fieldAddrD indexAddrD partD indexD intOfD scEqD eqD intBin strBin eqK notNil notNilP binD unD convD boundD sliceD lenD boxD allocD splice storeD fillD buildD buildSliceD makeD srcD appendD mmD pickD isRefD extractD fieldVD cellsD boolD intD nilS
theorem ret_v {r d : DV} {st : Store} (h : d = r) (hp : pureD d = true) : RetW 0 (fun x st => st = [] ∧ pureD x = true ∧ x = r) d st := by
  subst h; exact RetW.drop hp rfl
theorem noH_ok {P : Program} : Sound P [] := fun _ _ _ h => by cases h
def strD (s : ByteArray) : DV := .d (.sc (.string s))
attribute [go_sem] findH knowsH strD
end Go.Proofs.Ytadnpgkddgbhkaa
namespace Go.Proofs.Ytadnpgkddgbhkaa
open Go.RowKit
set_option linter.all false
theorem eqb {a b : Nat} (h : (a == b) = true) : a = b := by simpa using h
/-- What a cell holds. -/
inductive Kd where
  | int (k : IntKind)
  | bool
  | str
  | slc (sz : Nat)
  | oth
/-- What the evaluation wants to know of the types; which slots hold addresses that aren't reckoned out; at which regions it waits. -/
structure Tab where
  kds : Nat → Option (List Kd)
  sym : Nat → Bool
  pause : Nat → Bool
  ty : Nat → Option (Nat × Bool)
  zero : Nat → Option (List DV)
  fld : Nat → Nat → Option Nat
  fldV : Nat → Nat → Option (Nat × Nat)
  arr : Nat → Option (Nat × Nat × Nat)
  sl : Nat → Option (Nat × Nat)
  by8 : Nat → Option Nat
  str : Nat → Bool
  kinds : Nat → Option (List Nat)
  place : Nat → Nat → Option (Nat × Nat)
  bok : Nat → Bool
  bool : Nat → Bool
  ik : Nat → Option IntKind
  ptr : Nat → Bool
  body : Nat → Bool
structure TabOk (P : Program) (T : Tab) : Prop where
  ty : ∀ t x, T.ty t = some x → tyD P t = some x
  zero : ∀ t x, T.zero t = some x → zeroD P t = some x
  fld : ∀ t f x, T.fld t f = some x → fieldD P t f = some x
  fldV : ∀ t f x, T.fldV t f = some x → ∃ fs fl, P.underlying t = some (.struct fs) ∧ fs[f]? = some fl ∧ fl.type = x.1 ∧ fl.offset = x.2
  arr : ∀ t x, T.arr t = some x → arrD P t = some x
  sl : ∀ t x, T.sl t = some x → slD P t = some x
  by8 : ∀ t x, T.by8 t = some x → ∃ i, P.info? t = some i ∧ i.bytes = x
  str : ∀ t, T.str t = true → P.underlying t = some .string
  kinds : ∀ t x, T.kinds t = some x → P.eqGuardType P.depth t = false ∧ isAggD P t = true ∧ kindsT P 20 t = some x
  place : ∀ t i x, T.place t i = some x → placeD P t i = some x
  bok : ∀ t, T.bok t = true → buildOk P t = true
  bool : ∀ t, T.bool t = true → P.underlying t = some .bool
  ik : ∀ t k, T.ik t = some k → P.underlying t = some (.int k)
  ptr : ∀ t, T.ptr t = true → ∃ e, P.underlying t = some (.pointer e)
  body : ∀ f, T.body f = true → hasBody P f = true
def byteOf : List PD → UInt8
  | .sc (.int _ n) :: _ => UInt8.ofNat n.toNat
  | _ => 0
/-- The bytes that a row of cells holds. -/
def bytesOf (xs : List (List PD)) : List UInt8 := xs.map byteOf
theorem bytesOf_bytesP (bs : List UInt8) : bytesOf (bytesP bs) = bs := by
  induction bs with
  | nil => rfl
  | cons b bs ih =>
    show byteOf [.sc (.int .u8 b.toNat)] :: bytesOf (bytesP bs) = b :: bs
    rw [ih]
    simp [byteOf]
/-- What is not reckoned on, but named. -/
structure Ar where
  bstr : List (List PD) → ByteArray
  isby : List (List PD) → Prop
  fitc : List DV → Nat → List DV → Prop
  bin : BinOp → IntKind → Int → Int → Int
  cmp : BinOp → Int → Int → Bool
  cat : ByteArray → ByteArray → ByteArray
  scmp : BinOp → ByteArray → ByteArray → Bool
  wrap : IntKind → Int → Int
  un : UnOp → IntKind → Int → Int
  mm : Bool → Int → Int → Int
  smm : Bool → ByteArray → ByteArray → ByteArray
  cond : Bool → Bool → Bool → Bool
  not : Bool → Bool
  and : Bool → Bool → Bool
  beq : Bool → Bool → Bool
  size : ByteArray → Int
  extract : ByteArray → Int → Int → ByteArray
  len : List (List PD) → Int
  sub : List (List PD) → Int → Int → List (List PD)
  nz : Int → Prop
  nn : Int → Prop
  fit : ByteArray → ByteArray → Prop
  bnd : Int → Int → Int → Prop
  is : Bool → Bool → Bool
  imp : Bool → Bool → Prop
  gi : List DV → Nat → Int
  gb : List DV → Nat → Bool
  gs : List DV → Nat → ByteArray
  gl : List DV → Nat → List (List PD)
  gd : List DV → Nat → DV
  pl : Nat → Nat → Nat
  lift : List PD → List DV
  has : List DV → Nat → Nat → List DV → Prop
  off : Nat → Int → Nat → Nat
  inb : Int → Int → Prop
  row : List (List PD) → Int → List PD
  cdrop : List PD → Nat → List PD
  same : Nat → Nat → Prop
  fits : List DV → Nat → Nat → Prop
  spl : List DV → Nat → List DV → List DV
  ext : Int → Int → Bool
  rep : Int → List DV → List DV
  nat : Int → Nat
  mkok : Int → Int → Nat → Nat → Prop
  nxt : Nat → Nat
  app : List DV → List DV → List DV
  rows : List (List PD) → List DV
  byts : ByteArray → List DV
  byte : ByteArray → Int → Int
  lenN : List (List PD) → Nat
  sizeN : ByteArray → Nat
  isl : Nat → Nat → Nat → Prop
  tk : List DV → Nat → Nat → Nat → List DV
  fitv : List DV → Nat → Nat → Nat → Prop
  full : List DV → Nat → Nat → Prop
  pos : Nat → Prop
  int : Nat → Int
  imq : Bool → Prop → Prop
  lex : Array Oper → Prop
  trn : Array Oper → Prop
  sml : List DV → Prop
  capn : List DV → Nat → Nat → Int
  sl2 : List DV → Bool → Nat → Nat → Nat → Int → Int → Prop
  df : Int → Int → Nat
  mn : Nat → Nat → Nat
  over : List DV → Nat → Nat → Prop
  ord3 : Int → Int → Int → Int → Prop
def A0 : Ar where
  bstr xs := ⟨(bytesOf xs).toArray⟩
  isby xs := ∃ bs, xs = bytesP bs
  fitc cs o ds := o + ds.length ≤ cs.length
  bin op k a b := match op with
    | .add => k.wrap (a + b)
    | .sub => k.wrap (a - b)
    | .mul => k.wrap (a * b)
    | .quo => k.wrap (a.tdiv b)
    | .rem => a.tmod b
    | .and => bitsV k (· &&& ·) a b
    | .or => bitsV k (· ||| ·) a b
    | .xor => bitsV k (· ^^^ ·) a b
    | .shl => k.wrap (a * 2 ^ (min b.toNat k.bits))
    | .shr => a.fdiv (2 ^ (min b.toNat k.bits))
    | _ => 0
  cmp op a b := match op with
    | .eql => decide (a = b)
    | .neq => !decide (a = b)
    | .lss => decide (a < b)
    | .leq => decide (a ≤ b)
    | .gtr => decide (b < a)
    | .geq => decide (b ≤ a)
    | _ => false
  cat a b := a ++ b
  scmp op a b := match op with
    | .eql => decide (a = b)
    | .neq => !decide (a = b)
    | .lss => ltb a b
    | .leq => ltb a b || decide (a = b)
    | .gtr => !(ltb a b || decide (a = b))
    | .geq => !ltb a b
    | _ => false
  wrap k n := k.wrap n
  un op k n := match op with
    | .neg => k.wrap (0 - n)
    | .xor => bitsV k (· ^^^ ·) (if k.signed then -1 else k.max) n
    | _ => 0
  mm mx a b := if mx = true then max a b else min a b
  smm mx a b := if mx = true then (if ltb a b = true then b else a) else (if (ltb a b || decide (a = b)) = true then a else b)
  cond c a b := bif c then a else b
  not b := !b
  and a b := a && b
  beq a b := decide (a = b)
  size s := s.size
  extract s l h := s.extract l.toNat h.toNat
  len xs := xs.length
  sub xs l h := (xs.drop l.toNat).take (h.toNat - l.toNat)
  nz b := b ≠ 0
  nn b := 0 ≤ b
  fit a b := a.size + b.size ≤ maxLen
  bnd l h n := 0 ≤ l ∧ l ≤ h ∧ h ≤ n
  is t w := t == w
  imp a b := a = true → b = true
  gi cs o := match cs[o]? with
    | some (.d (.sc (.int _ n))) => n
    | _ => 0
  gb cs o := match cs[o]? with
    | some (.d (.sc (.bool b))) => b
    | _ => false
  gs cs o := match cs[o]? with
    | some (.d (.sc (.string s))) => s
    | _ => .empty
  gl cs o := match cs[o]? with
    | some (.d (.slc _ xs)) => xs
    | _ => []
  gd cs o := cs.getD o .any
  pl o j := o + j
  lift cs := cs.map .d
  has cs o sz ds := ds.length = sz ∧ o + sz ≤ cs.length ∧ (cs.drop o).take sz = ds
  off o i sz := o + i.toNat * sz
  inb i n := 0 ≤ i ∧ i < n
  row xs i := xs.getD i.toNat []
  cdrop cs o := cs.drop o
  same a b := a = b
  fits cs o sz := o + sz ≤ cs.length
  spl cs o ds := splice cs o ds
  ext l c := decide (l < c)
  rep l z := (List.replicate l.toNat z).flatten
  nat l := l.toNat
  mkok l c bytes sz := 0 ≤ l ∧ l ≤ c ∧ c ≤ 281474976710656 ∧ bytes * c ≤ 281474976710656 ∧ c * sz ≤ 9223372036854775807
  nxt v := v + 1
  app a b := a ++ b
  rows xs := rowsD xs
  byts s := rowsD (bytesP s.data.toList)
  byte s i := match s[i.toNat]? with
    | some b => b.toNat
    | none => 0
  lenN xs := xs.length
  sizeN s := s.size
  isl n m bytes := n + m ≤ 9007199254740992 ∧ (n + m) * bytes ≤ 140737488355328
  tk cs o n sz := (cs.drop o).take (n * sz)
  fitv cs o n sz := o + n * sz ≤ cs.length
  full cs n sz := cs.length = n * sz
  pos n := 0 < n
  int n := n
  imq w c := w = true → c
  lex ops := Region.lexB .any ops = true
  trn ops := turnsB ops = true
  sml ds := ds.length ≤ 1000000
  capn cs o sz := ((cs.length - o) / sz : Nat)
  sl2 cs ext o n sz l h := (0 ≤ l ∧ l ≤ h) ∧ (h ≤ n ∨ (ext = false ∧ o + h.toNat * sz ≤ cs.length)) ∧ (l = 0 ∨ l < n ∨ (ext = false ∧ o + l.toNat * sz < cs.length))
  df h l := h.toNat - l.toNat
  mn a b := min a b
  over cs n sz := cs.length < n * sz
  ord3 l h m n := 0 ≤ l ∧ l ≤ h ∧ h ≤ m ∧ m ≤ n
/-- What a reckoning gives: what is to be shown, and the value. -/
abbrev RV := Option (List Prop × DV)
def allP : List Prop → Prop → Prop
  | [], X => X
  | c :: cs, X => c ∧ allP cs X
theorem allP_iff : ∀ (cs : List Prop) (X : Prop), allP cs X ↔ allP cs True ∧ X
  | [], X => by simp [allP]
  | c :: cs, X => by simp only [allP]; rw [allP_iff cs X, and_assoc]
def loadV (T : Unit → Tab) (st : Store) (t : Nat) (a : DV) : RV :=
  match (T ()).ty t, a with
  | some (sz, true), .ref b ver o => match st[b]? with
    | some bx => bif bx.live && (ver == bx.ver) && decide ((o + sz) ≤ bx.cells.length) then some ([], .agg ((bx.cells.drop o).take sz)) else none
    | none => none
  | some (_, false), .ref b ver o => match st[b]? with
    | some bx => bif bx.live && (ver == bx.ver) then (match bx.cells[o]? with
      | some d => some ([], d)
      | none => none) else none
    | none => none
  | some (sz, true), .cref cs => bif decide (sz ≤ cs.length) then some ([], .agg ((cs.take sz).map .d)) else none
  | some (_, false), .cref cs => match cs[0]? with
    | some p => some ([], .d p)
    | none => none
  | _, _ => none
theorem loadV_D {P : Program} {T : Unit → Tab} (hT : TabOk P (T ())) {st : Store} {t : Nat} {a : DV} {cs : List Prop} {d : DV} (h : loadV T st t a = some (cs, d)) (hc : allP cs True) {K : DV → Prop} (hk : K d) : loadD P st t a K := by
  unfold loadV at h
  unfold loadD
  split at h
  · rename_i sz b ver o ht
    simp only [hT.ty _ _ ht]
    split at h
    · rename_i bx hb
      simp only [hb]
      cases hh : (bx.live && (ver == bx.ver) && decide ((o + sz) ≤ bx.cells.length))
      · rw [hh] at h; cases h
      · rw [hh] at h
        simp only [Bool.and_eq_true, decide_eq_true_eq] at hh
        cases h
        exact ⟨hh.1.1, eqb hh.1.2, hh.2, hk⟩
    · cases h
  · rename_i sz b ver o ht
    simp only [hT.ty _ _ ht]
    split at h
    · rename_i bx hb
      simp only [hb]
      cases hh : (bx.live && (ver == bx.ver))
      · rw [hh] at h; cases h
      · rw [hh] at h
        simp only [Bool.and_eq_true] at hh
        simp only [cond_true] at h
        split at h
        · rename_i d' hd
          simp only [hd]
          cases h
          exact ⟨hh.1, eqb hh.2, hk⟩
        · cases h
    · cases h
  · rename_i sz ds ht
    simp only [hT.ty _ _ ht]
    cases hh : decide (sz ≤ ds.length)
    · rw [hh] at h; cases h
    · rw [hh] at h
      cases h
      exact ⟨of_decide_eq_true hh, hk⟩
  · rename_i sz ds ht
    simp only [hT.ty _ _ ht]
    split at h
    · rename_i p hp
      simp only [hp]
      cases h
      exact hk
    · cases h
  · cases h
def fieldAddrV (T : Unit → Tab) (st : Store) (t : Nat) (a : DV) (f : Nat) : RV :=
  match (T ()).fld t f, a with
  | some off, .ref b ver o => match st[b]? with
    | some bx => bif (ver == bx.ver) then some ([], .ref b ver (o + off)) else none
    | none => none
  | some off, .cref cs => some ([], .cref (cs.drop off))
  | _, _ => none
theorem fieldAddrV_D {P : Program} {T : Unit → Tab} (hT : TabOk P (T ())) {st : Store} {t f : Nat} {a : DV} {cs : List Prop} {d : DV} (h : fieldAddrV T st t a f = some (cs, d)) (hc : allP cs True) {K : DV → Prop} (hk : K d) : fieldAddrD P st t a f K := by
  unfold fieldAddrV at h
  unfold fieldAddrD
  split at h
  · rename_i off b ver o ht
    simp only [hT.fld _ _ _ ht]
    split at h
    · rename_i bx hb
      simp only [hb]
      cases hh : (ver == bx.ver)
      · rw [hh] at h; cases h
      · rw [hh] at h
        cases h
        exact ⟨eqb hh, hk⟩
    · cases h
  · rename_i off ds ht
    simp only [hT.fld _ _ _ ht]
    cases h
    exact hk
  · cases h
def indexAddrV (T : Unit → Tab) (st : Store) (t : Nat) (a ix : DV) : RV :=
  match ix with
  | .d (.sc (.int _ (.ofNat i))) => match (T ()).arr t, (T ()).sl t, a with
    | some (n, _, sz), _, .ref b ver o => match st[b]? with
      | some bx => bif (ver == bx.ver) && decide (i < n) then some ([], .ref b ver (o + i * sz)) else none
      | none => none
    | some (n, _, sz), _, .cref cs => bif decide (i < n) then some ([], .cref (cs.drop (i * sz))) else none
    | _, some (_, sz), .view sz' b ver o n => match st[b]? with
      | some bx => bif (ver == bx.ver) && (sz == sz') && decide (i < n) then some ([], .ref b ver (o + i * sz)) else none
      | none => none
    | _, _, _ => none
  | _ => none
theorem slD_arrD {P : Program} {t : Nat} {x : Nat × Nat} (h : slD P t = some x) : arrD P t = none := by
  unfold slD at h
  unfold arrD
  split at h
  · rename_i e hu
    simp only [hu]
  · cases h
theorem indexAddrV_D {P : Program} {T : Unit → Tab} (hT : TabOk P (T ())) {st : Store} {t : Nat} {a ix : DV} {cs : List Prop} {d : DV} (h : indexAddrV T st t a ix = some (cs, d)) (hc : allP cs True) {K : DV → Prop} (hk : K d) : indexAddrD P st t a ix K := by
  unfold indexAddrV at h
  unfold indexAddrD
  split at h
  · rename_i k i
    simp only [intOfD]
    split at h
    · rename_i n e sz b ver o ht
      simp only [hT.arr _ _ ht]
      split at h
      · rename_i bx hb
        simp only [hb]
        cases hh : ((ver == bx.ver) && decide (i < n))
        · rw [hh] at h; cases h
        · rw [hh] at h
          simp only [Bool.and_eq_true, decide_eq_true_eq] at hh
          cases h
          exact ⟨eqb hh.1, ⟨Int.natCast_nonneg i, Int.ofNat_lt.2 hh.2⟩, hk⟩
      · cases h
    · rename_i n e sz ds ht
      simp only [hT.arr _ _ ht]
      cases hh : decide (i < n)
      · rw [hh] at h; cases h
      · rw [hh] at h
        cases h
        exact ⟨⟨Int.natCast_nonneg i, Int.ofNat_lt.2 (by simpa using hh)⟩, hk⟩
    · rename_i e9 sz sz' b ver o n ht
      have ht' := hT.sl _ _ ht
      simp only [slD_arrD ht', ht']
      split at h
      · rename_i bx hb
        simp only [hb]
        cases hh : ((ver == bx.ver) && (sz == sz') && decide (i < n))
        · rw [hh] at h; cases h
        · rw [hh] at h
          simp only [Bool.and_eq_true, decide_eq_true_eq] at hh
          cases h
          exact ⟨eqb hh.1.1, eqb hh.1.2, ⟨Int.natCast_nonneg i, Int.ofNat_lt.2 hh.2⟩, hk⟩
      · cases h
    · cases h
  · cases h
def partV (T : Unit → Tab) (t : Nat) (cs : List DV) (off : Nat) : RV :=
  match (T ()).ty t with
  | some (sz, true) => bif decide ((off + sz) ≤ cs.length) then some ([], .agg ((cs.drop off).take sz)) else none
  | some (_, false) => match cs[off]? with
    | some d => some ([], d)
    | none => none
  | none => none
theorem partV_D {P : Program} {T : Unit → Tab} (hT : TabOk P (T ())) {t off : Nat} {l : List DV} {cs : List Prop} {d : DV} (h : partV T t l off = some (cs, d)) {K : DV → Prop} (hk : K d) : partD P t l off K := by
  unfold partV at h
  unfold partD
  split at h
  · rename_i sz ht
    simp only [hT.ty _ _ ht]
    cases hh : decide ((off + sz) ≤ l.length)
    · rw [hh] at h; cases h
    · rw [hh] at h
      cases h
      exact ⟨of_decide_eq_true hh, hk⟩
  · rename_i sz ht
    simp only [hT.ty _ _ ht]
    split at h
    · rename_i d' hd
      simp only [hd]
      cases h
      exact hk
    · cases h
  · cases h
def fieldVV (T : Unit → Tab) (t : Nat) (x : DV) (f : Nat) : RV :=
  match (T ()).fldV t f, x with
  | some (u, off), .agg cs => partV T u cs off
  | _, _ => none
theorem fieldVV_D {P : Program} {T : Unit → Tab} (hT : TabOk P (T ())) {t f : Nat} {x : DV} {cs : List Prop} {d : DV} (h : fieldVV T t x f = some (cs, d)) {K : DV → Prop} (hk : K d) : fieldVD P t x f K := by
  unfold fieldVV at h
  split at h
  · rename_i u off ds ht
    obtain ⟨fs, fl, h1, h2, h3, h4⟩ := hT.fldV _ _ _ ht
    simp only at h3 h4
    subst h3; subst h4
    unfold fieldVD
    simp only [h1, h2]
    exact partV_D hT h hk
  · cases h
def unV (A : Ar) (op : UnOp) (x : DV) : RV :=
  match op, x with
  | .not, .d (.sc (.bool b)) => some ([], .d (.sc (.bool (A.not b))))
  | .neg, .d (.sc (.int k n)) => some ([], .d (.sc (.int k (A.un .neg k n))))
  | .xor, .d (.sc (.int k n)) => some ([], .d (.sc (.int k (A.un .xor k n))))
  | _, _ => none
theorem unV_D {op : UnOp} {x : DV} {cs : List Prop} {d : DV} (h : unV A0 op x = some (cs, d)) {K : DV → Prop} (hk : K d) : unD op x K := by
  unfold unV at h
  split at h <;> cases h <;> exact hk
def convV (T : Unit → Tab) (A : Ar) (src dst : Nat) (x : DV) : RV :=
  match (T ()).ik dst, x with
  | some k, .d (.sc (.int _ n)) => match (T ()).ik src with
    | some _ => some ([], .d (.sc (.int k (A.wrap k n))))
    | none => none
  | none, .d (.slc 1 xs) => match (T ()).str dst, (T ()).sl src with
    | true, some (e, _) => (match (T ()).ik e with
      | some .u8 => some ([A.isby xs], .d (.sc (.string (A.bstr xs))))
      | _ => none)
    | _, _ => none
  | _, _ => none
theorem slD_elem {P : Program} {t : TypeId} {e sz : Nat} (h : slD P t = some (e, sz)) : P.underlying t = some (.slice e) := by
  unfold slD at h
  split at h
  · rename_i e' he
    split at h
    · cases h; exact he
    · cases h
  · cases h
theorem convV_D {P : Program} {T : Unit → Tab} (hT : TabOk P (T ())) {src dst : Nat} {x : DV} {cs : List Prop} {d : DV} (h : convV T A0 src dst x = some (cs, d)) (hc : allP cs True) {K : DV → Prop} (hk : K d) : convD P src dst x K := by
  unfold convV at h
  split at h
  · rename_i k k' n ht
    split at h
    · rename_i k2 ht2
      unfold convD
      simp only [hT.ik _ _ ht, hT.ik _ _ ht2]
      cases h
      exact hk
    · cases h
  · rename_i xs ht
    split at h
    · rename_i e z hs hsl
      split at h
      · rename_i he
        cases h
        obtain ⟨⟨bs, rfl⟩, _⟩ := hc
        unfold convD
        simp only [slD_elem (hT.sl _ _ hsl), hT.str _ hs]
        refine ⟨hT.ik _ _ he, bs, rfl, ?_⟩
        simpa [A0, bytesOf_bytesP] using hk
      · cases h
    · cases h
  · cases h
def lenV (T : Unit → Tab) (A : Ar) (st : Store) (t : Nat) (x : DV) : RV :=
  match x with
  | .d (.sc (.string s)) => bif (T ()).str t then some ([], .d (.sc (.int .i64 (A.size s)))) else none
  | .d (.slc _ xs) => match (T ()).sl t with
    | some _ => some ([], .d (.sc (.int .i64 (A.len xs))))
    | none => none
  | .d (.sc (.slice none 0 0)) => match (T ()).sl t with
    | some _ => some ([], .d (.sc (.int .i64 0)))
    | none => none
  | .view _ b ver _ n => match (T ()).sl t, st[b]? with
    | some _, some bx => some ([A.same ver bx.ver], .d (.sc (.int .i64 (A.int n))))
    | _, _ => none
  | .agg _ => match (T ()).arr t with
    | some (n, _, _) => some ([], .d (.sc (.int .i64 n)))
    | none => none
  | _ => none
theorem lenV_D {P : Program} {T : Unit → Tab} (hT : TabOk P (T ())) {st : Store} {t : Nat} {x : DV} {cs : List Prop} {d : DV} (h : lenV T A0 st t x = some (cs, d)) (hc : allP cs True) {K : DV → Prop} (hk : K d) : lenD P st t x K := by
  unfold lenV at h
  unfold lenD
  split at h
  · cases hh : (T ()).str t
    · rw [hh] at h; cases h
    · rw [hh] at h; cases h
      exact ⟨hT.str _ hh, hk⟩
  · split at h
    · rename_i ht
      cases h
      exact ⟨by rw [hT.sl _ _ ht]; rfl, hk⟩
    · cases h
  · split at h
    · rename_i ht
      cases h
      exact ⟨by rw [hT.sl _ _ ht]; rfl, hk⟩
    · cases h
  · rename_i b ver o n
    split at h
    · rename_i bx ht hb
      cases h
      simp only [hb]
      exact ⟨hc.1, by rw [hT.sl _ _ ht]; rfl, hk⟩
    · cases h
  · split at h
    · rename_i ht
      simp only [hT.arr _ _ ht]
      cases h
      exact hk
    · cases h
  · cases h
def mmV (A : Ar) (mx : Bool) (x y : DV) : RV :=
  match x, y with
  | .d (.sc (.int k a)), .d (.sc (.int k' b)) => some ([k = k'], .d (.sc (.int k (A.mm mx a b))))
  | .d (.sc (.string a)), .d (.sc (.string b)) => some ([], .d (.sc (.string (A.smm mx a b))))
  | _, _ => none
theorem mmV_D {mx : Bool} {x y : DV} {cs : List Prop} {d : DV} (h : mmV A0 mx x y = some (cs, d)) (hc : allP cs True) {K : DV → Prop} (hk : K d) : mmD mx x y K := by
  unfold mmV at h
  unfold mmD
  split at h <;> cases h
  · exact ⟨hc.1, hk⟩
  · exact hk
def extractV (x : DV) (i : Nat) : RV :=
  match x with
  | .tup vs => match vs[i]? with
    | some d => some ([], d)
    | none => none
  | _ => none
theorem extractV_D {x : DV} {i : Nat} {cs : List Prop} {d : DV} (h : extractV x i = some (cs, d)) {K : DV → Prop} (hk : K d) : extractD x i K := by
  unfold extractV at h
  unfold extractD
  split at h
  · split at h
    · rename_i vs d' hd
      cases h
      simp only [hd]
      exact hk
    · cases h
  · cases h
def isRefV (st : Store) (x : DV) : RV :=
  match x with
  | .ref b ver _ => match st[b]? with
    | some bx => bif (bx.ver == ver) then some ([], x) else none
    | none => none
  | .cref _ => some ([], x)
  | .fn _ _ => some ([], x)
  | _ => none
theorem isRefV_D {st : Store} {x : DV} {cs : List Prop} {d : DV} (h : isRefV st x = some (cs, d)) : isRefD st x = true ∧ d = x := by
  unfold isRefV at h
  unfold isRefD
  split at h
  · rename_i b ver o
    split at h
    · rename_i bx hb
      cases hh : (bx.ver == ver)
      · rw [hh] at h; cases h
      · rw [hh] at h; cases h
        simp only [hb]
        exact ⟨by simpa using eqb hh, trivial⟩
    · cases h
  · cases h; exact ⟨rfl, rfl⟩
  · cases h; exact ⟨rfl, rfl⟩
  · cases h
/-- A cell that isn't reckoned out. -/
def ofKd (A : Ar) (cs : List DV) (o : Nat) : Kd → DV
  | .int k => .d (.sc (.int k (A.gi cs o)))
  | .bool => .d (.sc (.bool (A.gb cs o)))
  | .str => .d (.sc (.string (A.gs cs o)))
  | .slc sz => .d (.slc sz (A.gl cs o))
  | .oth => A.gd cs o
def ofKds (A : Ar) (cs : List DV) (o : Nat) : List Kd → Nat → List DV
  | [], _ => []
  | k :: ks, j => ofKd A cs (match j with
    | 0 => o
    | j => A.pl o j) k :: ofKds A cs o ks (j + 1)
def wrapV (ag : Bool) (ds : List DV) : Option DV := match ag, ds with
  | true, ds => some (.agg ds)
  | false, [d] => some d
  | _, _ => none
def loadS (T : Unit → Tab) (A : Ar) (st : Store) (t : Nat) (a : DV) : RV :=
  match (T ()).ty t, (T ()).kds t, a with
  | some (sz, ag), some ks, .ref b ver o => match st[b]? with
    | some bx => bif bx.live then (match wrapV ag (ofKds A bx.cells o ks 0) with
      | some d => some ([A.same ver bx.ver, A.has bx.cells o sz (ofKds A bx.cells o ks 0)], d)
      | none => none) else none
    | none => none
  | some (sz, ag), some ks, .cref cs => (match wrapV ag (ofKds A (A.lift cs) 0 ks 0) with
      | some d => some ([A.has (A.lift cs) 0 sz (ofKds A (A.lift cs) 0 ks 0)], d)
      | none => none)
  | _, _, _ => none
theorem wrapV_load {P : Program} {st : Store} {t b o : Nat} {bx : Box} {sz : Nat} {ag : Bool} (ht : tyD P t = some (sz, ag)) (hb : st[b]? = some bx) (hl : bx.live = true) {ds : List DV} {d : DV} (hw : wrapV ag ds = some d) (hh : A0.has bx.cells o sz ds) {K : DV → Prop} (hk : K d) : loadD P st t (.ref b bx.ver o) K := by
  obtain ⟨h1, h2, h3⟩ := hh
  unfold wrapV at hw
  unfold loadD
  split at hw
  · cases hw
    simp only [ht, hb]
    exact ⟨hl, trivial, h2, by rw [h3]; exact hk⟩
  · cases hw
    simp only [ht, hb]
    refine ⟨hl, trivial, ?_⟩
    have hs : sz = 1 := by simpa using h1.symm
    subst hs
    have : bx.cells[o]? = some d := by
      have h4 : ((bx.cells.drop o).take 1)[0]? = some d := by rw [h3]; rfl
      simpa using h4
    simp only [this]
    exact hk
  · cases hw
theorem wrapV_cload {P : Program} {st : Store} {t : Nat} {cs : List PD} {sz : Nat} {ag : Bool} (ht : tyD P t = some (sz, ag)) {ds : List DV} {d : DV} (hw : wrapV ag ds = some d) (hh : A0.has (A0.lift cs) 0 sz ds) {K : DV → Prop} (hk : K d) : loadD P st t (.cref cs) K := by
  obtain ⟨h1, h2, h3⟩ := hh
  simp only [A0, List.length_map, Nat.zero_add, List.drop_zero] at h2 h3
  unfold wrapV at hw
  unfold loadD
  split at hw
  · cases hw
    simp only [ht]
    exact ⟨h2, by rw [List.map_take, h3]; exact hk⟩
  · cases hw
    simp only [ht]
    have hs : sz = 1 := by simpa using h1.symm
    subst hs
    have h4 : ((cs.map DV.d).take 1)[0]? = some d := by rw [h3]; rfl
    have h5 : (cs[0]?).map DV.d = some d := by simpa using h4
    cases hc : cs[0]? with
    | none => rw [hc] at h5; cases h5
    | some p =>
      rw [hc] at h5
      cases h5
      exact hk
  · cases hw
theorem loadS_D {P : Program} {T : Unit → Tab} (hT : TabOk P (T ())) {st : Store} {t : Nat} {a : DV} {cs : List Prop} {d : DV} (h : loadS T A0 st t a = some (cs, d)) (hc : allP cs True) {K : DV → Prop} (hk : K d) : loadD P st t a K := by
  unfold loadS at h
  split at h
  · rename_i sz ag ks b ver o ht hks
    split at h
    · rename_i bx hb
      cases hl : bx.live
      · rw [hl] at h; cases h
      · rw [hl] at h
        simp only [cond_true] at h
        split at h
        · rename_i d' hw
          cases h
          obtain ⟨h1, h2, _⟩ := hc
          have h1' : ver = bx.ver := h1
          subst h1'
          exact wrapV_load (hT.ty _ _ ht) hb hl hw h2 hk
        · cases h
    · cases h
  · rename_i sz ag ks cs' ht hks
    split at h
    · rename_i d' hw
      cases h
      exact wrapV_cload (hT.ty _ _ ht) hw hc.1 hk
    · cases h
  · cases h
/-- A whole aggregate that isn't counted out. -/
def loadW (T : Unit → Tab) (A : Ar) (st : Store) (t : Nat) (a : DV) : RV :=
  match (T ()).ty t, a with
  | some (sz, true), .ref b ver o => match st[b]? with
    | some bx => bif bx.live then (match (T ()).sym 5004 with
      | true => some ([A.same ver bx.ver, A.full bx.cells (o + sz) 1], .agg (bx.cells.drop o))
      | false => some ([A.same ver bx.ver, A.fitv bx.cells o 1 sz], .agg (A.tk bx.cells o 1 sz))) else none
    | none => none
  | _, _ => none
theorem loadW_D {P : Program} {T : Unit → Tab} (hT : TabOk P (T ())) {st : Store} {t : Nat} {a : DV} {cs : List Prop} {d : DV} (h : loadW T A0 st t a = some (cs, d)) (hc : allP cs True) {K : DV → Prop} (hk : K d) : loadD P st t a K := by
  unfold loadW at h
  unfold loadD
  split at h
  · rename_i sz b ver o ht
    simp only [hT.ty _ _ ht]
    split at h
    · rename_i bx hb
      simp only [hb]
      cases hl : bx.live
      · rw [hl] at h; cases h
      · rw [hl] at h
        simp only [cond_true] at h
        split at h
        · cases h
          obtain ⟨h1, h2, _⟩ := hc
          simp only [A0, Nat.mul_one] at h1 h2
          refine ⟨rfl, h1, by omega, ?_⟩
          rw [List.take_of_length_le (by rw [List.length_drop]; omega)]
          exact hk
        · cases h
          obtain ⟨h1, h2, _⟩ := hc
          simp only [A0, Nat.one_mul] at h1 h2 hk
          exact ⟨rfl, h1, h2, hk⟩
    · cases h
  · cases h
def fieldAddrS (T : Unit → Tab) (A : Ar) (st : Store) (t : Nat) (a : DV) (f : Nat) : RV :=
  match (T ()).fld t f, a with
  | some off, .ref b ver o => match st[b]? with
    | some bx => some ([A.same ver bx.ver], .ref b ver (A.pl o off))
    | none => none
  | some off, .cref cs => some ([], .cref (A.cdrop cs off))
  | _, _ => none
theorem fieldAddrS_D {P : Program} {T : Unit → Tab} (hT : TabOk P (T ())) {st : Store} {t f : Nat} {a : DV} {cs : List Prop} {d : DV} (h : fieldAddrS T A0 st t a f = some (cs, d)) (hc : allP cs True) {K : DV → Prop} (hk : K d) : fieldAddrD P st t a f K := by
  unfold fieldAddrS at h
  unfold fieldAddrD
  split at h
  · rename_i off b ver o ht
    simp only [hT.fld _ _ _ ht]
    split at h
    · rename_i bx hb
      simp only [hb]
      cases h
      exact ⟨hc.1, hk⟩
    · cases h
  · rename_i off ds ht
    simp only [hT.fld _ _ _ ht]
    cases h
    exact hk
  · cases h
def indexAddrS (T : Unit → Tab) (A : Ar) (st : Store) (t : Nat) (a ix : DV) : RV :=
  match ix with
  | .d (.sc (.int _ i)) => match (T ()).arr t, (T ()).sl t, a with
    | some (n, _, sz), _, .ref b ver o => match st[b]? with
      | some bx => some ([A.same ver bx.ver, A.inb i (A.int n)], .ref b ver (A.off o i sz))
      | none => none
    | some (n, _, sz), _, .cref cs => some ([A.inb i (A.int n)], .cref (A.cdrop cs (A.off 0 i sz)))
    | _, some (_, sz), .view sz' b ver o n => match st[b]? with
      | some bx => bif (sz == sz') then some ([A.same ver bx.ver, A.inb i (A.int n)], .ref b ver (A.off o i sz)) else none
      | none => none
    | _, some (_, sz), .d (.slc sz' xs) => bif (sz == sz') then some ([A.inb i (A.len xs)], .cref (A.row xs i)) else none
    | _, _, _ => none
  | _ => none
theorem indexAddrS_D {P : Program} {T : Unit → Tab} (hT : TabOk P (T ())) {st : Store} {t : Nat} {a ix : DV} {cs : List Prop} {d : DV} (h : indexAddrS T A0 st t a ix = some (cs, d)) (hc : allP cs True) {K : DV → Prop} (hk : K d) : indexAddrD P st t a ix K := by
  unfold indexAddrS at h
  unfold indexAddrD
  split at h
  · rename_i k i
    simp only [intOfD]
    split at h
    · rename_i n e sz b ver o ht
      simp only [hT.arr _ _ ht]
      split at h
      · rename_i bx hb
        simp only [hb]
        cases h
        exact ⟨hc.1, hc.2.1, hk⟩
      · cases h
    · rename_i n e sz ds ht
      simp only [hT.arr _ _ ht]
      cases h
      refine ⟨hc.1, ?_⟩
      simpa [A0] using hk
    · rename_i e9 sz sz' b ver o n ht
      have ht' := hT.sl _ _ ht
      simp only [slD_arrD ht', ht']
      split at h
      · rename_i bx hb
        simp only [hb]
        cases hh : (sz == sz')
        · rw [hh] at h; cases h
        · rw [hh] at h
          cases h
          exact ⟨hc.1, eqb hh, hc.2.1, hk⟩
      · cases h
    · rename_i e9 sz sz' xs ht
      have ht' := hT.sl _ _ ht
      simp only [slD_arrD ht', ht']
      cases hh : (sz == sz')
      · rw [hh] at h; cases h
      · rw [hh] at h
        cases h
        obtain ⟨h1, _⟩ := hc
        refine ⟨eqb hh, h1, ?_⟩
        have h1' : 0 ≤ i ∧ i < (xs.length : Int) := h1
        have hlt : i.toNat < xs.length := by omega
        rw [List.getElem?_eq_getElem hlt]
        have e : A0.row xs i = xs[i.toNat] := by simp [A0, List.getD_eq_getElem?_getD, List.getElem?_eq_getElem hlt]
        rw [e] at hk
        exact hk
    · cases h
  · cases h
/-- A string's byte, an array's element, not reckoned out. -/
def indexS (T : Unit → Tab) (A : Ar) (t : Nat) (x ix : DV) : RV :=
  match ix, x with
  | .d (.sc (.int _ i)), .d (.sc (.string s)) => bif (T ()).str t then some ([A.inb i (A.size s)], .d (.sc (.int .u8 (A.byte s i)))) else none
  | .d (.sc (.int _ i)), .agg cs => (match (T ()).arr t with
    | some (n, e, sz) => (match (T ()).ty e, (T ()).kds e with
      | some (sz', ag), some ks => (match wrapV ag (ofKds A cs (A.off 0 i sz) ks 0) with
        | some d => some ([A.inb i (A.int n), A.has cs (A.off 0 i sz) sz' (ofKds A cs (A.off 0 i sz) ks 0)], d)
        | none => none)
      | _, _ => none)
    | none => none)
  | _, _ => none
theorem indexS_D {P : Program} {T : Unit → Tab} (hT : TabOk P (T ())) {t : Nat} {x ix : DV} {cs : List Prop} {d : DV} (h : indexS T A0 t x ix = some (cs, d)) (hc : allP cs True) {K : DV → Prop} (hk : K d) : indexD P t x ix K := by
  unfold indexS at h
  unfold indexD
  split at h
  · rename_i k i s
    simp only [intOfD]
    cases hh : (T ()).str t
    · rw [hh] at h; cases h
    · rw [hh] at h
      cases h
      obtain ⟨h1, _⟩ := hc
      have h1' : 0 ≤ i ∧ i < (s.size : Int) := h1
      refine ⟨hT.str _ hh, h1'.1, ?_⟩
      have hlt : i.toNat < s.size := by omega
      have e : A0.byte s i = (s[i.toNat]'hlt).toNat := by simp [A0, hlt]
      rw [e] at hk
      rw [getElem?_pos s i.toNat hlt]
      exact hk
  · rename_i k i ds
    simp only [intOfD]
    split at h
    · rename_i n e sz ht
      simp only [hT.arr _ _ ht]
      split at h
      · rename_i sz' ag ks h2 h3
        split at h
        · rename_i d' hw
          cases h
          obtain ⟨h1, ⟨g1, g2, g3⟩, _⟩ := hc
          refine ⟨h1, ?_⟩
          have eo : A0.off 0 i sz = i.toNat * sz := by simp [A0]
          rw [eo] at g1 g2 g3 hw
          unfold wrapV at hw
          unfold partD
          split at hw
          · cases hw
            simp only [hT.ty _ _ h2]
            exact ⟨g2, by rw [g3]; exact hk⟩
          · rename_i d2 hd2
            cases hw
            simp only [hT.ty _ _ h2]
            have hs : sz' = 1 := by rw [hd2] at g1; simpa using g1.symm
            subst hs
            have h4 : ((ds.drop (i.toNat * sz)).take 1)[0]? = some d := by rw [g3, hd2]; rfl
            have h5 : ds[i.toNat * sz]? = some d := by simpa using h4
            simp only [h5]
            exact hk
          · cases hw
        · cases h
      · cases h
    · cases h
  · cases h
end Go.Proofs.Ytadnpgkddgbhkaa
namespace Go.Proofs.Ytadnpgkddgbhkaa
open Go.RowKit
set_option linter.all false
def eqL (A : Ar) : List Nat → List DV → List DV → Option Bool
  | [], [], [] => some true
  | k :: ks, .d (.sc x) :: xs, .d (.sc y) :: ys => match eqL A ks xs ys with
    | some b => match k, x, y with
      | 0, .int .i64 a, .int .i64 c => some (A.and (A.cmp .eql a c) b)
      | 1, .bool a, .bool c => some (A.and (A.beq a c) b)
      | 2, .string a, .string c => some (A.and (A.scmp .eql a c) b)
      | _, _, _ => none
    | none => none
  | _, _, _ => none
theorem eqL_D : ∀ (ks : List Nat) (xs ys : List DV) (b : Bool), eqL A0 ks xs ys = some b → eqD ks xs ys = some b
  | [], [], [], b, h => h
  | k :: ks, .d (.sc x) :: xs, .d (.sc y) :: ys, b, h => by
      unfold eqL at h
      unfold eqD
      split at h
      · rename_i b' hb
        have ih := eqL_D ks xs ys b' hb
        simp only [ih, scEqD]
        split at h <;> cases h <;> simp [scEq, A0]
      · cases h
  | [], [], _ :: _, _, h => by simp [eqL] at h
  | [], _ :: _, _, _, h => by simp [eqL] at h
  | _ :: _, [], _, _, h => by simp [eqL] at h
  | _ :: _, _ :: _, [], _, h => by simp [eqL] at h
  | _ :: _, .any :: _, _ :: _, _, h => by simp [eqL] at h
  | _ :: _, .agg _ :: _, _ :: _, _, h => by simp [eqL] at h
  | _ :: _, .tup _ :: _, _ :: _, _, h => by simp [eqL] at h
  | _ :: _, .ref _ _ _ :: _, _ :: _, _, h => by simp [eqL] at h
  | _ :: _, .cref _ :: _, _ :: _, _, h => by simp [eqL] at h
  | _ :: _, .view _ _ _ _ _ :: _, _ :: _, _, h => by simp [eqL] at h
  | _ :: _, .fn _ _ :: _, _ :: _, _, h => by simp [eqL] at h
  | _ :: _, .d (.slc _ _) :: _, _ :: _, _, h => by simp [eqL] at h
  | _ :: _, .d (.sc _) :: _, .any :: _, _, h => by simp [eqL] at h
  | _ :: _, .d (.sc _) :: _, .agg _ :: _, _, h => by simp [eqL] at h
  | _ :: _, .d (.sc _) :: _, .tup _ :: _, _, h => by simp [eqL] at h
  | _ :: _, .d (.sc _) :: _, .ref _ _ _ :: _, _, h => by simp [eqL] at h
  | _ :: _, .d (.sc _) :: _, .cref _ :: _, _, h => by simp [eqL] at h
  | _ :: _, .d (.sc _) :: _, .view _ _ _ _ _ :: _, _, h => by simp [eqL] at h
  | _ :: _, .d (.sc _) :: _, .fn _ _ :: _, _, h => by simp [eqL] at h
  | _ :: _, .d (.sc _) :: _, .d (.slc _ _) :: _, _, h => by simp [eqL] at h
/-- Two numbers; what is to be shown ahead of it. -/
def intV (A : Ar) (op : BinOp) (k k' : IntKind) (a b : Int) : RV :=
  match op with
  | .add => some ([k = k'], .d (.sc (.int k (A.bin .add k a b))))
  | .sub => some ([k = k'], .d (.sc (.int k (A.bin .sub k a b))))
  | .mul => some ([k = k'], .d (.sc (.int k (A.bin .mul k a b))))
  | .quo => some ([k = k', A.nz b], .d (.sc (.int k (A.bin .quo k a b))))
  | .rem => some ([k = k', A.nz b], .d (.sc (.int k (A.bin .rem k a b))))
  | .and => some ([k = k'], .d (.sc (.int k (A.bin .and k a b))))
  | .or => some ([k = k'], .d (.sc (.int k (A.bin .or k a b))))
  | .xor => some ([k = k'], .d (.sc (.int k (A.bin .xor k a b))))
  | .shl => some ([A.nn b], .d (.sc (.int k (A.bin .shl k a b))))
  | .shr => some ([A.nn b], .d (.sc (.int k (A.bin .shr k a b))))
  | .eql => some ([k = k'], .d (.sc (.bool (A.cmp .eql a b))))
  | .neq => some ([k = k'], .d (.sc (.bool (A.cmp .neq a b))))
  | .lss => some ([k = k'], .d (.sc (.bool (A.cmp .lss a b))))
  | .leq => some ([k = k'], .d (.sc (.bool (A.cmp .leq a b))))
  | .gtr => some ([k = k'], .d (.sc (.bool (A.cmp .gtr a b))))
  | .geq => some ([k = k'], .d (.sc (.bool (A.cmp .geq a b))))
  | _ => none
theorem intV_D {op : BinOp} {k k' : IntKind} {a b : Int} {cs : List Prop} {d : DV} (h : intV A0 op k k' a b = some (cs, d)) (hc : allP cs True) {K : DV → Prop} (hk : K d) : intBin op k k' a b K := by
  unfold intV at h
  unfold intBin
  split at h <;> cases h <;> first
    | exact ⟨hc.1, hk⟩
    | exact ⟨hc.1, hc.2.1, hk⟩
def strV (A : Ar) (op : BinOp) (a b : ByteArray) : RV :=
  match op with
  | .add => some ([A.fit a b], .d (.sc (.string (A.cat a b))))
  | .eql => some ([], .d (.sc (.bool (A.scmp .eql a b))))
  | .neq => some ([], .d (.sc (.bool (A.scmp .neq a b))))
  | .lss => some ([], .d (.sc (.bool (A.scmp .lss a b))))
  | .leq => some ([], .d (.sc (.bool (A.scmp .leq a b))))
  | .gtr => some ([], .d (.sc (.bool (A.scmp .gtr a b))))
  | .geq => some ([], .d (.sc (.bool (A.scmp .geq a b))))
  | _ => none
theorem strV_D {op : BinOp} {a b : ByteArray} {cs : List Prop} {d : DV} (h : strV A0 op a b = some (cs, d)) (hc : allP cs True) {K : DV → Prop} (hk : K d) : strBin op a b K := by
  unfold strV at h
  unfold strBin
  split at h <;> cases h <;> first
    | exact hk
    | exact ⟨hc.1, hk⟩
def eqV2 (A : Ar) (op : BinOp) (b : Bool) : RV :=
  match op with
  | .eql => some ([], .d (.sc (.bool b)))
  | .neq => some ([], .d (.sc (.bool (A.not b))))
  | _ => none
theorem eqV2_D {op : BinOp} {b : Bool} {cs : List Prop} {d : DV} (h : eqV2 A0 op b = some (cs, d)) {K : DV → Prop} (hk : K d) : eqK op b K := by
  unfold eqV2 at h
  unfold eqK
  split at h <;> cases h <;> exact hk
def binV (T : Unit → Tab) (A : Ar) (st : Store) (op : BinOp) (t : Nat) (x y : DV) : RV :=
  match x, y with
  | .d (.sc (.int k a)), .d (.sc (.int k' b)) => intV A op k k' a b
  | .d (.sc (.string a)), .d (.sc (.string b)) => strV A op a b
  | .d (.sc (.bool a)), .d (.sc (.bool b)) => bif (T ()).bool t then eqV2 A op (A.beq a b) else none
  | .agg cs, .agg ds => match (T ()).kinds t with
    | some ks => match eqL A ks cs ds with
      | some b => eqV2 A op b
      | none => none
    | none => none
  | .d (.sc (.slice none 0 0)), .d (.sc (.slice none 0 0)) => match (T ()).sl t with
    | some _ => eqV2 A op true
    | none => none
  | .view _ b ver _ _, .d (.sc (.slice none 0 0)) => match (T ()).sl t, st[b]?, eqV2 A op false with
    | some _, some bx, some (cs, d) => some (A.same bx.ver ver :: cs, d)
    | _, _, _ => none
  | .d (.slc _ (_ :: _)), .d (.sc (.slice none 0 0)) => match (T ()).sl t with
    | some _ => eqV2 A op false
    | none => none
  | .d (.sc (.pointer none)), .d (.sc (.pointer none)) => bif (T ()).ptr t then eqV2 A op true else none
  | .ref b ver _, .d (.sc (.pointer none)) => match st[b]? with
    | some bx => bif (bx.ver == ver) && (T ()).ptr t then eqV2 A op false else none
    | none => none
  | _, _ => none
theorem binV_D {P : Program} {T : Unit → Tab} (hT : TabOk P (T ())) {st : Store} {op : BinOp} {t : Nat} {x y : DV} {cs : List Prop} {d : DV} (h : binV T A0 st op t x y = some (cs, d)) (hc : allP cs True) {K : DV → Prop} (hk : K d) : binD P st op t x y K := by
  unfold binV at h
  split at h
  · exact intV_D h hc hk
  · exact strV_D h hc hk
  · cases hh : (T ()).bool t
    · rw [hh] at h; cases h
    · rw [hh] at h
      exact ⟨hT.bool _ hh, eqV2_D h hk⟩
  · split at h
    · rename_i ks hks
      obtain ⟨h1, h2, h3⟩ := hT.kinds _ _ hks
      split at h
      · rename_i b hb
        refine ⟨h1, h2, ?_⟩
        simp only [h3, eqL_D _ _ _ _ hb]
        exact eqV2_D h hk
      · cases h
    · cases h
  · split at h
    · rename_i ht
      exact ⟨by rw [hT.sl _ _ ht]; rfl, eqV2_D h hk⟩
    · cases h
  · rename_i sz b ver o n
    split at h
    · rename_i bx cs' d' ht hb h'
      cases h
      refine ⟨?_, by rw [hT.sl _ _ ht]; rfl, eqV2_D h' hk⟩
      have h1 : bx.ver = ver := hc.1
      simp only [notNil, hb]
      simpa using h1
    · cases h
  · split at h
    · rename_i ht
      exact ⟨rfl, by rw [hT.sl _ _ ht]; rfl, eqV2_D h hk⟩
    · cases h
  · cases hh : (T ()).ptr t
    · rw [hh] at h; cases h
    · rw [hh] at h
      obtain ⟨e, he⟩ := hT.ptr _ hh
      refine ⟨?_, eqV2_D h hk⟩
      simp only [he]
  · rename_i b ver o
    split at h
    · rename_i bx hb
      cases hh : ((bx.ver == ver) && (T ()).ptr t)
      · rw [hh] at h; cases h
      · rw [hh] at h
        simp only [Bool.and_eq_true] at hh
        obtain ⟨e, he⟩ := hT.ptr _ hh.2
        refine ⟨?_, ?_, eqV2_D h hk⟩
        · simp only [notNilP, hb]
          simpa using eqb hh.1
        · simp only [he]
    · cases h
  · cases h
end Go.Proofs.Ytadnpgkddgbhkaa
namespace Go.Proofs.Ytadnpgkddgbhkaa
open Go.RowKit
set_option linter.all false
def pickV (A : Ar) (c a b : DV) : RV :=
  match c, a, b with
  | .d (.sc (.bool t)), .d (.sc (.bool p)), .d (.sc (.bool q)) => some ([], .d (.sc (.bool (A.cond t p q))))
  | _, _, _ => none
theorem pickV_D {c a b : DV} {cs : List Prop} {d : DV} (h : pickV A0 c a b = some (cs, d)) {K : DV → Prop} (hk : K d) : pickD c a b K := by
  unfold pickV at h
  split at h
  · cases h; exact hk
  · cases h
theorem pickD_either {t : Bool} {a b : DV} {K : DV → Prop} (h : (t = true → K a) ∧ (t = false → K b)) : pickD (.d (.sc (.bool t))) a b K := by
  unfold pickD
  dsimp only
  split
  · cases t
    · exact h.2 rfl
    · exact h.1 rfl
  · exact h
/-- A choice whose condition is known. -/
def pickK (A : Ar) (c a b : DV) : RV :=
  match c with
  | .d (.sc (.bool t)) => (match a, b with
    | .d (.sc (.bool p)), .d (.sc (.bool q)) => some ([], .d (.sc (.bool (A.cond t p q))))
    | a, b => (match t with
      | true => some ([], a)
      | false => some ([], b)))
  | _ => none
theorem pickK_D {c a b : DV} {cs : List Prop} {d : DV} (h : pickK A0 c a b = some (cs, d)) {K : DV → Prop} (hk : K d) : pickD c a b K := by
  unfold pickK at h
  split at h
  · rename_i t
    split at h
    · cases h; exact hk
    · refine pickD_either ?_
      cases t <;> dsimp only at h <;> cases h
      · exact ⟨fun e => (by cases e), fun _ => hk⟩
      · exact ⟨fun _ => hk, fun e => (by cases e)⟩
  · cases h
def cellsV : DV → Option (List DV)
  | .agg cs => some cs
  | .d (.sc v) => bif v.oneCell' then some [.d (.sc v)] else none
  | .d (.slc sz xs) => some [.d (.slc sz xs)]
  | .ref b ver o => some [.ref b ver o]
  | .cref cs => some [.cref cs]
  | .view sz b ver o n => some [.view sz b ver o n]
  | .fn f cs => some [.fn f cs]
  | _ => none
theorem cellsV_D {x : DV} {ds : List DV} (h : cellsV x = some ds) : cellsD x = some ds := by
  unfold cellsV at h
  unfold cellsD
  split at h <;> try exact h
  · rename_i v
    cases hh : v.oneCell'
    · rw [hh] at h; cases h
    · rw [hh] at h; simp only [hh, ↓reduceIte]; exact h
  · cases h
def fillV (T : Unit → Tab) (t : Nat) (cells : List DV) : List (Nat × DV) → Option (List DV)
  | [] => some cells
  | (i, x) :: rest => match (T ()).place t i, cellsV x with
    | some (off, size), some ds => bif (ds.length == size) && decide ((off + size) ≤ cells.length) then fillV T t (splice cells off ds) rest else none
    | _, _ => none
theorem fillV_D {P : Program} {T : Unit → Tab} (hT : TabOk P (T ())) {t : Nat} : ∀ (parts : List (Nat × DV)) (cells cs : List DV), fillV T t cells parts = some cs → fillD (placeD P t) cells parts = some cs
  | [], _, _, h => h
  | (i, x) :: rest, cells, cs, h => by
      unfold fillV at h
      unfold fillD
      split at h
      · rename_i off size ds hp hx
        simp only [hT.place _ _ _ hp, cellsV_D hx]
        cases hh : ((ds.length == size) && decide ((off + size) ≤ cells.length))
        · rw [hh] at h; cases h
        · rw [hh] at h
          simp only [Bool.and_eq_true, decide_eq_true_eq] at hh
          rw [if_pos ⟨eqb hh.1, hh.2⟩]
          exact fillV_D hT rest _ cs h
      · cases h
def fillS (sz : Nat) (cells : List DV) : List (Nat × DV) → Option (List DV)
  | [] => some cells
  | (i, x) :: rest => match cellsV x with
    | some ds => bif (ds.length == sz) && decide ((i * sz + sz) ≤ cells.length) then fillS sz (splice cells (i * sz) ds) rest else none
    | _ => none
theorem fillS_D {sz : Nat} : ∀ (parts : List (Nat × DV)) (cells cs : List DV), fillS sz cells parts = some cs → fillD (fun i => some (i * sz, sz)) cells parts = some cs
  | [], _, _, h => h
  | (i, x) :: rest, cells, cs, h => by
      unfold fillS at h
      unfold fillD
      split at h
      · rename_i ds hx
        simp only [cellsV_D hx]
        cases hh : ((ds.length == sz) && decide ((i * sz + sz) ≤ cells.length))
        · rw [hh] at h; cases h
        · rw [hh] at h
          simp only [Bool.and_eq_true, decide_eq_true_eq] at hh
          rw [if_pos ⟨eqb hh.1, hh.2⟩]
          exact fillS_D rest _ cs h
      · cases h
/-- What turns the store, too. -/
abbrev SV := Option (List Prop × DV × Store)
def pureV (st : Store) : RV → SV
  | some (cs, d) => some (cs, d, st)
  | none => none
theorem pureV_some {st st' : Store} {r : RV} {cs : List Prop} {d : DV} (h : pureV st r = some (cs, d, st')) : st' = st ∧ r = some (cs, d) := by
  unfold pureV at h
  split at h
  · cases h; exact ⟨rfl, rfl⟩
  · cases h
def boxV (st : Store) (t : Nat) (x : DV) : SV :=
  match cellsV x with
  | some ds => bif decide (ds.length ≤ 1000000) then some ([], .ref st.length 0 0, st ++ [⟨t, ds, false, 0, true⟩]) else none
  | none => none
/-- A box of cells that aren't counted out. -/
def boxS (A : Ar) (st : Store) (t : Nat) (x : DV) : SV :=
  match cellsV x with
  | some ds => some ([A.sml ds], .ref st.length 0 0, st ++ [⟨t, ds, false, 0, true⟩])
  | none => none
def allocV (T : Unit → Tab) (st : Store) (t : Nat) : SV :=
  match (T ()).zero t with
  | some ds => some ([], .ref st.length 0 0, st ++ [⟨t, ds, false, 0, true⟩])
  | none => none
def storeV (T : Unit → Tab) (st : Store) (t : Nat) (a x : DV) : SV :=
  match (T ()).ty t, a, cellsV x with
  | some (sz, _), .ref b ver o, some ds => match st[b]? with
    | some bx => bif bx.live && (ver == bx.ver) && (ds.length == sz) && decide ((o + sz) ≤ bx.cells.length) then some ([], .d (.sc (.tuple #[])), st.set b ⟨bx.ty, splice bx.cells o ds, bx.ext, bx.ver, bx.live⟩) else none
    | none => none
  | _, _, _ => none
def buildV (T : Unit → Tab) (t : Nat) (parts : List (Nat × DV)) : RV :=
  match (T ()).bok t, (T ()).zero t with
  | true, some z => match fillV T t z parts with
    | some cs => some ([], .agg cs)
    | none => none
  | _, _ => none
/-- The last part isn't counted out. -/
def buildX (T : Unit → Tab) (A : Ar) (t : Nat) (parts : List (Nat × DV)) : RV :=
  match parts with
  | [(i, x)] => (match (T ()).bok t, (T ()).zero t, (T ()).place t i, cellsV x with
    | true, some z, some (off, size), some ds => bif (off + size == z.length) then some ([A.full ds size 1], .agg (z.take off ++ ds)) else none
    | _, _, _, _ => none)
  | [(j, y), (i, x)] => (match (T ()).bok t, (T ()).zero t, (T ()).place t i, cellsV x with
    | true, some z0, some (off, size), some ds => (match fillV T t z0 [(j, y)] with
      | some z => bif (off + size == z.length) then some ([A.full ds size 1], .agg (z.take off ++ ds)) else none
      | none => none)
    | _, _, _, _ => none)
  | _ => none
def buildSliceV (T : Unit → Tab) (st : Store) (t : Nat) (len : Nat) (parts : List (Nat × DV)) : SV :=
  match (T ()).sl t with
  | some (e, sz) => match (T ()).zero e with
    | some z => bif decide ((len * sz) ≤ 100000) && (z.length == sz) && decide (0 < sz) then (match fillS sz (List.replicate len z).flatten parts with
      | some cs => some ([], .view sz st.length 0 0 len, st ++ [⟨e, cs, false, 0, true⟩])
      | none => none) else none
    | none => none
  | none => none
def boundV (dflt : Int) : Option DV → Option Int
  | none => some dflt
  | some (.d (.sc (.int _ i))) => some i
  | _ => none
theorem boundV_D {dflt : Int} {x : Option DV} {i : Int} (h : boundV dflt x = some i) : boundD dflt x = some i := by
  unfold boundV at h
  unfold boundD
  split at h
  · exact h
  · exact h
  · cases h
def sliceV (T : Unit → Tab) (A : Ar) (st : Store) (t : Nat) (x : DV) (lo hi : Option DV) : RV :=
  match x with
  | .d (.sc (.string s)) => match (T ()).str t, boundV 0 lo, boundV (A.size s) hi with
    | true, some l, some h => some ([A.bnd l h (A.size s)], .d (.sc (.string (A.extract s l h))))
    | _, _, _ => none
  | .d (.slc sz xs) => match (T ()).sl t, boundV 0 lo, boundV (A.len xs) hi with
    | some (_, sz'), some l, some h => some ([sz' = sz, A.bnd l h (A.len xs)], .d (.slc sz (A.sub xs l h)))
    | _, _, _ => none
  | .view sz b ver o n => match (T ()).sl t, lo, boundV (A.int n) hi, st[b]? with
    | some (_, sz'), none, some h, some bx => some ([sz' = sz, A.same ver bx.ver, A.bnd 0 h (A.int n)], .view sz b ver o (A.nat h))
    | _, _, _, _ => none
  | _ => none
def storeS (T : Unit → Tab) (A : Ar) (st : Store) (t : Nat) (a x : DV) : SV :=
  match (T ()).ty t, a, cellsV x with
  | some (sz, _), .ref b ver o, some ds => match st[b]? with
    | some bx => bif bx.live && (ds.length == sz) then some ([A.same ver bx.ver, A.fits bx.cells o sz], .d (.sc (.tuple #[])), st.set b ⟨bx.ty, A.spl bx.cells o ds, bx.ext, bx.ver, bx.live⟩) else none
    | none => none
  | _, _, _ => none
/-- What is stored isn't counted out. -/
def storeX (T : Unit → Tab) (A : Ar) (st : Store) (t : Nat) (a x : DV) : SV :=
  match (T ()).ty t, a, cellsV x with
  | some (sz, _), .ref b ver o, some ds => match st[b]? with
    | some bx => bif bx.live then (match (T ()).sym 5004 with
      | true => some ([A.same ver bx.ver, A.full bx.cells (o + sz) 1, A.full ds sz 1], .d (.sc (.tuple #[])), st.set b ⟨bx.ty, bx.cells.take o ++ ds, bx.ext, bx.ver, bx.live⟩)
      | false => some ([A.same ver bx.ver, A.fits bx.cells o sz, A.full ds sz 1], .d (.sc (.tuple #[])), st.set b ⟨bx.ty, A.spl bx.cells o ds, bx.ext, bx.ver, bx.live⟩)) else none
    | none => none
  | _, _, _ => none
def makeV (T : Unit → Tab) (A : Ar) (st : Store) (t : Nat) (l c : DV) : SV :=
  match (T ()).sl t, l, c with
  | some (e, sz), .d (.sc (.int _ l)), .d (.sc (.int _ c)) => match (T ()).zero e, (T ()).by8 e with
    | some z, some by8 => bif (z.length == sz) && decide (0 < sz) then some ([A.mkok l c by8 sz], .view sz st.length 0 0 (A.nat l), st ++ [⟨e, A.rep l z, A.ext l c, 0, true⟩]) else none
    | _, _ => none
  | _, _, _ => none
/-- What is appended. -/
def srcV (T : Unit → Tab) (A : Ar) (st : Store) (sz : Nat) (t : Nat) (x : DV) : Option (List Prop × List DV × Nat) :=
  match x with
  | .d (.slc sz' xs) => (match (T ()).sl t with
    | some _ => bif (sz' == sz) then some ([], A.rows xs, A.lenN xs) else none
    | none => none)
  | .d (.sc (.slice none 0 0)) => (match (T ()).sl t with
    | some _ => some ([], [], 0)
    | none => none)
  | .d (.sc (.string s)) => bif (sz == 1) && (T ()).str t then some ([], A.byts s, A.sizeN s) else none
  | .view sz' b ver o n => match (T ()).sl t, st[b]? with
    | some _, some bx => bif (sz' == sz) && bx.live then some ([A.same ver bx.ver, A.fitv bx.cells o n sz], A.tk bx.cells o n sz, n) else none
    | _, _ => none
  | _ => none
def copyV (T : Unit → Tab) (A : Ar) (st : Store) (t u : Nat) (dst src : DV) : SV :=
  match (T ()).sl t, (T ()).sl u, dst with
  | some (_, sz), some _, .view sz' b ver o n => (match st[b]?, srcV T A st sz u src with
    | some bx, some (cs, ds, m) => bif (sz' == sz) && bx.live then some (cs ++ [A.same ver bx.ver, A.bnd 0 (A.int m) (A.int n), A.fitc bx.cells o ds], .d (.sc (.int .i64 (A.int m))), st.set b ⟨bx.ty, A.spl bx.cells o ds, bx.ext, bx.ver, bx.live⟩) else none
    | _, _ => none)
  | _, _, _ => none
def appendV (T : Unit → Tab) (A : Ar) (st : Store) (t u : Nat) (s x : DV) : SV :=
  match (T ()).sl t with
  | some (e, sz) => match (T ()).zero e, (T ()).by8 e, srcV T A st sz u x with
    | some z, some by8, some (cs, ds, m) => bif (z.length == sz) && decide (0 < sz) && ((T ()).str u || (u == t)) then (match s with
      | .d (.sc (.slice none 0 0)) => (match x with
        | .view _ _ _ _ _ => some (cs ++ [A.pos m, A.isl 0 m by8], .view sz st.length 0 0 m, st ++ [⟨e, ds, true, 0, true⟩])
        | .d (.slc _ _) => bif (T ()).sym 5006 then some (cs ++ [A.pos m, A.isl 0 m by8], .view sz st.length 0 0 m, st ++ [⟨e, ds, true, 0, true⟩]) else none
        | _ => none)
      | .view sz' b ver o n => (match st[b]? with
        | some bx => bif (sz' == sz) && (o == 0) && bx.live && (bx.ty == e) then some (cs ++ [A.same ver bx.ver, A.full bx.cells n sz, A.isl n m by8], .view sz b (A.nxt ver) 0 (A.pl n m), st.set b ⟨e, A.app bx.cells ds, true, A.nxt ver, true⟩) else none
        | none => none)
      | _ => none) else none
    | _, _, _ => none
  | none => none
/-- The room of a row of which it is known. -/
def capV (T : Unit → Tab) (A : Ar) (st : Store) (t : Nat) (x : DV) : RV :=
  match x with
  | .d (.sc (.slice none 0 0)) => (match (T ()).sl t with
    | some _ => some ([], .d (.sc (.int .i64 0)))
    | none => none)
  | .view sz b ver o _ => (match (T ()).sl t, st[b]? with
    | some _, some bx => bif bx.live && !bx.ext && decide (0 < sz) then some ([A.same ver bx.ver], .d (.sc (.int .i64 (A.capn bx.cells o sz)))) else none
    | _, _ => none)
  | _ => none
def slice2V (T : Unit → Tab) (A : Ar) (st : Store) (t : Nat) (x : DV) (lo hi : Option DV) : RV :=
  match x with
  | .view sz b ver o n => (match (T ()).sl t, boundV 0 lo, boundV (A.int n) hi, st[b]? with
    | some (_, sz'), some l, some h, some bx => bif bx.live && decide (0 < sz) && (sz' == sz) then some ([A.same ver bx.ver, A.sl2 bx.cells bx.ext o n sz l h], (match lo with
      | none => .view sz b ver o (A.nat h)
      | some _ => .view sz b ver (A.off o l sz) (A.df h l))) else none
    | _, _, _, _ => none)
  | _ => none
/-- What is behind a row's last element. -/
def slice0V (T : Unit → Tab) (A : Ar) (st : Store) (t : Nat) (x : DV) (lo : DV) : RV :=
  match x, lo with
  | .view sz b ver o n, .d (.sc (.int _ l)) => (match (T ()).sl t, st[b]? with
    | some (_, sz'), some bx => bif (sz' == sz) then some ([A.same ver bx.ver, l = A.int n, A.pos n], .d (.slc sz [])) else none
    | _, _ => none)
  | _, _ => none
def slice3V (T : Unit → Tab) (A : Ar) (st : Store) (t : Nat) (x : DV) (lo : Option DV) (hi mx : DV) : RV :=
  match x, hi, mx with
  | .view _ b ver _ n, .d (.sc (.int _ h)), .d (.sc (.int _ m)) => (match (T ()).sl t, boundV 0 lo, st[b]? with
    | some _, some l, some bx => some ([A.same ver bx.ver, A.ord3 l h m (A.int n)], .any)
    | _, _, _ => none)
  | _, _, _ => none
def copy2V (T : Unit → Tab) (A : Ar) (st : Store) (t u : Nat) (dst src : DV) : SV :=
  match (T ()).sl t, (T ()).sl u, dst with
  | some (_, sz), some _, .view sz' b ver o n => (match st[b]?, srcV T A st sz u src with
    | some bx, some (cs, ds, m) => bif (sz' == sz) && bx.live then some (cs ++ [A.same ver bx.ver, A.fitv bx.cells o (A.mn m n) sz], .d (.sc (.int .i64 (A.int (A.mn m n)))), st.set b ⟨bx.ty, A.spl bx.cells o (A.tk ds 0 (A.mn m n) sz), bx.ext, bx.ver, bx.live⟩) else none
    | _, _ => none)
  | _, _, _ => none
/-- append where there is room. -/
def append2V (T : Unit → Tab) (A : Ar) (st : Store) (t u : Nat) (s x : DV) : SV :=
  match (T ()).sl t with
  | some (e, sz) => match (T ()).zero e, (T ()).by8 e, srcV T A st sz u x with
    | some z, some by8, some (cs, ds, m) => bif (z.length == sz) && decide (0 < sz) && ((T ()).str u || (u == t)) then (match s with
      | .view sz' b ver o n => (match st[b]? with
        | some bx => bif (sz' == sz) && (o == 0) && bx.live && (bx.ty == e) && !bx.ext then some (cs ++ [A.same ver bx.ver, A.fitv bx.cells 0 n sz, A.fitv bx.cells 0 (A.pl n m) sz, A.isl n m by8], .view sz b ver 0 (A.pl n m), st.set b ⟨bx.ty, A.spl bx.cells (A.off 0 (A.int n) sz) ds, bx.ext, bx.ver, bx.live⟩) else none
        | none => none)
      | _ => none) else none
    | _, _, _ => none
  | none => none
def zerosV (T : Unit → Tab) (A : Ar) (st : Store) (t u : Nat) (s x : DV) : SV :=
  match (T ()).sl t, x, (T ()).ik u with
  | some (e, sz), .d (.sc (.int _ m)), some _ => match (T ()).zero e, (T ()).by8 e with
    | some z, some by8 => bif (z.length == sz) && decide (0 < sz) then (match s with
      | .d (.sc (.slice none 0 0)) => some ([A.nn m, A.pos (A.nat m), A.isl 0 (A.nat m) by8], .view sz st.length 0 0 (A.nat m), st ++ [⟨e, A.rep m z, true, 0, true⟩])
      | .view sz' b ver o n => (match st[b]? with
        | some bx => bif (sz' == sz) && (o == 0) && bx.live && (bx.ty == e) && !bx.ext then some ([A.nn m, A.same ver bx.ver, A.fitv bx.cells 0 n sz, A.over bx.cells (A.pl n (A.nat m)) sz, A.isl n (A.nat m) by8], .view sz st.length 0 0 (A.pl n (A.nat m)), st ++ [⟨e, A.app (A.tk bx.cells 0 n sz) (A.rep m z), true, 0, true⟩]) else none
        | none => none)
      | _ => none) else none
    | _, _ => none
  | _, _, _ => none
def clearV (T : Unit → Tab) (A : Ar) (st : Store) (t : Nat) (x : DV) : SV :=
  match (T ()).sl t with
  | some (e, sz) => match (T ()).zero e, x with
    | some z, .view sz' b ver o n => (match st[b]? with
      | some bx => bif (sz' == sz) && (z.length == sz) && decide (0 < sz) && bx.live then some ([A.same ver bx.ver, A.fitv bx.cells o n sz], .d (.sc (.tuple #[])), st.set b ⟨bx.ty, A.spl bx.cells o (A.rep (A.int n) z), bx.ext, bx.ver, bx.live⟩) else none
      | none => none)
    | some _, .d (.slc _ []) => some ([], .d (.sc (.tuple #[])), st)
    | _, _ => none
  | none => none
theorem appP : ∀ (l r : List Prop), allP (l ++ r) True → allP l True ∧ allP r True := by
  intro l r
  induction l with
  | nil => exact fun h => ⟨trivial, h⟩
  | cons c l ih => exact fun h => ⟨⟨h.1, (ih h.2).1⟩, (ih h.2).2⟩
section
variable {P : Program} {T : Unit → Tab} (hT : TabOk P (T ())) {st st' : Store} {t : Nat} {cs : List Prop} {d : DV}
theorem boxV_D {x : DV} (h : boxV st t x = some (cs, d, st')) {K : DV → Store → Prop} (hk : K d st') : boxD st t x K := by
  unfold boxV at h
  unfold boxD
  split at h
  · rename_i ds hx
    simp only [cellsV_D hx]
    cases hh : decide (ds.length ≤ 1000000)
    · rw [hh] at h; cases h
    · rw [hh] at h; cases h
      exact ⟨of_decide_eq_true hh, hk⟩
  · cases h
theorem boxS_D {x : DV} (h : boxS A0 st t x = some (cs, d, st')) (hc : allP cs True) {K : DV → Store → Prop} (hk : K d st') : boxD st t x K := by
  unfold boxS at h
  unfold boxD
  split at h
  · rename_i ds hx
    simp only [cellsV_D hx]
    cases h
    exact ⟨hc.1, hk⟩
  · cases h
include hT
theorem allocV_D (h : allocV T st t = some (cs, d, st')) {K : DV → Store → Prop} (hk : K d st') : allocD P st t K := by
  unfold allocV at h
  unfold allocD
  split at h
  · rename_i ds hx
    simp only [hT.zero _ _ hx]
    cases h
    exact hk
  · cases h
theorem storeV_D {a x : DV} (h : storeV T st t a x = some (cs, d, st')) {K : DV → Store → Prop} (hk : K d st') : storeD P st t a x fun st' => K (.d (.sc undef)) st' := by
  unfold storeV at h
  unfold storeD
  split at h
  · rename_i sz ag b ver o ds ht hx
    simp only [hT.ty _ _ ht, cellsV_D hx]
    split at h
    · rename_i bx hb
      simp only [hb]
      cases hh : (bx.live && (ver == bx.ver) && (ds.length == sz) && decide ((o + sz) ≤ bx.cells.length))
      · rw [hh] at h; cases h
      · rw [hh] at h
        simp only [Bool.and_eq_true, decide_eq_true_eq] at hh
        cases h
        exact ⟨hh.1.1.1, eqb hh.1.1.2, eqb hh.1.2, hh.2, hk⟩
    · cases h
  · cases h
theorem buildV_D {parts : List (Nat × DV)} (h : buildV T t parts = some (cs, d)) {K : DV → Prop} (hk : K d) : buildD P t parts K := by
  unfold buildV at h
  unfold buildD
  split at h
  · rename_i z hb hz
    refine ⟨hT.bok _ hb, ?_⟩
    simp only [hT.zero _ _ hz]
    split at h
    · rename_i l hl
      simp only [fillV_D hT _ _ _ hl]
      cases h
      exact hk
    · cases h
  · cases h
theorem buildX_D {parts : List (Nat × DV)} (h : buildX T A0 t parts = some (cs, d)) (hc : allP cs True) {K : DV → Prop} (hk : K d) : buildD P t parts K := by
  unfold buildX at h
  unfold buildD
  split at h
  · rename_i i x
    split at h
    · rename_i z off size ds hb hz hp hx
      refine ⟨hT.bok _ hb, ?_⟩
      simp only [hT.zero _ _ hz]
      cases hh : (off + size == z.length)
      · rw [hh] at h; cases h
      · rw [hh] at h
        cases h
        have h1 : off + size = z.length := eqb hh
        have h2 : ds.length = size := by
          have := hc.1
          simpa [A0] using this
        have e : fillD (placeD P t) z [(i, x)] = some (z.take off ++ ds) := by
          unfold fillD
          simp only [hT.place _ _ _ hp, cellsV_D hx]
          rw [if_pos ⟨h2, by omega⟩]
          unfold fillD
          simp only [splice]
          rw [List.drop_eq_nil_of_le (by omega), List.append_nil]
        rw [e]
        exact hk
    · cases h
  · rename_i j y i x
    split at h
    · rename_i z0 off size ds hb hz hp hx
      refine ⟨hT.bok _ hb, ?_⟩
      simp only [hT.zero _ _ hz]
      split at h
      · rename_i z hf
        cases hh : (off + size == z.length)
        · rw [hh] at h; cases h
        · rw [hh] at h
          cases h
          have h1 : off + size = z.length := eqb hh
          have h2 : ds.length = size := by
            have := hc.1
            simpa [A0] using this
          have hf := fillV_D hT _ _ _ hf
          have e : fillD (placeD P t) z0 [(j, y), (i, x)] = some (z.take off ++ ds) := by
            unfold fillD at hf
            unfold fillD
            split at hf
            · rename_i off' size' ds' hp' hx'
              try simp only [hp', hx']
              split at hf
              · rename_i hs
                unfold fillD at hf
                cases hf
                rw [if_pos hs]
                unfold fillD
                simp only [hT.place _ _ _ hp, cellsV_D hx]
                rw [if_pos ⟨h2, by omega⟩]
                unfold fillD
                generalize splice z0 off' ds' = z at *
                simp only [splice]
                rw [List.drop_eq_nil_of_le (by omega), List.append_nil]
              · cases hf
            · cases hf
          rw [e]
          exact hk
      · cases h
    · cases h
  · cases h
theorem buildSliceV_D {len : Nat} {parts : List (Nat × DV)} (h : buildSliceV T st t len parts = some (cs, d, st')) {K : DV → Store → Prop} (hk : K d st') : buildSliceD P st t len parts K := by
  unfold buildSliceV at h
  unfold buildSliceD
  split at h
  · rename_i e sz ht
    simp only [hT.sl _ _ ht]
    split at h
    · rename_i z hz
      simp only [hT.zero _ _ hz]
      cases hh : (decide ((len * sz) ≤ 100000) && (z.length == sz) && decide (0 < sz))
      · rw [hh] at h; cases h
      · rw [hh] at h
        simp only [Bool.and_eq_true, decide_eq_true_eq, decide_eq_true_eq] at hh
        simp only [cond_true] at h
        split at h
        · rename_i l hl
          simp only [fillS_D _ _ _ hl]
          cases h
          exact ⟨hh.1.1, eqb hh.1.2, hh.2, hk⟩
        · cases h
    · cases h
  · cases h
theorem sliceV_D {x : DV} {lo hi : Option DV} (h : sliceV T A0 st t x lo hi = some (cs, d)) (hc : allP cs True) {K : DV → Prop} (hk : K d) : sliceD P st t x lo hi K := by
  unfold sliceV at h
  unfold sliceD
  split at h
  · split at h
    · rename_i l hh h1 h2 h3
      cases h
      have h3' := boundV_D h3
      simp only [A0] at h3'
      simp only [boundV_D h2, h3']
      exact ⟨hT.str _ h1, hc.1, hk⟩
    · cases h
  · split at h
    · rename_i e sz' l hh h1 h2 h3
      cases h
      have h3' := boundV_D h3
      simp only [A0] at h3'
      simp only [hT.sl _ _ h1, boundV_D h2, h3']
      exact ⟨hc.1, hc.2.1, hk⟩
    · cases h
  · split at h
    · rename_i e sz' hh bx h1 h3 hb
      cases h
      have h3' := boundV_D h3
      simp only [A0] at h3'
      obtain ⟨c1, c2, c3, _⟩ := hc
      simp only [hT.sl _ _ h1, h3', hb, show boundD 0 none = some 0 from rfl]
      exact ⟨c1, c2, .inl ⟨c3, fun _ => hk, fun h0 => by omega, fun h0 => by omega⟩⟩
    · cases h
  · cases h
theorem storeS_D {a x : DV} (h : storeS T A0 st t a x = some (cs, d, st')) (hc : allP cs True) {K : DV → Store → Prop} (hk : K d st') : storeD P st t a x fun st' => K (.d (.sc undef)) st' := by
  unfold storeS at h
  unfold storeD
  split at h
  · rename_i sz ag b ver o ds ht hx
    simp only [hT.ty _ _ ht, cellsV_D hx]
    split at h
    · rename_i bx hb
      simp only [hb]
      cases hh : (bx.live && (ds.length == sz))
      · rw [hh] at h; cases h
      · rw [hh] at h
        simp only [Bool.and_eq_true] at hh
        cases h
        exact ⟨hh.1, hc.1, eqb hh.2, hc.2.1, hk⟩
    · cases h
  · cases h
theorem storeX_D {a x : DV} (h : storeX T A0 st t a x = some (cs, d, st')) (hc : allP cs True) {K : DV → Store → Prop} (hk : K d st') : storeD P st t a x fun st' => K (.d (.sc undef)) st' := by
  unfold storeX at h
  unfold storeD
  split at h
  · rename_i sz ag b ver o ds ht hx
    simp only [hT.ty _ _ ht, cellsV_D hx]
    split at h
    · rename_i bx hb
      simp only [hb]
      cases hh : bx.live
      · rw [hh] at h; cases h
      · rw [hh] at h
        simp only [cond_true] at h
        split at h
        · cases h
          obtain ⟨h1, h2, h3, _⟩ := hc
          simp only [A0, Nat.mul_one] at h2 h3
          refine ⟨rfl, h1, h3, by omega, ?_⟩
          simp only [splice, h3]
          rw [List.drop_eq_nil_of_le (by omega), List.append_nil]
          exact hk
        · cases h
          obtain ⟨h1, h2, h3, _⟩ := hc
          simp only [A0, Nat.mul_one] at h3
          exact ⟨rfl, h1, h3, h2, hk⟩
    · cases h
  · cases h
theorem makeV_D {l c : DV} (h : makeV T A0 st t l c = some (cs, d, st')) (hc : allP cs True) {K : DV → Store → Prop} (hk : K d st') : makeD P st t l c K := by
  unfold makeV at h
  unfold makeD
  split at h
  · rename_i e sz k l k' c ht
    simp only [hT.sl _ _ ht, intOfD]
    split at h
    · rename_i z by8 hz hb8
      obtain ⟨i, hi, rfl⟩ := hT.by8 _ _ hb8
      simp only [hT.zero _ _ hz, hi]
      cases hh : ((z.length == sz) && decide (0 < sz))
      · rw [hh] at h; cases h
      · rw [hh] at h
        simp only [Bool.and_eq_true, decide_eq_true_eq] at hh
        cases h
        refine ⟨eqb hh.1, hh.2, hc.1, fun e => ?_, fun e => ?_⟩
        · have : A0.ext l c = false := by simp [A0, e]
          rw [this] at hk
          exact hk
        · have : A0.ext l c = true := by simp [A0, e]
          rw [this] at hk
          exact hk
    · cases h
  · cases h
theorem srcV_D {sz : Nat} {x : DV} {ds : List DV} {m : Nat} (h : srcV T A0 st sz t x = some (cs, ds, m)) (hc : allP cs True) : srcD P st sz t x = some (ds, m) := by
  unfold srcV at h
  unfold srcD
  split at h
  · rename_i sz' xs
    split at h
    · rename_i q ht
      cases hh : (sz' == sz)
      · rw [hh] at h; cases h
      · rw [hh] at h
        cases h
        have hs : (slD P t).isSome = true := by rw [hT.sl _ _ ht]; rfl
        simp only [eqb hh, hs, and_self, ↓reduceIte, A0]
    · cases h
  · split at h
    · rename_i q ht
      cases h
      simp only [hT.sl _ _ ht]
      rfl
    · cases h
  · rename_i s
    cases hh : ((sz == 1) && (T ()).str t)
    · rw [hh] at h; cases h
    · rw [hh] at h
      simp only [Bool.and_eq_true] at hh
      cases h
      have hs : isStrD P t = true := by simp only [isStrD, hT.str _ hh.2]
      simp only [eqb hh.1, hs, and_self, ↓reduceIte, A0]
  · rename_i sz' b ver o n
    split at h
    · rename_i q bx ht hb
      simp only [hb]
      cases hh : ((sz' == sz) && bx.live)
      · rw [hh] at h; cases h
      · rw [hh] at h
        simp only [Bool.and_eq_true] at hh
        cases h
        obtain ⟨c1, c2, _⟩ := hc
        rw [if_pos ⟨eqb hh.1, c1, hh.2, by rw [hT.sl _ _ ht]; rfl, c2⟩]
        rfl
    · cases h
  · cases h
theorem copyV_D {u : Nat} {s x : DV} (h : copyV T A0 st t u s x = some (cs, d, st')) (hc : allP cs True) {K : DV → Store → Prop} (hk : K d st') : copyD P st t u s x K := by
  unfold copyV at h
  unfold copyD
  have app : ∀ (l r : List Prop), allP (l ++ r) True → allP l True ∧ allP r True := by
    intro l r
    induction l with
    | nil => exact fun h => ⟨trivial, h⟩
    | cons c l ih => exact fun h => ⟨⟨h.1, (ih h.2).1⟩, (ih h.2).2⟩
  split at h
  · rename_i e sz q sz' b ver o n ht hu
    simp only [hT.sl _ _ ht]
    split at h
    · rename_i bx cs' ds m hb hs
      simp only [hb]
      cases hh : ((sz' == sz) && bx.live)
      · rw [hh] at h; cases h
      · rw [hh] at h
        simp only [Bool.and_eq_true] at hh
        simp only [cond_true] at h
        cases h
        obtain ⟨c1, c2, c3, c4, _⟩ := app _ _ hc
        simp only [srcV_D hT hs c1]
        have c3' : (0 : Int) ≤ 0 ∧ (0 : Int) ≤ (m : Int) ∧ (m : Int) ≤ (n : Int) := c3
        exact ⟨eqb hh.1, c2, hh.2, by rw [hT.sl _ _ hu]; rfl, .inl ⟨by omega, c4, hk⟩⟩
    · cases h
  · cases h
theorem appendV_D {u : Nat} {s x : DV} (h : appendV T A0 st t u s x = some (cs, d, st')) (hc : allP cs True) {K : DV → Store → Prop} (hk : K d st') : appendD P st t u s x K := by
  unfold appendV at h
  unfold appendD
  split at h
  · rename_i e sz ht
    simp only [hT.sl _ _ ht]
    split at h
    · rename_i z by8 cs' ds m hz hb8 hs
      obtain ⟨i, hi, rfl⟩ := hT.by8 _ _ hb8
      cases hh : ((z.length == sz) && decide (0 < sz) && ((T ()).str u || (u == t)))
      · rw [hh] at h; cases h
      · rw [hh] at h
        simp only [Bool.and_eq_true, decide_eq_true_eq, Bool.or_eq_true] at hh
        have hu : isStrD P u = true ∨ u = t := by
          rcases hh.2 with h1 | h1
          · exact .inl (by simp only [isStrD, hT.str _ h1])
          · exact .inr (eqb h1)
        have app : ∀ (l r : List Prop), allP (l ++ r) True → allP l True ∧ allP r True := by
          intro l r
          induction l with
          | nil => exact fun h => ⟨trivial, h⟩
          | cons c l ih => exact fun h => ⟨⟨h.1, (ih h.2).1⟩, (ih h.2).2⟩
        simp only [cond_true] at h
        split at h
        · split at h
          case h_3 => cases h
          all_goals
            try (
              cases hf : (T ()).sym 5006
              · rw [hf] at h; cases h
              rw [hf] at h
              simp only [cond_true] at h)
            cases h
            obtain ⟨c1, c2, c3, _⟩ := app _ _ hc
            simp only [hT.zero _ _ hz, hi, srcV_D hT hs c1]
            have c2' : 0 < m := c2
            have c3' : 0 + m ≤ 9007199254740992 ∧ (0 + m) * i.bytes ≤ 140737488355328 := c3
            rw [Nat.zero_add] at c3'
            exact ⟨eqb hh.1.1, hh.1.2, hu, c3', fun e => by omega, fun _ => hk⟩
        · rename_i sz' b ver o n
          split at h
          · rename_i bx hb
            cases hq : ((sz' == sz) && (o == 0) && bx.live && (bx.ty == e))
            · rw [hq] at h; cases h
            · rw [hq] at h
              simp only [Bool.and_eq_true] at hq
              cases h
              obtain ⟨c1, c2, c3, c4, _⟩ := app _ _ hc
              simp only [hT.zero _ _ hz, hi, srcV_D hT hs c1, hb]
              refine ⟨eqb hh.1.1, hh.1.2, hu, ⟨eqb hq.1.1.1, eqb hq.1.1.2, c2, hq.1.2, eqb hq.2, c3⟩, c4, ?_⟩
              exact hk
          · cases h
        · cases h
    · cases h
  · cases h
theorem capV_D {x : DV} (h : capV T A0 st t x = some (cs, d)) (hc : allP cs True) {K : DV → Prop} (hk : K d) : capD P st t x K := by
  unfold capV at h
  unfold capD
  split at h
  · split at h
    · rename_i ht
      cases h
      exact ⟨by rw [hT.sl _ _ ht]; rfl, hk⟩
    · cases h
  · rename_i sz b ver o n
    split at h
    · rename_i q bx ht hb
      simp only [hb]
      cases hh : (bx.live && !bx.ext && decide (0 < sz))
      · rw [hh] at h; cases h
      · rw [hh] at h
        simp only [Bool.and_eq_true, decide_eq_true_eq, Bool.not_eq_true'] at hh
        cases h
        exact ⟨hc.1, hh.1.1, hh.1.2, hh.2, by rw [hT.sl _ _ ht]; rfl, hk⟩
    · cases h
  · cases h
theorem slice2V_D {x : DV} {lo hi : Option DV} (h : slice2V T A0 st t x lo hi = some (cs, d)) (hc : allP cs True) {K : DV → Prop} (hk : K d) : sliceD P st t x lo hi K := by
  unfold slice2V at h
  unfold sliceD
  split at h
  · rename_i sz b ver o n
    split at h
    · rename_i e sz' l hh bx h1 h2 h3 hb
      have h3' := boundV_D h3
      simp only [A0] at h3'
      simp only [hT.sl _ _ h1, boundV_D h2, h3', hb]
      cases hq : (bx.live && decide (0 < sz) && (sz' == sz))
      · rw [hq] at h; cases h
      · rw [hq] at h
        simp only [Bool.and_eq_true, decide_eq_true_eq] at hq
        cases h
        obtain ⟨c1, c2, _⟩ := hc
        have c1' : ver = bx.ver := c1
        subst c1'
        refine ⟨eqb hq.2, rfl, .inr ⟨⟨c2.1.1, c2.1.2, hq.1.2, hq.1.1⟩, c2.2.1, c2.2.2, ?_⟩⟩
        cases lo with
        | none =>
          have hl : l = 0 := by simpa [boundV] using h2.symm
          subst hl
          simpa [A0] using hk
        | some d => exact hk
    · cases h
  · cases h
theorem slice0V_D {x lo : DV} (h : slice0V T A0 st t x lo = some (cs, d)) (hc : allP cs True) {K : DV → Prop} (hk : K d) : sliceD P st t x (some lo) none K := by
  unfold slice0V at h
  unfold sliceD
  split at h
  · rename_i sz b ver o n kl l
    split at h
    · rename_i e sz' bx h1 hb
      simp only [hT.sl _ _ h1, hb, boundD, intOfD]
      cases hq : (sz' == sz)
      · rw [hq] at h; cases h
      · rw [hq] at h
        cases h
        obtain ⟨c1, c2, c3, _⟩ := hc
        have c2' : l = (n : Int) := c2
        have c3' : 0 < n := c3
        exact ⟨eqb hq, c1, .inl ⟨⟨by omega, by omega, by omega⟩, fun e => by omega, fun _ _ => hk, fun _ e => by omega⟩⟩
    · cases h
  · cases h
theorem slice3V_D {x hi mx : DV} {lo : Option DV} (h : slice3V T A0 st t x lo hi mx = some (cs, d)) (hc : allP cs True) {K : DV → Prop} (hk : K d) : slice3D P st t x lo hi mx K := by
  unfold slice3V at h
  unfold slice3D
  split at h
  · rename_i sz b ver o n kh hh km m
    split at h
    · rename_i q l bx h1 h2 hb
      cases h
      simp only [hT.sl _ _ h1, boundV_D h2, hb, intOfD]
      exact ⟨hc.1, hc.2.1, hk⟩
    · cases h
  · cases h
theorem copy2V_D {u : Nat} {dst src : DV} (h : copy2V T A0 st t u dst src = some (cs, d, st')) (hc : allP cs True) {K : DV → Store → Prop} (hk : K d st') : copyD P st t u dst src K := by
  unfold copy2V at h
  unfold copyD
  split at h
  · rename_i e sz q sz' b ver o n ht hu
    simp only [hT.sl _ _ ht]
    split at h
    · rename_i bx cs' ds m hb hs
      simp only [hb]
      cases hh : ((sz' == sz) && bx.live)
      · rw [hh] at h; cases h
      · rw [hh] at h
        simp only [Bool.and_eq_true] at hh
        simp only [cond_true] at h
        cases h
        obtain ⟨c1, c2, c3, _⟩ := appP _ _ hc
        simp only [srcV_D hT hs c1]
        refine ⟨eqb hh.1, c2, hh.2, by rw [hT.sl _ _ hu]; rfl, .inr ⟨c3, ?_⟩⟩
        have hk' : K (.d (.sc (.int .i64 (min m n : Nat)))) (st.set b ⟨bx.ty, splice bx.cells o ((ds.drop 0).take (min m n * sz)), bx.ext, bx.ver, bx.live⟩) := hk
        rw [List.drop_zero] at hk'
        exact hk'
    · cases h
  · cases h
theorem append2V_D {u : Nat} {s x : DV} (h : append2V T A0 st t u s x = some (cs, d, st')) (hc : allP cs True) {K : DV → Store → Prop} (hk : K d st') : append2D P st t u s x K := by
  unfold append2V at h
  unfold append2D
  split at h
  · rename_i e sz ht
    simp only [hT.sl _ _ ht]
    split at h
    · rename_i z by8 cs' ds m hz hb8 hs
      obtain ⟨i, hi, rfl⟩ := hT.by8 _ _ hb8
      cases hh : ((z.length == sz) && decide (0 < sz) && ((T ()).str u || (u == t)))
      · rw [hh] at h; cases h
      · rw [hh] at h
        simp only [Bool.and_eq_true, decide_eq_true_eq, Bool.or_eq_true] at hh
        have hu : isStrD P u = true ∨ u = t := by
          rcases hh.2 with h1 | h1
          · exact .inl (by simp only [isStrD, hT.str _ h1])
          · exact .inr (eqb h1)
        simp only [cond_true] at h
        split at h
        · rename_i sz' b ver o n
          split at h
          · rename_i bx hb
            cases hq : ((sz' == sz) && (o == 0) && bx.live && (bx.ty == e) && !bx.ext)
            · rw [hq] at h; cases h
            · rw [hq] at h
              simp only [Bool.and_eq_true, Bool.not_eq_true'] at hq
              cases h
              obtain ⟨c1, c2, c3, c4, c5, _⟩ := appP _ _ hc
              simp only [hT.zero _ _ hz, hi, srcV_D hT hs c1, hb]
              have c3' : 0 + n * sz ≤ bx.cells.length := c3
              have c4' : 0 + (n + m) * sz ≤ bx.cells.length := c4
              refine ⟨eqb hh.1.1, hh.1.2, hu, ⟨eqb hq.1.1.1.1, eqb hq.1.1.1.2, c2, hq.1.1.2, eqb hq.1.2, hq.2, by omega⟩, c5, fun _ => ?_, fun e => by omega⟩
              have hk' : K (.view sz b ver 0 (n + m)) (st.set b ⟨bx.ty, splice bx.cells (0 + (n : Int).toNat * sz) ds, bx.ext, bx.ver, bx.live⟩) := hk
              rw [Nat.zero_add, Int.toNat_natCast] at hk'
              exact hk'
          · cases h
        · cases h
    · cases h
  · cases h
theorem zerosV_D {u : Nat} {s x : DV} (h : zerosV T A0 st t u s x = some (cs, d, st')) (hc : allP cs True) {K : DV → Store → Prop} (hk : K d st') : zerosD P st t u s x K := by
  unfold zerosV at h
  unfold zerosD
  split at h
  · rename_i e sz km m kk ht hu
    simp only [hT.sl _ _ ht]
    have hint : isIntD P u = true := by simp only [isIntD, hT.ik _ _ hu]
    split at h
    · rename_i z by8 hz hb8
      obtain ⟨i, hi, rfl⟩ := hT.by8 _ _ hb8
      simp only [hT.zero _ _ hz, hi]
      cases hh : ((z.length == sz) && decide (0 < sz))
      · rw [hh] at h; cases h
      · rw [hh] at h
        simp only [Bool.and_eq_true, decide_eq_true_eq] at hh
        simp only [cond_true] at h
        split at h
        · cases h
          obtain ⟨c1, c2, c3, _⟩ := hc
          have c2' : 0 < m.toNat := c2
          have c3' : 0 + m.toNat ≤ 9007199254740992 ∧ (0 + m.toNat) * i.bytes ≤ 140737488355328 := c3
          rw [Nat.zero_add] at c3'
          exact ⟨eqb hh.1, hh.2, hint, c1, by omega, c3', hk⟩
        · rename_i sz' b ver o n
          split at h
          · rename_i bx hb
            cases hq : ((sz' == sz) && (o == 0) && bx.live && (bx.ty == e) && !bx.ext)
            · rw [hq] at h; cases h
            · rw [hq] at h
              simp only [Bool.and_eq_true, Bool.not_eq_true'] at hq
              cases h
              obtain ⟨c1, c2, c3, c4, c5, _⟩ := hc
              simp only [hb]
              have c3' : 0 + n * sz ≤ bx.cells.length := c3
              refine ⟨eqb hh.1, hh.2, hint, c1, ⟨eqb hq.1.1.1.1, eqb hq.1.1.1.2, c2, hq.1.1.2, eqb hq.1.2, hq.2, by omega, c4⟩, c5, ?_⟩
              have hk' : K (.view sz st.length 0 0 (n + m.toNat)) (st ++ [⟨e, (bx.cells.drop 0).take (n * sz) ++ (List.replicate m.toNat z).flatten, true, 0, true⟩]) := hk
              rw [List.drop_zero] at hk'
              exact hk'
          · cases h
        · cases h
    · cases h
  · cases h
theorem clearV_D {x : DV} (h : clearV T A0 st t x = some (cs, d, st')) (hc : allP cs True) {K : DV → Store → Prop} (hk : K d st') : clearD P st t x K := by
  unfold clearV at h
  unfold clearD
  split at h
  · rename_i e sz ht
    simp only [hT.sl _ _ ht]
    split at h
    · rename_i z sz' b ver o n hz
      simp only [hT.zero _ _ hz]
      split at h
      · rename_i bx hb
        simp only [hb]
        cases hh : ((sz' == sz) && (z.length == sz) && decide (0 < sz) && bx.live)
        · rw [hh] at h; cases h
        · rw [hh] at h
          simp only [Bool.and_eq_true, decide_eq_true_eq] at hh
          cases h
          exact ⟨eqb hh.1.1.1, eqb hh.1.1.2, hh.1.2, hc.1, hh.2, hc.2.1, hk⟩
      · cases h
    · rename_i z sz' hz
      simp only [hT.zero _ _ hz]
      cases h
      exact hk
    · cases h
  · cases h
end
end Go.Proofs.Ytadnpgkddgbhkaa
namespace Go.Proofs.Ytadnpgkddgbhkaa
open Go.RowKit
set_option linter.all false
/-- Slots as a list. -/
abbrev SL := List (Nat × DV)
def getS : SL → Nat → DV
  | [], _ => .any
  | (k, v) :: l, i => match (i == k) with
    | true => v
    | false => getS l i
def setS (l : SL) (k : Nat) (d : DV) : SL := (k, d) :: l
theorem nbeq {i k : Nat} (h : i ≠ k) : (i == k) = false := by simpa using h
theorem getS_setS (l : SL) (k : Nat) (d : DV) (i : Nat) : getS (setS l k d) i = if i = k then d else getS l i := by
  by_cases h : i = k
  · subst h; simp [setS, getS]
  · simp [setS, getS, h, nbeq h]
def putL (dst : Option Nat) (d : DV) (l : SL) : SL := match dst with
  | none => l
  | some k => setS l k d
theorem getS_putL (dst : Option Nat) (d : DV) (l : SL) : getS (putL dst d l) = putS dst d (getS l) := by
  cases dst with
  | none => rfl
  | some k => funext i; simp only [putL, putS, getS_setS, upd_eq]
def evL (l : SL) (x : Operand) : DV := ev (getS l) x
def isConst : Operand → Bool
  | .const _ => true
  | _ => false
def symO (T : Unit → Tab) : Operand → Bool
  | .tmp t => (T ()).sym t
  | _ => false
/-- Is an index known to be a number that is written out? (5003: all are.) -/
def litO (T : Unit → Tab) (x : Operand) : Bool := match isConst x with
  | true => true
  | false => (T ()).sym 5003
def wholeO (T : Unit → Tab) : Operand → Bool
  | .tmp t => (T ()).sym (t + 1000)
  | _ => false
def isArr (T : Unit → Tab) (t : Nat) : Bool := match (T ()).arr t with
  | some _ => true
  | none => false
def opV (T : Unit → Tab) (A : Ar) (o : Op) (s : SL) (st : Store) : SV :=
  match o with
  | .move x => some ([], evL s x, st)
  | .assign x => some ([], evL s x, st)
  | .pick c a b => pureV st (match (T ()).sym 5005 with
    | true => pickK A (evL s c) (evL s a) (evL s b)
    | false => pickV A (evL s c) (evL s a) (evL s b))
  | .alloc t => allocV T st t
  | .box t x => (match symO T x with
    | true => boxS A st t (evL s x)
    | false => boxV st t (evL s x))
  | .build t parts => (match parts.toList.any fun p => wholeO T p.2 with
    | true => pureV st (buildX T A t (parts.toList.map fun p => (p.1, evL s p.2)))
    | false => pureV st (buildV T t (parts.toList.map fun p => (p.1, evL s p.2))))
  | .buildSlice t len parts => buildSliceV T st t len (parts.toList.map fun p => (p.1, evL s p.2))
  | .load t a => (match symO T a, wholeO T a with
    | true, _ => pureV st (loadS T A st t (evL s a))
    | false, true => pureV st (loadW T A st t (evL s a))
    | false, false => pureV st (loadV T st t (evL s a)))
  | .store t a x => (match symO T a, wholeO T x with
    | _, true => storeX T A st t (evL s a) (evL s x)
    | true, false => storeS T A st t (evL s a) (evL s x)
    | false, false => storeV T st t (evL s a) (evL s x))
  | .makeSlice t l c => makeV T A st t (evL s l) (evL s c)
  | .index t x i => pureV st (indexS T A t (evL s x) (evL s i))
  | .nilCheck x => pureV st (isRefV st (evL s x))
  | .binOp op t x y _ => pureV st (binV T A st op t (evL s x) (evL s y))
  | .unOp op _ x => pureV st (unV A op (evL s x))
  | .convert src dst x => pureV st (convV T A src dst (evL s x))
  | .slice t x lo hi none => (match (T ()).sym 5000 with
    | true => (match (T ()).sym 5002, lo, hi with
      | true, some lo, none => pureV st (slice0V T A st t (evL s x) (evL s lo))
      | _, lo, hi => pureV st (slice2V T A st t (evL s x) (lo.map (evL s)) (hi.map (evL s))))
    | false => pureV st (sliceV T A st t (evL s x) (lo.map (evL s)) (hi.map (evL s))))
  | .slice t x lo (some hi) (some mx) => pureV st (slice3V T A st t (evL s x) (lo.map (evL s)) (evL s hi) (evL s mx))
  | .fieldAddr t x f => (match symO T x with
    | true => pureV st (fieldAddrS T A st t (evL s x) f)
    | false => pureV st (fieldAddrV T st t (evL s x) f))
  | .field t x f => pureV st (fieldVV T t (evL s x) f)
  | .indexAddr t x i => (match symO T x, litO T i, isArr T t with
    | false, true, true => pureV st (indexAddrV T st t (evL s x) (evL s i))
    | _, _, _ => pureV st (indexAddrS T A st t (evL s x) (evL s i)))
  | .extract x i => pureV st (extractV (evL s x) i)
  | .makeFunc (.func f) first captured => match first.toList with
    | [] => some ([], .fn f (captured.toList.map (evL s)), st)
    | _ => none
  | .call c => match c.callee, c.args.toList, c.argTypes.toList with
    | .builtin .len, [x], [t] => pureV st (lenV T A st t (evL s x))
    | .builtin .append, [x, y], [t, u] => (match (T ()).ik u, (T ()).sym 5001 with
      | some _, _ => zerosV T A st t u (evL s x) (evL s y)
      | none, true => append2V T A st t u (evL s x) (evL s y)
      | none, false => appendV T A st t u (evL s x) (evL s y))
    | .builtin .copy, [x, y], [t, u] => (match (T ()).sym 5000 with
      | true => copy2V T A st t u (evL s x) (evL s y)
      | false => copyV T A st t u (evL s x) (evL s y))
    | .builtin .max, [x, y], _ => pureV st (mmV A true (evL s x) (evL s y))
    | .builtin .min, [x, y], _ => pureV st (mmV A false (evL s x) (evL s y))
    | .builtin .cap, [x], [t] => pureV st (capV T A st t (evL s x))
    | .builtin .clear, [x], [t] => clearV T A st t (evL s x)
    | _, _, _ => none
  | _ => none
theorem opV_D {P : Program} {T : Unit → Tab} (hT : TabOk P (T ())) {o : Op} {s : SL} {st st' : Store} {cs : List Prop} {d : DV} (h : opV T A0 o s st = some (cs, d, st')) (hc : allP cs True) {K : DV → Store → Prop} (hk : K d st') : opD P o (getS s) st K := by
  have e : evL s = ev (getS s) := rfl
  unfold opV at h
  rw [e] at h
  unfold opD
  split at h
  · cases h; exact hk
  · cases h; exact hk
  · obtain ⟨rfl, h'⟩ := pureV_some h
    split at h'
    · exact pickK_D h' hk
    · exact pickV_D h' hk
  · exact allocV_D hT h hk
  · split at h
    · exact boxS_D h hc hk
    · exact boxV_D h hk
  · split at h
    · obtain ⟨rfl, h'⟩ := pureV_some h; exact buildX_D hT h' hc hk
    · obtain ⟨rfl, h'⟩ := pureV_some h; exact buildV_D hT h' hk
  · exact .inl (buildSliceV_D hT h hk)
  · split at h
    · obtain ⟨rfl, h'⟩ := pureV_some h; exact loadS_D hT h' hc hk
    · obtain ⟨rfl, h'⟩ := pureV_some h; exact loadW_D hT h' hc hk
    · obtain ⟨rfl, h'⟩ := pureV_some h; exact loadV_D hT h' hc hk
  · split at h
    · exact storeX_D hT h hc hk
    · exact storeS_D hT h hc hk
    · exact storeV_D hT h hk
  · exact makeV_D hT h hc hk
  · obtain ⟨rfl, h'⟩ := pureV_some h; exact indexS_D hT h' hc hk
  · obtain ⟨rfl, h'⟩ := pureV_some h
    obtain ⟨h1, rfl⟩ := isRefV_D h'
    exact ⟨h1, hk⟩
  · obtain ⟨rfl, h'⟩ := pureV_some h; exact binV_D hT h' hc hk
  · obtain ⟨rfl, h'⟩ := pureV_some h; exact unV_D h' hk
  · obtain ⟨rfl, h'⟩ := pureV_some h; exact convV_D hT h' hc hk
  · split at h
    · split at h
      · obtain ⟨rfl, h'⟩ := pureV_some h; exact slice0V_D hT h' hc hk
      · obtain ⟨rfl, h'⟩ := pureV_some h; exact slice2V_D hT h' hc hk
    · obtain ⟨rfl, h'⟩ := pureV_some h; exact sliceV_D hT h' hc hk
  · obtain ⟨rfl, h'⟩ := pureV_some h; exact slice3V_D hT h' hc hk
  · split at h
    · obtain ⟨rfl, h'⟩ := pureV_some h; exact fieldAddrS_D hT h' hc hk
    · obtain ⟨rfl, h'⟩ := pureV_some h; exact fieldAddrV_D hT h' hc hk
  · obtain ⟨rfl, h'⟩ := pureV_some h; exact fieldVV_D hT h' hk
  · split at h
    · obtain ⟨rfl, h'⟩ := pureV_some h; exact indexAddrV_D hT h' hc hk
    · obtain ⟨rfl, h'⟩ := pureV_some h; exact indexAddrS_D hT h' hc hk
  · obtain ⟨rfl, h'⟩ := pureV_some h; exact extractV_D h' hk
  · split at h
    · rename_i hf
      cases h
      exact ⟨hf, hk⟩
    · cases h
  · rename_i c
    unfold callD
    split at h
    · rename_i x t h1 h2 h3
      simp only [h1, h2, h3]
      obtain ⟨rfl, h'⟩ := pureV_some h; exact lenV_D hT h' hc hk
    · rename_i x y t u h1 h2 h3
      simp only [h1, h2, h3]
      split at h
      · exact .inr (.inr (zerosV_D hT h hc hk))
      · exact .inr (.inl (append2V_D hT h hc hk))
      · exact .inl (appendV_D hT h hc hk)
    · rename_i x y t u h1 h2 h3
      simp only [h1, h2, h3]
      split at h
      · exact copy2V_D hT h hc hk
      · exact copyV_D hT h hc hk
    · rename_i x y h1 h2
      simp only [h1, h2]
      obtain ⟨rfl, h'⟩ := pureV_some h; exact mmV_D h' hc hk
    · rename_i x y h1 h2
      simp only [h1, h2]
      obtain ⟨rfl, h'⟩ := pureV_some h; exact mmV_D h' hc hk
    · rename_i x t h1 h2 h3
      simp only [h1, h2, h3]
      obtain ⟨rfl, h'⟩ := pureV_some h; exact capV_D hT h' hc hk
    · rename_i x t h1 h2 h3
      simp only [h1, h2, h3]
      exact clearV_D hT h hc hk
    · cases h
  · cases h
end Go.Proofs.Ytadnpgkddgbhkaa
namespace Go.Proofs.Ytadnpgkddgbhkaa
open Go.RowKit
set_option linter.all false
/-- Functions whose results are known: what a call of them with these gives; what is to be shown first. -/
abbrev Kn := List (FuncId × (List DV → RV))
def findK : Kn → FuncId → List DV → RV
  | [], _, _ => none
  | (g, h) :: H, f, args => if f = g then h args else findK H f args
def knowsK : Kn → FuncId → Bool
  | [], _ => false
  | (g, _) :: H, f => if f = g then true else knowsK H f
def SoundK (P : Program) (H : Kn) : Prop := ∀ f args cs r, findK H f args = some (cs, r) → allP cs True → FnV P f args r ∧ closedL 0 args = true
theorem noK_ok {P : Program} : SoundK P [] := fun _ _ _ _ h => by cases h
theorem orK_ok {P : Program} {f0 : FuncId} {h : List DV → RV} {H : Kn} (hh : ∀ args cs r, h args = some (cs, r) → allP cs True → FnV P f0 args r ∧ closedL 0 args = true) (hH : SoundK P H) : SoundK P ((f0, h) :: H) := fun f args cs r e hc => by
  unfold findK at e
  split at e
  · rename_i hf
    subst hf
    exact hh args cs r e hc
  · exact hH f args cs r e hc
/-- What is left to be shown by hand: calls, odd operations, loops. -/
structure Cps where
  fn : FuncId → List DV → Store → (DV → Store → Prop) → Prop
  op : Op → SL → Store → (DV → Store → Prop) → Prop
  st : Code → (Exit → SL → Store → Prop) → SL → Store → Prop
  ex : FuncId → List DV → Store → (DV → Store → Prop) → Prop
def X0 (P : Program) (N : Nat) : Cps where
  fn := FnD P
  op o s st K := opD P o (getS s) st K
  st c Q s st := wpD P N c (fun e s' st' => ∃ l, (∀ k, getS l k = s' k ∨ getS l k = .any) ∧ Q e l st') (getS s) st
  ex f args st K := ovlD P f args st K
def viaV (T : Unit → Tab) (A : Ar) (X : Cps) (o : Op) (s : SL) (st : Store) (K : DV → Store → Prop) : Prop :=
  match opV T A o s st with
  | some (cs, d, st') => allP cs (K d st')
  | none => X.op o s st K
def callC (T : Unit → Tab) (X : Cps) (H : Unit → Kn) (f : FuncId) (args : List DV) (st : Store) (K : DV → Store → Prop) : Prop :=
  match (T ()).body f, findK (H ()) f args with
  | true, some (cs, r) => allP cs (K r st)
  | true, none => X.fn f args st K
  | false, _ => False
def callF (T : Unit → Tab) (X : Cps) (H : Unit → Kn) (f : FuncId) (args : List DV) (st : Store) (K : DV → Store → Prop) : Prop :=
  match (T ()).body f with
  | true => callC T X H f args st K
  | false => X.ex f args st K
def opC (T : Unit → Tab) (A : Ar) (X : Cps) (H : Unit → Kn) (o : Op) (s : SL) (st : Store) (K : DV → Store → Prop) : Prop :=
  match o with
  | .call c => match c.callee with
    | .value (.func f) => callF T X H f (c.args.toList.map (evL s)) st K
    | .value (.tmp t) => (match getS s t with
      | .fn f caps => callC T X H f (c.args.toList.map (evL s) ++ caps) st K
      | _ => False)
    | _ => viaV T A X o s st K
  | o => viaV T A X o s st K
theorem viaV_D {P : Program} {T : Unit → Tab} (hT : TabOk P (T ())) {N : Nat} {o : Op} {s : SL} {st : Store} {K : DV → Store → Prop} (h : viaV T A0 (X0 P N) o s st K) : opD P o (getS s) st K := by
  unfold viaV at h
  split at h
  · rename_i cs d st' hv
    rw [allP_iff] at h
    exact opV_D hT hv h.1 h.2
  · exact h
theorem callC_D {P : Program} {T : Unit → Tab} (hT : TabOk P (T ())) {H : Unit → Kn} (hH : SoundK P (H ())) {N : Nat} {f : FuncId} {args : List DV} {st : Store} {K : DV → Store → Prop} (h : callC T (X0 P N) H f args st K) : hasBody P f = true ∧ FnD P f args st K := by
  unfold callC at h
  split at h
  · rename_i cs r hb hr
    refine ⟨hT.body _ hb, ?_⟩
    rw [allP_iff] at h
    obtain ⟨h1, h2⟩ := hH f _ cs r hr h.1
    exact FnV.use h1 h2 h.2
  · rename_i hb hr
    exact ⟨hT.body _ hb, h⟩
  · exact h.elim
theorem opC_D {P : Program} {T : Unit → Tab} (hT : TabOk P (T ())) {H : Unit → Kn} (hH : SoundK P (H ())) {N : Nat} {o : Op} {s : SL} {st : Store} {K : DV → Store → Prop} (h : opC T A0 (X0 P N) H o s st K) : opD P o (getS s) st K := by
  unfold opC at h
  split at h
  · rename_i c
    split at h
    · rename_i f hf
      simp only [opD, callD, hf]
      unfold callF at h
      split at h
      · exact .inl (callC_D hT hH h)
      · exact .inr h
    · rename_i t hf
      simp only [opD, callD, hf]
      split at h
      · rename_i f caps ht
        simp only [ht]
        exact callC_D hT hH h
      · exact h.elim
    · exact viaV_D hT h
  · exact viaV_D hT h
def dstB (N : Nat) : Option Nat → Bool
  | none => true
  | some i => decide (i < N)
theorem dstB_ok {N : Nat} {dst : Option Nat} (h : dstB N dst = true) : dstOk N dst := by
  cases dst with
  | none => trivial
  | some i => show i < N; simpa [dstB] using h
/-- A row of operations without guards. -/
def rowC (T : Unit → Tab) (A : Ar) (X : Cps) (H : Unit → Kn) (N : Nat) : List Oper → SL → Store → (SL → Store → Prop) → Prop
  | [], s, st, Q => Q s st
  | o :: rest, s, st, Q => match dstB N o.dst, o.guard with
    | true, none => opC T A X H o.op s st fun d st' => rowC T A X H N rest (putL o.dst d s) st' Q
    | _, _ => False
def againL (dst : Option Nat) (s' : Slots) (sp : SL) : SL := match dst with
  | none => sp
  | some i => setS sp i (s' i)
theorem againL_put (dst : Option Nat) (d : DV) (s : Slots) (sp : SL) : againL dst (putS dst d s) sp = putL dst d sp := by
  cases dst with
  | none => rfl
  | some i => simp [againL, putS, putL, upd_eq]
theorem rowC_ok {P : Program} {T : Unit → Tab} (hT : TabOk P (T ())) {H : Unit → Kn} (hH : SoundK P (H ())) {N : Nat} {ops : Array Oper} {Q : Exit → Act → World → Prop} : ∀ (l : List Oper) (s : SL) (E : Env) (a : Act) (K : SL → Store → Prop), Conc E → SlotsOk E N (getS s) a → rowC T A0 (X0 P N) H N l s E.st K →
    (∀ (s' : SL) (a' : Act) (E' : Env), K s' E'.st → Conc E' → Ext E E' → SlotsOk E' N (getS s') a' → Q .normal a' E'.w) → wpList P ops Q l a E.w
  | [], s, E, a, K, hc, hs, h, hn => hn s a E h hc (Ext.refl E) hs
  | o :: rest, s, E, a, K, hc, hs, h, hn => by
      unfold rowC at h
      split at h
      · rename_i hd hg
        have h1 := opC_D hT hH h
        have e : (fun d st' => rowC T A0 (X0 P N) H N rest (putL o.dst d s) st' K) = fun d st' => rowC T A0 (X0 P N) H N rest (againL o.dst (putS o.dst d (getS s)) s) st' K ∧ getS (againL o.dst (putS o.dst d (getS s)) s) = putS o.dst d (getS s) := by
          funext d st'
          rw [againL_put, getS_putL]
          simp
        rw [e] at h1
        have hst : stepD P N ops o (getS s) E.st fun s' st' => rowC T A0 (X0 P N) H N rest (againL o.dst s' s) st' K ∧ getS (againL o.dst s' s) = s' := by
          unfold stepD
          have : wantedD ops o.guard (getS s) = some true := by rw [hg]; rfl
          simp only [this]
          exact ⟨dstB_ok hd, h1⟩
        have := step_ok (P := P) (Q := Q) (ops := ops) (next := wpList P ops Q rest) hc hs o hst fun s' a' E' hk h1 hx h3 => by
          rw [← hk.2] at h3
          exact rowC_ok hT hH rest _ E' a' K h1 h3 hk.1 fun s2 a2 E2 k1 k2 k3 k4 => hn s2 a2 E2 k1 k2 (Ext.trans hc.len h1.len hx k3) k4
        unfold wpList
        exact this
      · exact h.elim
end Go.Proofs.Ytadnpgkddgbhkaa
namespace Go.Proofs.Ytadnpgkddgbhkaa
open Go.RowKit
set_option linter.all false
/-- Slots that may hold nothing, and when they hold something. -/
abbrev WL := List (Nat × Option Bool)
def getW : WL → Nat → Option Bool
  | [], _ => none
  | (k, v) :: l, i => match i == k with
    | true => v
    | false => getW l i
def dropL (l : WL) (k : Nat) : WL := (k, none) :: l
def dropW (dst : Option Nat) (l : WL) : WL := match dst with
  | none => l
  | some k => dropL l k
def setW (dst : Option Nat) (W : Bool) (l : WL) : WL := match dst with
  | none => l
  | some k => (k, some W) :: l
theorem getW_dropL (l : WL) (k i : Nat) : getW (dropL l k) i = if i = k then none else getW l i := by
  by_cases h : i = k
  · subst h; simp [dropL, getW]
  · simp [dropL, getW, h, nbeq h]
def wOf (l : WL) (k : Nat) : Bool := (getW l k).getD true
/-- What is to be shown of an operand. -/
def opndC (A : Ar) (W : Option Bool) (wl : WL) : Operand → List Prop
  | .tmp t => match getW wl t with
    | none => []
    | some V => match W with
      | none => [A.imp true V]
      | some W => [A.imp W V]
  | _ => []
def wtC (A : Ar) (W : Option Bool) (wl : WL) : List Operand → List Prop
  | [] => []
  | x :: l => opndC A W wl x ++ wtC A W wl l
def andW (A : Ar) (W : Option Bool) (t : Bool) : Bool := match W with
  | none => t
  | some W => A.and W t
def readsC (A : Ar) (W : Option Bool) (wl : WL) (sp : SL) (o : Op) : Option (List Prop) :=
  match o with
  | .pick c a b => match evL sp c with
    | .d (.sc (.bool t)) => some (opndC A W wl c ++ (opndC A (some (andW A W t)) wl a ++ opndC A (some (andW A W (A.not t))) wl b))
    | _ => none
  | o => some (wtC A W wl o.operands.toList)
theorem allP_append : ∀ (cs ds : List Prop), allP (cs ++ ds) True ↔ allP cs True ∧ allP ds True
  | [], ds => by simp [allP]
  | c :: cs, ds => by simp only [List.cons_append, allP, allP_append cs ds, and_assoc]
theorem opndC_ok {W : Option Bool} {wl : WL} {x : Operand} (h : allP (opndC A0 W wl x) True) : opnd (W.getD true) (wOf wl) x := by
  cases x with
  | tmp t =>
    intro hW
    simp only [opndC] at h
    unfold wOf
    split at h
    · rename_i hg
      rw [hg]; rfl
    · rename_i V hg
      rw [hg]
      split at h
      · exact h.1 rfl
      · exact h.1 hW
  | const v => trivial
  | global g => trivial
  | func f => trivial
theorem wtC_ok {W : Option Bool} {wl : WL} : ∀ {l : List Operand}, allP (wtC A0 W wl l) True → wtOk (W.getD true) (wOf wl) l
  | [], _ => trivial
  | x :: l, h => by
      unfold wtC at h
      rw [allP_append] at h
      exact ⟨opndC_ok h.1, wtC_ok h.2⟩
theorem andW_ok (W : Option Bool) (t : Bool) : andW A0 W t = (W.getD true && t) := by
  cases W <;> simp [andW, A0]
theorem readsC_ok {W : Option Bool} {wl : WL} {sp : SL} {o : Op} {cs : List Prop} (h : readsC A0 W wl sp o = some cs) (hc : allP cs True) : readsOk (W.getD true) (wOf wl) (getS sp) o := by
  unfold readsC at h
  split at h
  · split at h
    · rename_i c a b x t ht
      cases h
      rw [allP_append, allP_append] at hc
      have ht' : ev (getS sp) c = .d (.sc (.bool t)) := ht
      unfold readsOk
      refine ⟨opndC_ok hc.1, ?_⟩
      rw [ht']
      have h1 := opndC_ok hc.2.1
      have h2 := opndC_ok hc.2.2
      simp only [Option.getD_some, andW_ok] at h1 h2
      exact ⟨h1, h2⟩
    · cases h
  · rename_i hne
    cases h
    unfold readsOk
    split
    · rename_i c a b
      exact absurd rfl (hne c a b)
    · exact wtC_ok hc
/-- Operations that are reckoned though they may not be wanted. -/
def spOk (H : Unit → Kn) : Op → Bool
  | .move _ => true
  | .assign _ => true
  | .pick .. => true
  | .load .. => true
  | .unOp .. => true
  | .binOp .. => true
  | .nilCheck _ => true
  | .convert .. => true
  | .field .. => true
  | .fieldAddr .. => true
  | .indexAddr .. => true
  | .index .. => true
  | .slice _ _ _ _ none => true
  | .extract .. => true
  | .build .. => true
  | .call c => match c.callee with
    | .builtin .len => true
    | .builtin .max => true
    | .builtin .min => true
    | .value (.func f) => knowsK (H ()) f
    | _ => false
  | _ => false
/-- An operation that turns nothing. -/
def spV (T : Unit → Tab) (A : Ar) (H : Unit → Kn) (o : Op) (s : SL) (st : Store) : RV :=
  match spOk H o with
  | true => (match o with
    | .call c => (match c.callee with
      | .value (.func f) => (match (T ()).body f, findK (H ()) f (c.args.toList.map (evL s)) with
        | true, some r => some r
        | _, _ => none)
      | _ => (match opV T A o s st with
        | some (cs, d, _) => some (cs, d)
        | none => none))
    | o => (match opV T A o s st with
      | some (cs, d, _) => some (cs, d)
      | none => none))
  | false => none
theorem spOk_keep {T : Unit → Tab} {A : Ar} {H : Unit → Kn} {o : Op} {s : SL} {st st' : Store} {cs : List Prop} {d : DV} (ho : spOk H o = true) (h : opV T A o s st = some (cs, d, st')) : st' = st := by
  unfold opV at h
  split at h <;> first
    | (cases h; rfl)
    | exact (pureV_some h).1
    | (simp [spOk] at ho; done)
    | skip
  · split at h <;> first | exact (pureV_some h).1 | (split at h <;> exact (pureV_some h).1)
  · split at h <;> first | exact (pureV_some h).1 | (split at h <;> exact (pureV_some h).1)
  · split at h <;> first | exact (pureV_some h).1 | (split at h <;> exact (pureV_some h).1)
  · split at h <;> first | exact (pureV_some h).1 | (split at h <;> exact (pureV_some h).1)
  · split at h <;> first | exact (pureV_some h).1 | (split at h <;> exact (pureV_some h).1)
  · split at h
    · exact (pureV_some h).1
    · rename_i h1 h2 h3
      simp [spOk, h1] at ho
    · rename_i h1 h2 h3
      simp [spOk, h1] at ho
    · exact (pureV_some h).1
    · exact (pureV_some h).1
    · exact (pureV_some h).1
    · rename_i h1 h2 h3
      simp [spOk, h1] at ho
    · cases h
theorem spV_D {P : Program} {T : Unit → Tab} (hT : TabOk P (T ())) {H : Unit → Kn} (hH : SoundK P (H ())) {o : Op} {s : SL} {st : Store} {cs : List Prop} {d : DV} (h : spV T A0 H o s st = some (cs, d)) (hc : allP cs True) {K : DV → Store → Prop} (hk : K d st) : opD P o (getS s) st K := by
  have e : evL s = ev (getS s) := rfl
  unfold spV at h
  split at h
  · rename_i ho
    have gen : ∀ {o : Op}, spOk H o = true → (match opV T A0 o s st with
        | some (cs, d, _) => some (cs, d)
        | none => none) = some (cs, d) → opD P o (getS s) st K := fun {o} ho h => by
      split at h
      · rename_i cs' d' st' hv
        cases h
        have := spOk_keep ho hv
        subst this
        exact opV_D hT hv hc hk
      · cases h
    split at h
    · rename_i c
      split at h
      · rename_i f h1
        simp only [opD, callD, h1]
        rw [e] at h
        split at h
        · rename_i r hb hr
          cases h
          obtain ⟨h1, h2⟩ := hH f _ _ _ hr hc
          exact .inl ⟨hT.body _ hb, FnV.use h1 h2 hk⟩
        · cases h
      · exact gen ho h
    · exact gen ho h
  · cases h
/-- What is to be shown, if it is wanted. -/
def whenL (A : Ar) (W : Bool) : List Prop → List Prop
  | [] => []
  | c :: cs => A.imq W c :: whenL A W cs
theorem whenL_ok {W : Bool} (hW : W = true) : ∀ {cs : List Prop}, allP (whenL A0 W cs) True → allP cs True
  | [], _ => trivial
  | _ :: _, h => ⟨h.1 hW, whenL_ok hW h.2⟩
/-- At the end: what may hold nothing holds anything. -/
def killW : WL → SL → SL
  | [], sp => sp
  | (k, some _) :: wl, sp => (k, .any) :: killW wl sp
  | (_, none) :: wl, sp => killW wl sp
theorem getS_killW : ∀ (wl : WL) (sp : SL) (i : Nat), (getS (killW wl sp) i = getS sp i ∧ getW wl i = none) ∨ getS (killW wl sp) i = .any
  | [], sp, i => .inl ⟨rfl, rfl⟩
  | (k, some v) :: wl, sp, i => by
      by_cases h : i = k
      · subst h; exact .inr (by simp [killW, getS])
      · have ih := getS_killW wl sp i
        simpa only [killW, getS, getW, nbeq h] using ih
  | (k, none) :: wl, sp, i => by
      have ih := getS_killW wl sp i
      by_cases h : i = k
      · subst h
        simp only [killW, getW, BEq.rfl, and_true]
        rcases ih with ⟨h1, _⟩ | h1
        · exact .inl h1
        · exact .inr h1
      · simpa only [killW, getW, nbeq h] using ih
theorem killW_ok {wl : WL} {sp : SL} {s : Slots} (hI : Spec s (getS sp) (wOf wl)) (i : Nat) : getS (killW wl sp) i = s i ∨ getS (killW wl sp) i = .any := by
  have hi := hI i
  rcases getS_killW wl sp i with ⟨h1, h2⟩ | h
  · left
    rw [h1, hi]
    simp [wOf, h2]
  · exact .inr h
theorem wOf_drop (dst : Option Nat) (wl : WL) : (wOf (dropW dst wl)) = putW dst true (wOf wl) := by
  cases dst with
  | none => rfl
  | some k =>
    funext i
    simp only [wOf, dropW, putW, updW_eq, getW_dropL]
    by_cases h : i = k <;> simp [h]
theorem wOf_set (dst : Option Nat) (W : Bool) (wl : WL) : (wOf (setW dst W wl)) = putW dst W (wOf wl) := by
  cases dst with
  | none => rfl
  | some k =>
    funext i
    simp only [wOf, setW, putW, updW_eq, getW]
    by_cases h : i = k
    · simp [h]
    · simp [h, nbeq h]
end Go.Proofs.Ytadnpgkddgbhkaa
namespace Go.Proofs.Ytadnpgkddgbhkaa
open Go.RowKit
set_option linter.all false
theorem SlotsOk.less {E : Env} {N : Nat} {s s' : Slots} {a : Act} (h : SlotsOk E N s a) (hs : ∀ i, s' i = s i ∨ s' i = .any) : SlotsOk E N s' a :=
  ⟨h.size, fun i => by
    rcases hs i with e | e
    · rw [e]; exact h.rep i
    · rw [e]; trivial, h.defers⟩
def spG (T : Unit → Tab) (A : Ar) (X : Cps) (H : Unit → Kn) (N : Nat) (ops : Array Oper) : List Oper → SL → WL → Store → (SL → Store → Prop) → Prop
  | [], sp, wl, st, Q => Q (killW wl sp) st
  | o :: rest, sp, wl, st, Q => match dstB N o.dst, o.guard with
    | true, none => (match readsC A none wl sp o.op with
      | some cs => allP cs (opC T A X H o.op sp st fun d st' => spG T A X H N ops rest (putL o.dst d sp) (dropW o.dst wl) st' Q)
      | none => False)
    | true, some (j, w) => (match slotOf ops j with
      | some k => (match getS sp k with
        | .d (.sc (.bool t)) => (match readsC A (some (andW A (getW wl k) (A.is t w))) wl sp o.op, spV T A H o.op sp st with
          | some cs, some (ds, d) => allP cs (allP (whenL A (andW A (getW wl k) (A.is t w)) ds) (spG T A X H N ops rest (putL o.dst d sp) (setW o.dst (andW A (getW wl k) (A.is t w)) wl) st Q))
          | _, _ => False)
        | _ => False)
      | none => False)
    | false, _ => False
theorem spG_ok {P : Program} {T : Unit → Tab} (hT : TabOk P (T ())) {H : Unit → Kn} (hH : SoundK P (H ())) {N : Nat} {ops : Array Oper} {Q : Exit → Act → World → Prop} : ∀ (l : List Oper) (s : Slots) (sp : SL) (wl : WL) (E : Env) (a : Act) (K : SL → Store → Prop), Spec s (getS sp) (wOf wl) → Conc E → SlotsOk E N s a → spG T A0 (X0 P N) H N ops l sp wl E.st K →
    (∀ (s' : SL) (a' : Act) (E' : Env), K s' E'.st → Conc E' → Ext E E' → SlotsOk E' N (getS s') a' → Q .normal a' E'.w) → wpList P ops Q l a E.w
  | [], s, sp, wl, E, a, K, hI, hc, hs, h, hn => hn (killW wl sp) a E h hc (Ext.refl E) (hs.less (killW_ok hI))
  | o :: rest, s, sp, wl, E, a, K, hI, hc, hs, h, hn => by
      have go : ∀ KK : Slots → Store → Prop, stepD P N ops o s E.st KK → (∀ s' st', KK s' st' → ∃ sp' wl', Spec s' (getS sp') (wOf wl') ∧ spG T A0 (X0 P N) H N ops rest sp' wl' st' K) → wpList P ops Q (o :: rest) a E.w := fun KK h1 h2 => by
        have := step_ok (P := P) (Q := Q) (ops := ops) (next := wpList P ops Q rest) hc hs o h1 fun s' a' E' hk h1 hx h3 => by
          obtain ⟨sp', wl', q1, q2⟩ := h2 s' E'.st hk
          exact spG_ok hT hH rest s' sp' wl' E' a' K q1 h1 h3 q2 fun s2 a2 E2 k1 k2 k3 k4 => hn s2 a2 E2 k1 k2 (Ext.trans hc.len h1.len hx k3) k4
        unfold wpList
        exact this
      unfold spG at h
      split at h
      · rename_i hd hg
        split at h
        · rename_i cs hr
          rw [allP_iff] at h
          have hro := readsC_ok hr h.1
          refine go (fun s' st' => spG T A0 (X0 P N) H N ops rest (againL o.dst s' sp) (dropW o.dst wl) st' K ∧ Spec s' (getS (againL o.dst s' sp)) (wOf (dropW o.dst wl))) ?_ fun s' st' hq => ⟨_, _, hq.2, hq.1⟩
          unfold stepD
          have : wantedD ops o.guard s = some true := by rw [hg]; rfl
          simp only [this]
          refine ⟨dstB_ok hd, ?_⟩
          have e : (fun d st' => spG T A0 (X0 P N) H N ops rest (putL o.dst d sp) (dropW o.dst wl) st' K) = fun d st' => spG T A0 (X0 P N) H N ops rest (againL o.dst (putS o.dst d s) sp) (dropW o.dst wl) st' K ∧ Spec (putS o.dst d s) (getS (againL o.dst (putS o.dst d s) sp)) (wOf (dropW o.dst wl)) := by
            funext d st'
            have q := hI.put o.dst d true
            rw [if_pos rfl] at q
            rw [againL_put, getS_putL, wOf_drop]
            simp only [q, and_true]
          have h2 := h.2
          rw [e] at h2
          exact readsOk_D hI rfl hro (opC_D hT hH h2)
        · exact h.elim
      · rename_i j w hd hg
        split at h
        · rename_i k hk
          split at h
          · rename_i t ht
            split at h
            · rename_i cs ds d hr hv
              rw [allP_iff] at h
              obtain ⟨hc1, h⟩ := h
              rw [allP_iff] at h
              obtain ⟨hc2, h⟩ := h
              have hro := readsC_ok hr hc1
              simp only [Option.getD_some] at hro
              have hWe : andW A0 (getW wl k) (A0.is t w) = (wOf wl k && (t == w)) := by rw [andW_ok]; rfl
              rw [hWe] at hro h hc2
              refine go (fun s' st' => s' = putS o.dst (if (wOf wl k && (t == w)) = true then d else .d (.sc undef)) s ∧ st' = E.st) ?_ ?_
              · unfold stepD
                have hIk := hI k
                by_cases hW : (wOf wl k && (t == w)) = true
                · have hw : wantedD ops o.guard s = some true := by
                    simp only [Bool.and_eq_true] at hW
                    rw [if_pos hW.1, ht] at hIk
                    rw [hg]
                    simp only [wantedD, hk, hIk, hW.2]
                  simp only [hw]
                  refine ⟨dstB_ok hd, readsOk_D hI hW hro (spV_D hT hH hv (whenL_ok hW hc2) ?_)⟩
                  rw [if_pos hW]
                  exact ⟨rfl, rfl⟩
                · have hw : wantedD ops o.guard s = some false := by
                    rw [hg]
                    by_cases hwk : wOf wl k = true
                    · rw [if_pos hwk, ht] at hIk
                      simp only [wantedD, hk, hIk]
                      simp only [hwk, Bool.true_and] at hW
                      simpa using hW
                    · rw [if_neg hwk] at hIk
                      simp only [wantedD, hk, hIk]
                      rfl
                  simp only [hw]
                  refine ⟨dstB_ok hd, ?_⟩
                  rw [if_neg hW]
                  exact ⟨rfl, trivial⟩
              · rintro s' st' ⟨rfl, rfl⟩
                refine ⟨_, _, ?_, h⟩
                have q := hI.put o.dst d (wOf wl k && (t == w))
                rw [getS_putL, wOf_set]
                exact q
            · exact h.elim
          · exact h.elim
        · exact h.elim
      · exact h.elim
/-- Where the ways part. -/
@[reducible] def brC (t : Bool) (x y : Unit → Prop) : Prop := match t with
  | true => x ()
  | false => y ()
theorem part {t : Bool} {x y : Prop} (hx : t = true → x) (hy : t = false → y) : brC t (fun _ => x) (fun _ => y) := by
  cases t
  · exact hy rfl
  · exact hx rfl
/-- Guarded rows with parting ways. -/
def genG (T : Unit → Tab) (A : Ar) (X : Cps) (H : Unit → Kn) (N : Nat) (ops : Array Oper) : List Oper → SL → Store → (SL → Store → Prop) → Prop
  | [], s, st, Q => Q s st
  | o :: rest, s, st, Q => match dstB N o.dst, o.guard with
    | true, none => opC T A X H o.op s st fun d st' => genG T A X H N ops rest (putL o.dst d s) st' Q
    | true, some (j, w) => (match slotOf ops j with
      | some k => (match getS s k with
        | .d (.sc (.bool t)) => brC t
          (fun _ => match w with
            | true => opC T A X H o.op (setS s k (.d (.sc (.bool true)))) st fun d st' => genG T A X H N ops rest (putL o.dst d (setS s k (.d (.sc (.bool true))))) st' Q
            | false => genG T A X H N ops rest (putL o.dst (.d (.sc (.tuple #[]))) (setS s k (.d (.sc (.bool true))))) st Q)
          (fun _ => match w with
            | false => opC T A X H o.op (setS s k (.d (.sc (.bool false)))) st fun d st' => genG T A X H N ops rest (putL o.dst d (setS s k (.d (.sc (.bool false))))) st' Q
            | true => genG T A X H N ops rest (putL o.dst (.d (.sc (.tuple #[]))) (setS s k (.d (.sc (.bool false))))) st Q)
        | .d (.sc (.tuple _)) => genG T A X H N ops rest (putL o.dst (.d (.sc (.tuple #[]))) s) st Q
        | _ => False)
      | none => False)
    | false, _ => False
theorem getS_same {s : SL} {k : Nat} {d : DV} (h : getS s k = d) : getS (setS s k d) = getS s := by
  funext i
  rw [getS_setS]
  split
  · rename_i e; rw [e, h]
  · rfl
theorem genG_ok {P : Program} {T : Unit → Tab} (hT : TabOk P (T ())) {H : Unit → Kn} (hH : SoundK P (H ())) {N : Nat} {ops : Array Oper} {Q : Exit → Act → World → Prop} : ∀ (l : List Oper) (s : SL) (E : Env) (a : Act) (K : SL → Store → Prop), Conc E → SlotsOk E N (getS s) a → genG T A0 (X0 P N) H N ops l s E.st K →
    (∀ (s' : SL) (a' : Act) (E' : Env), K s' E'.st → Conc E' → Ext E E' → SlotsOk E' N (getS s') a' → Q .normal a' E'.w) → wpList P ops Q l a E.w
  | [], s, E, a, K, hc, hs, h, hn => hn s a E h hc (Ext.refl E) hs
  | o :: rest, s, E, a, K, hc, hs, h, hn => by
      have run : ∀ s2 : SL, getS s2 = getS s → dstB N o.dst = true → wantedD ops o.guard (getS s) = some true → (opC T A0 (X0 P N) H o.op s2 E.st fun d st' => genG T A0 (X0 P N) H N ops rest (putL o.dst d s2) st' K) → wpList P ops Q (o :: rest) a E.w := fun s2 h2 hd hw h => by
        have h1 := opC_D hT hH h
        have e : (fun d st' => genG T A0 (X0 P N) H N ops rest (putL o.dst d s2) st' K) = fun d st' => genG T A0 (X0 P N) H N ops rest (againL o.dst (putS o.dst d (getS s)) s2) st' K ∧ getS (againL o.dst (putS o.dst d (getS s)) s2) = putS o.dst d (getS s) := by
          funext d st'
          rw [againL_put, getS_putL, h2]
          simp
        rw [e, h2] at h1
        have hst : stepD P N ops o (getS s) E.st fun s' st' => genG T A0 (X0 P N) H N ops rest (againL o.dst s' s2) st' K ∧ getS (againL o.dst s' s2) = s' := by
          unfold stepD
          simp only [hw]
          exact ⟨dstB_ok hd, h1⟩
        have := step_ok (P := P) (Q := Q) (ops := ops) (next := wpList P ops Q rest) hc hs o hst fun s' a' E' hk h1 hx h3 => by
          rw [← hk.2] at h3
          exact genG_ok hT hH rest _ E' a' K h1 h3 hk.1 fun s2 a2 E2 k1 k2 k3 k4 => hn s2 a2 E2 k1 k2 (Ext.trans hc.len h1.len hx k3) k4
        unfold wpList
        exact this
      have skip : ∀ s2 : SL, getS s2 = getS s → dstB N o.dst = true → wantedD ops o.guard (getS s) = some false → genG T A0 (X0 P N) H N ops rest (putL o.dst (.d (.sc (.tuple #[]))) s2) E.st K → wpList P ops Q (o :: rest) a E.w := fun s2 h2 hd hw h => by
        have hst : stepD P N ops o (getS s) E.st fun s' st' => st' = E.st ∧ s' = putS o.dst (.d (.sc undef)) (getS s) := by
          unfold stepD
          simp only [hw]
          exact ⟨dstB_ok hd, trivial, trivial⟩
        have := step_ok (P := P) (Q := Q) (ops := ops) (next := wpList P ops Q rest) hc hs o hst fun s' a' E' hk h1 hx h3 => by
          obtain ⟨k1, rfl⟩ := hk
          have h4 : genG T A0 (X0 P N) H N ops rest (putL o.dst (.d (.sc (.tuple #[]))) s2) E'.st K := by rw [k1]; exact h
          refine genG_ok hT hH rest _ E' a' K h1 ?_ h4 fun s2 a2 E2 k1 k2 k3 k4 => hn s2 a2 E2 k1 k2 (Ext.trans hc.len h1.len hx k3) k4
          rw [getS_putL, h2]
          exact h3
        unfold wpList
        exact this
      unfold genG at h
      split at h
      · rename_i hd hg
        exact run s rfl hd (by rw [hg]; rfl) h
      · rename_i j w hd hg
        split at h
        · rename_i k hk
          split at h
          · rename_i t ht
            have hwant : wantedD ops o.guard (getS s) = some (t == w) := by
              rw [hg]
              simp only [wantedD, hk, ht]
            cases t <;> cases w <;> simp only [brC] at h
            · exact run _ (getS_same ht) hd hwant h
            · exact skip _ (getS_same ht) hd hwant h
            · exact skip _ (getS_same ht) hd hwant h
            · exact run _ (getS_same ht) hd hwant h
          · rename_i vs ht
            exact skip s rfl hd (by rw [hg]; simp only [wantedD, hk, ht]) h
          · exact h.elim
        · exact h.elim
      · exact h.elim
end Go.Proofs.Ytadnpgkddgbhkaa
