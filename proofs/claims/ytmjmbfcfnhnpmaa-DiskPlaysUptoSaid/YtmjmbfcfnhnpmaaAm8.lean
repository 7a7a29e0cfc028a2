/- The program logic, eighth part: append, copy, texts as bytes, the lesser and the greater. No condition: lemmas of any program. -/
import Derived.Test.YtmjmbfcfnhnpmaaAm7
namespace Go.Proofs.Ytmjmbfcfnhnpmaa
open Go.RowKit
set_option linter.all false
def isStrD (P : Program) (t : TypeId) : Bool := match P.underlying t with
  | some .string => true
  | _ => false
/-- Rows of plain data as cells. -/
def rowsD (xs : List (List PD)) : List DV := xs.flatten.map .d
theorem rowsD_append (xs ys : List (List PD)) : rowsD (xs ++ ys) = rowsD xs ++ rowsD ys := by simp only [rowsD, List.flatten_append, List.map_append]
theorem rowsD_get (xs : List (List PD)) (j : Nat) : (rowsD xs)[j]? = xs.flatten[j]?.map .d := by simp only [rowsD, List.getElem?_map]
theorem isStrD_spec {P : Program} {t : TypeId} (h : isStrD P t = true) : P.underlying t = some .string := by
  unfold isStrD at h
  split at h
  · assumption
  · cases h
/-- What is appended: the cells, how many elements. -/
def srcD (P : Program) (st : Store) (sz : Nat) (t : TypeId) (x : DV) : Option (List DV × Nat) :=
  match x with
  | .d (.slc sz' xs) => if sz' = sz ∧ (slD P t).isSome = true then some (rowsD xs, xs.length) else none
  | .d (.sc (.slice none 0 0)) => if (slD P t).isSome = true then some ([], 0) else none
  | .d (.sc (.string s)) => if sz = 1 ∧ isStrD P t = true then some (rowsD (bytesP s.data.toList), s.size) else none
  | .view sz' b ver o n => match st[b]? with
    | some bx => if sz' = sz ∧ ver = bx.ver ∧ bx.live = true ∧ (slD P t).isSome = true ∧ o + n * sz ≤ bx.cells.length then some ((bx.cells.drop o).take (n * sz), n) else none
    | none => none
  | _ => none
/-- The values that are appended. -/
def srcVals (w : World) (sz : Nat) (v : Value) (n : Nat) (vs : List Value) : Prop :=
  vs.length = n * sz ∧ (∀ u ∈ vs, u.oneCell' = true) ∧
  ((∃ a c, v = .slice (some a) n c ∧ ∀ (j : Nat) (u : Value), vs[j]? = some u → w.cell? (a.add j) = some u) ∨ (v = .slice none 0 0 ∧ n = 0) ∨ (∃ s : ByteArray, v = .string s ∧ n = s.size ∧ sz = 1 ∧ vs = Go.Lib.strCells s))
theorem srcD_spec {P : Program} {E : Env} (hc : Conc E) {sz : Nat} {t : TypeId} {x : DV} {v : Value} (hx : Rep E x v) {ds : List DV} {n : Nat} (h : srcD P E.st sz t x = some (ds, n)) :
    ∃ vs, srcVals E.w sz v n vs ∧ Reps E ds vs ∧ ((∃ s, v = .string s ∧ P.underlying t = some .string) ∨ (∃ e, P.underlying t = some (.slice e) ∧ ∀ s, v ≠ .string s)) := by
  unfold srcD at h
  split at h
  · split at h
    · rename_i sz' xs hq
      cases h
      obtain ⟨rfl, hs⟩ := hq
      obtain ⟨e, hu⟩ := slD_some hs
      rcases hx with ⟨rfl, rfl⟩ | ⟨a, c, rfl, h1, h2, h3, h4⟩
      · exact ⟨[], ⟨by simp, by simp, .inr (.inl ⟨rfl, rfl⟩)⟩, trivial, .inr ⟨e, hu, fun s hs => by cases hs⟩⟩
      obtain ⟨f1, f2⟩ := RowsP.flat _ _ h4
      obtain ⟨vs, g1, g2, g3, g4⟩ := f1.vals
      exact ⟨vs, ⟨by rw [g1, f2], g2, .inl ⟨a, c, rfl, g3⟩⟩, Reps.of_cells g1 g4, .inr ⟨e, hu, fun s hs => by cases hs⟩⟩
    · cases h
  · split at h
    · rename_i hs
      cases h
      simp only [Rep, RepP] at hx; subst hx
      obtain ⟨e, hu⟩ := slD_some hs
      exact ⟨[], ⟨by simp, by simp, .inr (.inl ⟨rfl, rfl⟩)⟩, trivial, .inr ⟨e, hu, fun s hs => by cases hs⟩⟩
    · cases h
  · split at h
    · rename_i s hq
      cases h
      obtain ⟨rfl, hu⟩ := hq
      have hu := isStrD_spec hu
      simp only [Rep, RepP] at hx; subst hx
      refine ⟨Go.Lib.strCells s, ⟨by simp [Go.Lib.strCells_length], Go.Lib.strCells_oneCell s, .inr (.inr ⟨s, rfl, rfl, rfl, rfl⟩)⟩, ?_, .inl ⟨s, rfl, hu⟩⟩
      rw [rowsD, bytesP_flat]
      refine Reps.of_cells (by simp [Go.Lib.strCells]) fun j p v hp hv => ?_
      simp only [Go.Lib.strCells, List.getElem?_map] at hp hv
      cases hb : s.data.toList[j]? with
      | none => simp [hb] at hp
      | some b =>
        rw [hb] at hp hv
        simp only [Option.map_some, Option.some.injEq] at hp hv
        subst hp; subst hv
        rfl
    · cases h
  · split at h
    · rename_i sz' b ver o n bx hb'
      split at h
      · rename_i hq
        cases h
        obtain ⟨rfl, rfl, hl, hs, hfit⟩ := hq
        obtain ⟨bx', gz, hb, hg, hone, hle, hv⟩ := hx
        rw [hb] at hb'
        cases hb'
        obtain ⟨c, rfl, hc1, hc2, hc3⟩ := hv rfl
        obtain ⟨vs, g1, g2, g3, g4⟩ := hc.cells hb hg hl hfit
        obtain ⟨e, hu⟩ := slD_some hs
        exact ⟨vs, ⟨g1, g3, .inl ⟨_, c, rfl, g4⟩⟩, g2, .inr ⟨e, hu, fun s hs => by cases hs⟩⟩
      · cases h
    · cases h
  · cases h
theorem zeroCells_mem {z : Array Value} (hz : 0 < z.size) {n : Nat} {u : Value} (h : u ∈ (Builtin.zeroCells z n).toList) : u ∈ z.toList := by
  simp only [Builtin.zeroCells, Array.toList_map, List.mem_map] at h
  obtain ⟨k, _, rfl⟩ := h
  have hlt : k % z.size < z.size := Nat.mod_lt _ hz
  rw [getElem!_pos z (k % z.size) hlt]
  simp
/-- append, told whole: nothing onto nothing; there is room; a new row. -/
theorem run_append_all {P : Program} (w : World) {t u ty e : TypeId} {i : TypeInfo} {z : Value} (ht : P.underlying t = some (.slice e)) (hi : P.info? e = some i) (hz : i.zero = some z) (hzs : z.cells.size = i.size) (hsz : 0 < i.size) (hzo : ∀ u ∈ z.cells.toList, u.oneCell' = true)
    {v : Value} {n : Nat} {xs : List Value} (hown : w.ownsRow 0 e i.size v n xs) {x : Value} {m : Nat} {news : List Value} (hsrc : srcVals w i.size x m news) (hty : (∃ s, x = .string s ∧ P.underlying u = some .string) ∨ (u = t ∧ ∀ s, x ≠ .string s))
    (h63 : n + m ≤ maxLen) (hbytes : (n + m) * i.bytes ≤ 140737488355328) :
    ∃ v' w', (Builtin.append_ #[t, u] ty #[v, x]).run P w = .ok v' w' ∧
      ((v = .slice none 0 0 ∧ m = 0 ∧ v' = .slice none 0 0 ∧ w' = w) ∨
       (∃ g cap cur, v = .slice (some ⟨g, 0, none⟩) n cap ∧ w.heap[g]? = some (.cells cur e (0, 0)) ∧ cur.size = cap * i.size ∧ n + m ≤ cap ∧ cap ≤ maxLen ∧ cur.toList.take (n * i.size) = xs ∧ v' = .slice (some ⟨g, 0, none⟩) (n + m) cap ∧
         w' = w.setRow g (cur.toList.take (n * i.size) ++ news ++ cur.toList.drop (n * i.size + news.length)).toArray) ∨
       (∃ cap zs, (∀ a c, v = .slice (some a) n c → c < n + m) ∧ 0 < n + m ∧ v' = .slice (some ⟨w.heap.size, 0, none⟩) (n + m) cap ∧ n + m ≤ cap ∧ cap ≤ maxLen ∧ w.grownBy w' none ∧
         w'.heap[w.heap.size]? = some (.cells (xs ++ news ++ zs).toArray e (0, 0)) ∧ (xs ++ news ++ zs).length = cap * i.size ∧ ∀ u ∈ zs, u.oneCell' = true)) := by
  obtain ⟨hl, h1, hsrc⟩ := hsrc
  have hxl : xs.length = n * i.size := hown.1
  have hsmall : n + m ≤ 9223372036854775807 := by simp only [maxLen] at h63; omega
  have hlen : (xs ++ news).length = (n + m) * i.size := by rw [List.length_append, hxl, hl, Nat.add_mul]
  have grown : ∀ (old : Nat) (v' : Value) (w' : World), old < n + m → v' = .slice (some ⟨w.heap.size, 0, none⟩) (n + m) (grownCap w (n + m) old e) →
      w' = w.drew.alloc (.cells (xs.toArray ++ news.toArray ++ Builtin.zeroCells z.cells (grownCap w (n + m) old e - (n + m))) e) →
      ∃ cap zs, 0 < n + m ∧ v' = .slice (some ⟨w.heap.size, 0, none⟩) (n + m) cap ∧ n + m ≤ cap ∧ cap ≤ maxLen ∧ w.grownBy w' none ∧
         w'.heap[w.heap.size]? = some (.cells (xs ++ news ++ zs).toArray e (0, 0)) ∧ (xs ++ news ++ zs).length = cap * i.size ∧ ∀ u ∈ zs, u.oneCell' = true := by
    intro old v' w' ho hv hw
    subst hw
    have hge := grownCap_ge w (n + m) old e
    have hcm : grownCap w (n + m) old e ≤ maxLen := grownCap_le_maxLen w (n + m) old e h63
    refine ⟨_, (Builtin.zeroCells z.cells (grownCap w (n + m) old e - (n + m))).toList, by omega, hv, hge, hcm, ⟨rfl, rfl, rfl, by simp, fun k hk _ => heap_alloc_old w.drew _ hk⟩, ?_, ?_, fun u hu => hzo u (zeroCells_mem (by omega) hu)⟩
    · rw [show w.heap.size = w.drew.heap.size from rfl, heap_alloc_new w.drew _]
      congr 2
      apply Array.ext'
      simp
    · rw [List.length_append, hlen, Array.length_toList, size_zeroCells, hzs, ← Nat.add_mul]
      congr 1
      omega
  have h63' : ((n + m : Nat) : Int) ≤ 9223372036854775807 := by omega
  rcases hsrc with ⟨a, c, rfl, hcell⟩ | ⟨rfl, rfl⟩ | ⟨s, rfl, rfl, hs1, rfl⟩
  · rcases hty with ⟨s, hs, _⟩ | ⟨rfl, _⟩
    · cases hs
    · rcases hown.2 with ⟨rfl, rfl⟩ | ⟨g, cap, cur, rfl, hbg, hg, hnc, hcm, hcs, htake⟩
      · have hx : xs = [] := List.eq_nil_of_length_eq_zero (by simpa using hxl)
        subst hx
        by_cases hm : m = 0
        · subst hm
          have hn : news = [] := List.eq_nil_of_length_eq_zero (by simpa using hl)
          subst hn
          refine ⟨.slice none 0 0, w, ?_, .inl ⟨rfl, rfl, rfl, rfl⟩⟩
          simp [Builtin.append_, run_underlying ht, sizeOf, typeInfo, hi, Builtin.lenOf, Builtin.firstCells, loadCells, loadCellsFrom]
        · have hr := run_append_nil (P := P) w u ty e i z ht hi hz a m c news hl hcell (by omega) (by omega) (by have hb := hbytes; simp only [Nat.zero_add] at hb; omega)
          obtain ⟨cap, zs, q⟩ := grown 0 _ _ (by omega) rfl rfl
          simp only [Nat.zero_add, List.nil_append, Array.empty_append] at hr q ⊢
          exact ⟨_, _, hr, .inr (.inr ⟨cap, zs, fun _ _ h => (by cases h), q⟩)⟩
      · by_cases hroom : n + m ≤ cap
        · have hfit : n * i.size + news.length ≤ cur.size := by rw [hl, hcs, ← Nat.add_mul]; exact Nat.mul_le_mul_right _ hroom
          have hr := run_append_room (P := P) w u ty e i ht hi g n cap cur hg a m c news hl hcell h1 hroom hfit
          exact ⟨_, _, hr, .inr (.inl ⟨g, cap, cur, rfl, hg, hcs, hroom, hcm, htake, rfl, rfl⟩)⟩
        · have holds : ∀ j u, xs[j]? = some u → w.cell? ((⟨g, 0, none⟩ : Addr).add j) = some u := hown.cells (g := g) rfl
          have hr := run_append_grow (P := P) w u ty e i z ht hi hz ⟨g, 0, none⟩ n cap xs hown.1 holds a m c news hl hcell (by omega) (by omega) (growslice_fits (by omega) hbytes)
          obtain ⟨cap', zs, q⟩ := grown cap _ _ (by omega) rfl rfl
          exact ⟨_, _, hr, .inr (.inr ⟨cap', zs, fun _ _ h => (by cases h; omega), q⟩)⟩
  · rcases hty with ⟨s, hs, _⟩ | ⟨rfl, _⟩
    · cases hs
    · have hn : news = [] := List.eq_nil_of_length_eq_zero (by simpa using hl)
      subst hn
      rcases hown.2 with ⟨rfl, rfl⟩ | ⟨g, cap, cur, rfl, hbg, hg, hnc, hcm, hcs, htake⟩
      · refine ⟨.slice none 0 0, w, ?_, .inl ⟨rfl, rfl, rfl, rfl⟩⟩
        simp [Builtin.append_, run_underlying ht, sizeOf, typeInfo, hi, Builtin.lenOf, Builtin.firstCells]
      · refine ⟨.slice (some ⟨g, 0, none⟩) n cap, w, ?_, .inr (.inl ⟨g, cap, cur, rfl, hg, hcs, by omega, hcm, htake, rfl, ?_⟩)⟩
        · simp [Builtin.append_, run_underlying ht, sizeOf, typeInfo, hi, Builtin.lenOf, Builtin.firstCells, hnc, storeCells]
        · have e1 : (cur.toList.take (n * i.size) ++ ([] : List Value) ++ cur.toList.drop (n * i.size + ([] : List Value).length)).toArray = cur := by simp
          rw [e1]
          exact (setRow_self w g cur e (0, 0) hg).symm
  · rcases hty with ⟨s', hs, hu⟩ | ⟨_, hno⟩
    · cases hs
      rcases hown.2 with ⟨rfl, rfl⟩ | ⟨g, cap, cur, rfl, hbg, hg, hnc, hcm, hcs, htake⟩
      · have hx : xs = [] := List.eq_nil_of_length_eq_zero (by simpa using hown.1)
        subst hx
        by_cases hm : s.size = 0
        · refine ⟨.slice none 0 0, w, ?_, .inl ⟨rfl, hm, rfl, rfl⟩⟩
          simp [Builtin.append_, run_underlying ht, run_underlying hu, sizeOf, typeInfo, hi, Builtin.lenOf, Builtin.firstCells, hm]
        · have hr := run_append_nil_string (P := P) w t u ty e i z ht hu hi hz s (by omega) (by omega) (by have hb := hbytes; simp only [Nat.zero_add] at hb; omega)
          obtain ⟨cap, zs, q⟩ := grown 0 _ _ (by omega) rfl rfl
          simp only [Nat.zero_add, List.nil_append, Array.empty_append] at q ⊢
          refine ⟨_, _, ?_, .inr (.inr ⟨cap, zs, fun _ _ h => (by cases h), q⟩)⟩
          rw [hr]
          congr 4
          apply Array.ext'
          simp [Go.Lib.strCells]
      · by_cases hroom : n + s.size ≤ cap
        · have hr := Go.Lib.run_append_room_string (P := P) w t u ty e i ht hu hi hs1 g n cap cur hg s hroom (by rw [hcs, hs1]; omega)
          refine ⟨_, _, hr, .inr (.inl ⟨g, cap, cur, rfl, hg, hcs, hroom, hcm, htake, rfl, ?_⟩)⟩
          rw [Go.Lib.strCells_length, hs1, Nat.mul_one]
        · have holds : ∀ j u, xs[j]? = some u → w.cell? ((⟨g, 0, none⟩ : Addr).add j) = some u := hown.cells (g := g) rfl
          have hr := Go.Lib.run_append_grow_string (P := P) w t u ty e i z ht hu hi hz ⟨g, 0, none⟩ n cap xs hown.1 holds s (by omega) (by omega) (growslice_fits (by omega) hbytes)
          obtain ⟨cap', zs, q⟩ := grown cap _ _ (by omega) rfl rfl
          exact ⟨_, _, hr, .inr (.inr ⟨cap', zs, fun _ _ h => (by cases h; omega), q⟩)⟩
    · exact absurd rfl (hno s)
theorem appendTy {P : Program} {t u : TypeId} {vx : Value} (htu : isStrD P u = true ∨ u = t) (g3 : (∃ s, vx = .string s ∧ P.underlying u = some .string) ∨ ∃ e', P.underlying u = some (.slice e') ∧ ∀ s, vx ≠ .string s) : (∃ s, vx = .string s ∧ P.underlying u = some .string) ∨ (u = t ∧ ∀ s, vx ≠ .string s) := by
  rcases g3 with g3 | ⟨e', g3, g4⟩
  · exact .inl g3
  · refine .inr ⟨?_, g4⟩
    rcases htu with htu | htu
    · rw [isStrD_spec htu] at g3; cases g3
    · exact htu
/-- append. -/
def appendD (P : Program) (st : Store) (t u : TypeId) (s x : DV) (K : DV → Store → Prop) : Prop :=
  match slD P t with
  | some (e, sz) => match zeroD P e, P.info? e, srcD P st sz u x with
    | some z, some i, some (ds, m) => z.length = sz ∧ 0 < sz ∧ (isStrD P u = true ∨ u = t) ∧ match s with
      | .d (.sc (.slice none 0 0)) => (m ≤ 9007199254740992 ∧ m * i.bytes ≤ 140737488355328) ∧ (m = 0 → K nilS st) ∧ (0 < m → K (.view sz st.length 0 0 m) (st ++ [⟨e, ds, true, 0, true⟩]))
      | .view sz' b ver o n => match st[b]? with
        | some bx => (sz' = sz ∧ o = 0 ∧ ver = bx.ver ∧ bx.live = true ∧ bx.ty = e ∧ bx.cells.length = n * sz) ∧ (n + m ≤ 9007199254740992 ∧ (n + m) * i.bytes ≤ 140737488355328) ∧
            K (.view sz b (ver + 1) 0 (n + m)) (st.set b ⟨e, bx.cells ++ ds, true, ver + 1, true⟩)
        | none => False
      | _ => False
    | _, _, _ => False
  | none => False
theorem append_ok {P : Program} {E : Env} (hc : Conc E) {t u ty : TypeId} {s x : DV} {v vx : Value} (hs : Rep E s v) (hx : Rep E x vx) {K : DV → Store → Prop} (h : appendD P E.st t u s x K) :
    Ends P E (Builtin.append_ #[t, u] ty #[v, vx]) K := by
  unfold appendD at h
  split at h
  · rename_i e sz hsl
    split at h
    · rename_i z i ds m hz hi hsrc
      obtain ⟨hzl, hpos, htu, h⟩ := h
      obtain ⟨zv, i', e1, e2, e3, e4, e5, rfl⟩ := zeroD_spec hz
      rw [hi] at e1
      cases e1
      obtain ⟨hu, ⟨i2, hi2, hisz⟩, hsz⟩ := slD_spec hsl
      rw [hi] at hi2
      cases hi2
      subst hisz
      obtain ⟨vs, g1, g2, g3⟩ := srcD_spec hc hx hsrc
      have hty := appendTy htu g3
      have hone := g1.2.1
      have hlen := g2.length
      have hvl := g1.1
      split at h
      · obtain ⟨⟨hm1, hm2⟩, h0, h1⟩ := h
        simp only [Rep, RepP] at hs; subst hs
        obtain ⟨v', w', r1, r2⟩ := run_append_all (P := P) E.w hu hi e2 e3 hpos e4 (World.ownsRow_nil E.w 0 e i.size) g1 hty (by simp only [maxLen]; omega) (by simpa using hm2)
        rcases r2 with ⟨_, hm, rfl, rfl⟩ | ⟨_, _, _, hv, _⟩ | ⟨cap, zs, _, hm, rfl, hnc, hcm, r3, hg, hcs, hzs⟩
        · exact ⟨.slice none 0 0, E, nilS, r1, h0 hm, hc, Ext.refl E, rfl⟩
        · cases hv
        · simp only [Nat.zero_add, List.nil_append] at hm hnc hg hcs
          have hmono : m * i.size ≤ cap * i.size := Nat.mul_le_mul_right _ hnc
          obtain ⟨c1, c2⟩ := newBoxAt hc w' E.w.heap.size (Nat.le_refl _) r3.size r3.os r3.tape r3.output (fun k hk => r3.block k hk (by simp)) (vs ++ zs).toArray e ds true hg (by simp; omega) (fun h => by cases h) trivial
            (fun j d hj => by
              obtain ⟨u, q1, q2⟩ := g2.get _ _ j d hj
              exact ⟨u, by rw [List.getElem?_toArray, List.getElem?_append_left (List.getElem?_eq_some_iff.1 q1).1]; exact q1, oneL hone q1, q2⟩)
            (fun j u hj => by
              rw [List.getElem?_toArray] at hj
              rcases List.mem_append.1 (List.mem_of_getElem? hj) with hh | hh
              · exact hone u hh
              · exact hzs u hh)
          refine ⟨_, _, .view i.size E.st.length 0 0 m, r1, h1 (by omega), c1, c2, ?_⟩
          have := view_new E w' E.S E.w.heap.size (vs ++ zs).toArray.size i.size m cap ⟨e, ds, true, 0, true⟩ hc.len (by simpa using hcs.symm) (by omega) hcm
          simpa using this
      · rename_i sz' b ver o n
        split at h
        · rename_i bx hb'
          obtain ⟨⟨rfl, rfl, rfl, hl, hty', hcl⟩, ⟨hn1, hn2⟩, h⟩ := h
          obtain ⟨bx', gz, hb, hg, hone', hle, hv⟩ := hs
          rw [hb] at hb'
          cases hb'
          obtain ⟨c, rfl, hc1, hc2, hc3⟩ := hv rfl
          obtain ⟨cur, a1, a2, a3, a4, a5, a6, a7, a8⟩ := hc.box b bx gz.1 gz.2 hb hg hl
          have hown : E.w.ownsRow 0 e i.size (.slice (some ⟨gz.1, 0, none⟩) n c) n (cur.toList.take (n * i.size)) :=
            ⟨by simp; omega, .inr ⟨gz.1, c, cur, rfl, Nat.zero_le _, by rw [← hty']; exact a1, hc1, hc2, by omega, rfl⟩⟩
          obtain ⟨v', w', r1, r2⟩ := run_append_all (P := P) E.w hu hi e2 e3 hpos e4 hown g1 hty (by simp only [maxLen]; omega) hn2
          have hbl := (List.getElem?_eq_some_iff.1 hb).1
          have hgl := (List.getElem?_eq_some_iff.1 hg).1
          have htk : (cur.toList.take (n * i.size)).length = bx.cells.length := by simp; omega
          rcases r2 with ⟨hv, _⟩ | ⟨g, cap, cur0, hv, hg0, hcs, hnc, hcm, _, rfl, rfl⟩ | ⟨cap, zs, _, hm, rfl, hnc, hcm, r3, hg3, hcs, hzs⟩
          · cases hv
          · cases hv
            rw [← hty'] at hg0
            rw [a1] at hg0
            cases hg0
            have hsz' : (cur.toList.take (n * i.size) ++ vs ++ cur.toList.drop (n * i.size + vs.length)).toArray.size = gz.2 := by
              have : n * i.size + vs.length ≤ cur.size := by rw [hvl, hcs, ← Nat.add_mul]; exact Nat.mul_le_mul_right _ hnc
              simp; omega
            obtain ⟨c1, c2⟩ := turnBox hc hb hg (E.w.setRow gz.1 (cur.toList.take (n * i.size) ++ vs ++ cur.toList.drop (n * i.size + vs.length)).toArray) gz.1 gz.2 (cur.toList.take (n * i.size) ++ vs ++ cur.toList.drop (n * i.size + vs.length)).toArray ⟨e, bx.cells ++ ds, true, bx.ver + 1, true⟩
              (by simp) rfl rfl rfl (fun k _ hk => setRow_other E.w gz.1 k _ hk) hl (setRow_heap E.w gz.1 cur _ e _ (by rw [← hty']; exact a1)) hsz' (by simp) (fun h => by simp at h) (.inl rfl)
              (by simp only [List.length_append]; rw [hcl, hlen, hvl, ← Nat.add_mul, ← a2, hcs]; exact Nat.mul_le_mul_right _ hnc) (fun h => by cases h) trivial
              (fun j d hj => by
                simp only at hj
                rw [List.getElem?_toArray, List.append_assoc]
                rw [List.getElem?_append] at hj
                split at hj
                · rename_i hjl
                  obtain ⟨u, q1, q2, q3⟩ := a7 j d hj
                  refine ⟨u, ?_, q2, q3⟩
                  rw [List.getElem?_append_left (by omega), List.getElem?_take, if_pos (by omega)]
                  simpa using q1
                · rename_i hjl
                  obtain ⟨u, q1, q2⟩ := g2.get _ _ _ d hj
                  refine ⟨u, ?_, oneL hone q1, q2⟩
                  rw [List.getElem?_append_right (by omega), htk, List.getElem?_append_left (List.getElem?_eq_some_iff.1 q1).1]
                  exact q1)
              (fun j u hj => by
                rw [List.getElem?_toArray] at hj
                rcases List.mem_append.1 (List.mem_of_getElem? hj) with hh | hh
                · rcases List.mem_append.1 hh with hh | hh
                  · obtain ⟨k, hk⟩ := List.mem_iff_getElem?.1 (List.mem_of_mem_take hh)
                    exact a8 k u (by simpa using hk)
                  · exact hone u hh
                · obtain ⟨k, hk⟩ := List.mem_iff_getElem?.1 (List.mem_of_mem_drop hh)
                  exact a8 k u (by simpa using hk))
            refine ⟨_, _, .view i.size b (bx.ver + 1) 0 (n + m), r1, h, c1, c2, ?_⟩
            exact ⟨⟨e, bx.cells ++ ds, true, bx.ver + 1, true⟩, (gz.1, gz.2), by simp [hbl], by simp [hgl], rfl, Nat.le_refl _, fun _ => ⟨c, rfl, hnc, hcm, by omega⟩⟩
          · have hmono : (n + m) * i.size ≤ cap * i.size := Nat.mul_le_mul_right _ hnc
            obtain ⟨c1, c2⟩ := turnBox hc hb hg w' E.w.heap.size (cur.toList.take (n * i.size) ++ vs ++ zs).toArray.size (cur.toList.take (n * i.size) ++ vs ++ zs).toArray ⟨e, bx.cells ++ ds, true, bx.ver + 1, true⟩ r3.size r3.os r3.tape r3.output (fun k hk hne => r3.block k hk (by simp)) hl hg3 rfl (by simp) (fun h => by simp at h)
              (.inr (Nat.le_refl _)) (by simp only [List.size_toArray, List.length_append] at hcs ⊢; rw [hlen]; omega) (fun h => by cases h) trivial
              (fun j d hj => by
                simp only at hj
                rw [List.getElem?_toArray, List.append_assoc]
                rw [List.getElem?_append] at hj
                split at hj
                · rename_i hjl
                  obtain ⟨u, q1, q2, q3⟩ := a7 j d hj
                  refine ⟨u, ?_, q2, q3⟩
                  rw [List.getElem?_append_left (by omega), List.getElem?_take, if_pos (by omega)]
                  simpa using q1
                · rename_i hjl
                  obtain ⟨u, q1, q2⟩ := g2.get _ _ _ d hj
                  refine ⟨u, ?_, oneL hone q1, q2⟩
                  rw [List.getElem?_append_right (by omega), htk, List.getElem?_append_left (List.getElem?_eq_some_iff.1 q1).1]
                  exact q1)
              (fun j u hj => by
                rw [List.getElem?_toArray] at hj
                rcases List.mem_append.1 (List.mem_of_getElem? hj) with hh | hh
                · rcases List.mem_append.1 hh with hh | hh
                  · obtain ⟨k, hk⟩ := List.mem_iff_getElem?.1 (List.mem_of_mem_take hh)
                    exact a8 k u (by simpa using hk)
                  · exact hone u hh
                · exact hzs u hh)
            refine ⟨_, _, .view i.size b (bx.ver + 1) 0 (n + m), r1, h, c1, c2, ?_⟩
            exact ⟨⟨e, bx.cells ++ ds, true, bx.ver + 1, true⟩, (E.w.heap.size, (cur.toList.take (n * i.size) ++ vs ++ zs).toArray.size), by simp [hbl], by simp [hgl], rfl, Nat.le_refl _, fun _ => ⟨cap, rfl, hnc, hcm, by simpa using hcs.symm⟩⟩
        · exact h.elim
      · exact h.elim
    · exact h.elim
  · exact h.elim
/-- append onto a row whose room is known. -/
def append2D (P : Program) (st : Store) (t u : TypeId) (s x : DV) (K : DV → Store → Prop) : Prop :=
  match slD P t with
  | some (e, sz) => match zeroD P e, P.info? e, srcD P st sz u x with
    | some z, some i, some (ds, m) => z.length = sz ∧ 0 < sz ∧ (isStrD P u = true ∨ u = t) ∧ match s with
      | .view sz' b ver o n => match st[b]? with
        | some bx => (sz' = sz ∧ o = 0 ∧ ver = bx.ver ∧ bx.live = true ∧ bx.ty = e ∧ bx.ext = false ∧ n * sz ≤ bx.cells.length) ∧ (n + m ≤ 9007199254740992 ∧ (n + m) * i.bytes ≤ 140737488355328) ∧
            ((n + m) * sz ≤ bx.cells.length → K (.view sz b ver 0 (n + m)) (st.set b { bx with cells := splice bx.cells (n * sz) ds })) ∧
            (bx.cells.length < (n + m) * sz → K (.view sz st.length 0 0 (n + m)) (st ++ [⟨e, bx.cells.take (n * sz) ++ ds, true, 0, true⟩]))
        | none => False
      | _ => False
    | _, _, _ => False
  | none => False
theorem append2_ok {P : Program} {E : Env} (hc : Conc E) {t u ty : TypeId} {s x : DV} {v vx : Value} (hs : Rep E s v) (hx : Rep E x vx) {K : DV → Store → Prop} (h : append2D P E.st t u s x K) :
    Ends P E (Builtin.append_ #[t, u] ty #[v, vx]) K := by
  unfold append2D at h
  split at h
  · rename_i e sz hsl
    split at h
    · rename_i z i ds m hz hi hsrc
      obtain ⟨hzl, hpos, htu, h⟩ := h
      obtain ⟨zv, i', e1, e2, e3, e4, e5, rfl⟩ := zeroD_spec hz
      rw [hi] at e1
      cases e1
      obtain ⟨hu, ⟨i2, hi2, hisz⟩, hsz⟩ := slD_spec hsl
      rw [hi] at hi2
      cases hi2
      subst hisz
      obtain ⟨vs, g1, g2, g3⟩ := srcD_spec hc hx hsrc
      have hty := appendTy htu g3
      have hone := g1.2.1
      have hlen := g2.length
      have hvl := g1.1
      split at h
      · rename_i sz' b ver o n
        split at h
        · rename_i bx hb'
          obtain ⟨⟨rfl, rfl, rfl, hl, hty', hext, hcl⟩, ⟨hn1, hn2⟩, hroom, hgrow⟩ := h
          obtain ⟨bx', gz, hb, hg, hone', hle, hv⟩ := hs
          rw [hb] at hb'
          cases hb'
          obtain ⟨c, rfl, hc1, hc2, hc3⟩ := hv rfl
          obtain ⟨cur, a1, a2, a3, a4, a5, a6, a7, a8⟩ := hc.box b bx gz.1 gz.2 hb hg hl
          have hexact := a4 hext
          have hown : E.w.ownsRow 0 e i.size (.slice (some ⟨gz.1, 0, none⟩) n c) n (cur.toList.take (n * i.size)) :=
            ⟨by simp; omega, .inr ⟨gz.1, c, cur, rfl, Nat.zero_le _, by rw [← hty']; exact a1, hc1, hc2, by omega, rfl⟩⟩
          obtain ⟨v', w', r1, r2⟩ := run_append_all (P := P) E.w hu hi e2 e3 hpos e4 hown g1 hty (by simp only [maxLen]; omega) hn2
          have hbl := (List.getElem?_eq_some_iff.1 hb).1
          have hgl := (List.getElem?_eq_some_iff.1 hg).1
          rcases r2 with ⟨hv, _⟩ | ⟨g, cap, cur0, hv, hg0, hcs, hnc, hcm, _, rfl, rfl⟩ | ⟨cap, zs, hgr, hm, rfl, hnc, hcm, r3, hg3, hcs, hzs⟩
          · cases hv
          · cases hv
            rw [← hty'] at hg0
            rw [a1] at hg0
            cases hg0
            have hfit : n * i.size + ds.length ≤ bx.cells.length := by
              rw [hlen, hvl, ← Nat.add_mul, hexact, ← a2, hcs]; exact Nat.mul_le_mul_right _ hnc
            obtain ⟨E', w1, w2, w3, w4, w5, w6⟩ := write_ok hc hb hg hl g2 hone (o := n * i.size) hfit P
            have hE' : E'.w = E.w.setRow gz.1 (cur.toList.take (n * i.size) ++ vs ++ cur.toList.drop (n * i.size + vs.length)).toArray := by
              have hst := run_storeCells_at P gz.1 (n * i.size) bx.ty vs 0 cur E.w a1 (by omega) hone
              simp only [Nat.add_zero] at hst
              rw [hst] at w1
              injection w1 with _ w1
              exact w1.symm
            refine ⟨_, E', .view i.size b bx.ver 0 (n + m), by rw [r1, hE'], ?_, w5, w6, ?_⟩
            · rw [w2]
              exact hroom (by rw [hexact, ← a2, hcs]; exact Nat.mul_le_mul_right _ hnc)
            · exact ⟨{ bx with cells := splice bx.cells (n * i.size) ds }, gz, by rw [w2]; simp [hbl], by rw [w4]; exact hg, rfl, Nat.le_refl _, fun _ => ⟨c, rfl, hnc, hcm, hc3⟩⟩
          · have hlt : c < n + m := hgr _ c rfl
            have hmono : (n + m) * i.size ≤ cap * i.size := Nat.mul_le_mul_right _ hnc
            have htk : (cur.toList.take (n * i.size)).length = n * i.size := by simp; omega
            have htk2 : (bx.cells.take (n * i.size)).length = n * i.size := by simp; omega
            obtain ⟨c1, c2⟩ := newBoxAt hc w' E.w.heap.size (Nat.le_refl _) r3.size r3.os r3.tape r3.output (fun k hk => r3.block k hk (by simp)) (cur.toList.take (n * i.size) ++ vs ++ zs).toArray e (bx.cells.take (n * i.size) ++ ds) true hg3 (by simp only [List.size_toArray, List.length_append] at hcs ⊢; omega) (fun h => by cases h) trivial
              (fun j d hj => by
                rw [List.getElem?_toArray, List.append_assoc]
                rw [List.getElem?_append] at hj
                split at hj
                · rename_i hjl
                  rw [List.getElem?_take] at hj
                  rw [if_pos (by omega)] at hj
                  obtain ⟨u, q1, q2, q3⟩ := a7 j d hj
                  refine ⟨u, ?_, q2, q3⟩
                  rw [List.getElem?_append_left (by omega), List.getElem?_take, if_pos (by omega)]
                  simpa using q1
                · rename_i hjl
                  obtain ⟨u, q1, q2⟩ := g2.get _ _ _ d hj
                  refine ⟨u, ?_, oneL hone q1, q2⟩
                  rw [List.getElem?_append_right (by omega), htk, ← htk2, List.getElem?_append_left (List.getElem?_eq_some_iff.1 q1).1]
                  exact q1)
              (fun j u hj => by
                rw [List.getElem?_toArray] at hj
                rcases List.mem_append.1 (List.mem_of_getElem? hj) with hh | hh
                · rcases List.mem_append.1 hh with hh | hh
                  · obtain ⟨k, hk⟩ := List.mem_iff_getElem?.1 (List.mem_of_mem_take hh)
                    exact a8 k u (by simpa using hk)
                  · exact hone u hh
                · exact hzs u hh)
            refine ⟨_, _, .view i.size E.st.length 0 0 (n + m), r1, hgrow ?_, c1, c2, ?_⟩
            · rw [hexact, ← hc3, Nat.zero_add]
              exact Nat.mul_lt_mul_of_pos_right hlt hpos
            · have := view_new E w' E.S E.w.heap.size (cur.toList.take (n * i.size) ++ vs ++ zs).toArray.size i.size (n + m) cap ⟨e, bx.cells.take (n * i.size) ++ ds, true, 0, true⟩ hc.len (by simpa using hcs.symm) (by omega) hcm
              simpa using this
        · exact h.elim
      · exact h.elim
    · exact h.elim
  · exact h.elim
theorem CellsP.of_get {w : World} {S : Nat → Prop} : ∀ (ps : List PD) (a : Addr), (∀ (j : Nat) (p : PD), ps[j]? = some p → ∃ u, w.cell? (a.add j) = some u ∧ u.oneCell' = true ∧ RepP w S p u) → CellsP w S ps a
  | [], _, _ => trivial
  | p :: ps, a, h => ⟨by simpa [Addr.add] using h 0 p rfl, CellsP.of_get ps (a.add 1) fun j p' hj => by
      have := h (j + 1) p' (by simpa using hj)
      rwa [add_add', Nat.add_comm 1 j]⟩
theorem RowsP.of_flat {w : World} {S : Nat → Prop} {sz : Nat} : ∀ (xs : List (List PD)) (a : Addr), (∀ x ∈ xs, x.length = sz) → CellsP w S xs.flatten a → RowsP w S sz xs a
  | [], _, _, _ => trivial
  | x :: xs, a, hl, h => by
      have hx := hl x (by simp)
      have hget : ∀ (j : Nat) (p : PD), (x ++ xs.flatten)[j]? = some p → _ := fun j p hj => CellsP.get _ _ (by simpa using h) j p hj
      refine ⟨hx, CellsP.of_get x a fun j p hj => hget j p (by rw [List.getElem?_append_left (List.getElem?_eq_some_iff.1 hj).1]; exact hj), RowsP.of_flat xs (a.add sz) (fun y hy => hl y (by simp [hy])) (CellsP.of_get _ _ fun j p hj => ?_)⟩
      have := hget (sz + j) p (by rw [List.getElem?_append_right (by omega)]; rw [hx, Nat.add_sub_cancel_left]; exact hj)
      rwa [add_add']
/-- A slice that is built and settled at once. -/
def buildSetD (P : Program) (t : TypeId) (len : Nat) (parts : List (Nat × DV)) (K : DV → Prop) : Prop :=
  match slD P t with
  | some (e, sz) => len * sz ≤ 100000 ∧ match zeroD P e with
    | some z => z.length = sz ∧ 0 < sz ∧ match fillD (fun i => some (i * sz, sz)) (List.replicate len z).flatten parts with
      | some cs => ∃ xs, cs = rowsD xs ∧ xs.length = len ∧ (∀ x ∈ xs, x.length = sz) ∧ K (.d (.slc sz xs))
      | none => False
    | none => False
  | none => False
theorem buildSet_ok {P : Program} {E : Env} (hc : Conc E) {t : TypeId} {len : Nat} {parts : List (Nat × DV)} {vparts : List (Nat × Value)} (hl : parts.length = vparts.length)
    (hp : ∀ (j : Nat) (p : Nat × DV) (q : Nat × Value), parts[j]? = some p → vparts[j]? = some q → p.1 = q.1 ∧ Rep E p.2 q.2) {K : DV → Store → Prop} (h : buildSetD P t len parts fun d => K d E.st) :
    Ends P E (Instr.buildSlice t len vparts.toArray) K := by
  unfold buildSetD at h
  split at h
  · rename_i e sz hs
    obtain ⟨hlim, h⟩ := h
    split at h
    · rename_i z hz
      obtain ⟨hzl, hpos, h⟩ := h
      split at h
      · rename_i cs hcs
        obtain ⟨xs, rfl, hxl, hxs, hk⟩ := h
        obtain ⟨vout, hrun, hsize, k2, k3⟩ := buildSlice_run (P := P) hl hp hs hlim hz hzl hpos hcs
        obtain ⟨c1, c2⟩ := newSet hc (.cells vout e) (E.w.alloc (.cells vout e)) rfl rfl rfl rfl
        refine ⟨.slice (some ⟨E.w.heap.size, 0, none⟩) len len, ⟨E.w.alloc (.cells vout e), fun g => E.S g ∨ g = E.w.heap.size, E.σ, E.st⟩, _, hrun, hk, c1, c2, ?_⟩
        have hr2 := Reps.ext hc c2 _ _ k2
        have hg : (E.w.alloc (.cells vout e)).heap[E.w.heap.size]? = some (.cells vout e (0, 0)) := heap_alloc_new _ _
        refine .inr ⟨⟨E.w.heap.size, 0, none⟩, len, by rw [hxl], by omega, ?_, fun _ => .inr rfl, ?_⟩
        · have : len * 1 ≤ len * sz := Nat.mul_le_mul_left _ hpos
          simp only [maxLen]; omega
        · refine RowsP.of_flat xs _ hxs (CellsP.of_get _ _ fun j p hj => ?_)
          obtain ⟨u, e1, e2⟩ := hr2.get _ _ j (.d p) (by rw [rowsD_get, hj]; rfl)
          refine ⟨u, ?_, oneL k3 e1, e2⟩
          have hadd : (⟨E.w.heap.size, 0, none⟩ : Addr).add j = ⟨E.w.heap.size, j, none⟩ := by unfold Addr.add; split <;> simp_all
          rw [hadd]
          simp only [World.cell?, hg]
          simpa using e1
      · exact h.elim
    · exact h.elim
  · exact h.elim
end Go.Proofs.Ytmjmbfcfnhnpmaa
