/- The program logic, eighth part: append, copy, texts as bytes, the lesser and the greater. No condition: lemmas of any program. -/
import Derived.Test.YtligainhbdidgaaAm7
namespace Go.Proofs.Ytligainhbdidgaa
open Go.RowKit
set_option linter.all false

def isStrD (P : Program) (t : TypeId) : Bool := match P.underlying t with
  | some .string => true
  | _ => false
/-- Rows of plain data as cells. -/
def rowsD (xs : List (List PD)) : List DV := xs.flatten.map .d
theorem rowsD_nil : rowsD [] = [] := rfl
theorem rowsD_append (xs ys : List (List PD)) : rowsD (xs ++ ys) = rowsD xs ++ rowsD ys := by simp only [rowsD, List.flatten_append, List.map_append]
theorem rowsD_one (x : List PD) : rowsD [x] = x.map .d := by simp only [rowsD, List.flatten_cons, List.flatten_nil, List.append_nil]
theorem rowsD_get (xs : List (List PD)) (j : Nat) : (rowsD xs)[j]? = xs.flatten[j]?.map .d := by simp only [rowsD, List.getElem?_map]
theorem isStrD_spec {P : Program} {t : TypeId} (h : isStrD P t = true) : P.underlying t = some .string := by
  unfold isStrD at h
  split at h
  · assumption
  · cases h
/-- What is appended: the cells, how many elements. -/
def srcD (P : Program) (st : Store) (sz : Nat) (t : TypeId) (x : DV) : Option (List DV × Nat) :=
  match x with
  | .d (.slc sz' xs) => if sz' = sz ∧ (slD P t).isSome = true then some (rowsD xs, xs.length) else none
  | .d (.sc (.slice none 0 0)) => if (slD P t).isSome = true then some ([], 0) else none
  | .d (.sc (.string s)) => if sz = 1 ∧ isStrD P t = true then some (rowsD (bytesP s.data.toList), s.size) else none
  | .view sz' b ver o n => match st[b]? with
    | some bx => if sz' = sz ∧ ver = bx.ver ∧ bx.live = true ∧ (slD P t).isSome = true ∧ o + n * sz ≤ bx.cells.length then some ((bx.cells.drop o).take (n * sz), n) else none
    | none => none
  | _ => none

/-- The values that are appended. -/
def srcVals (w : World) (sz : Nat) (v : Value) (n : Nat) (vs : List Value) : Prop :=
  vs.length = n * sz ∧ (∀ u ∈ vs, u.oneCell' = true) ∧
  ((∃ a c, v = .slice (some a) n c ∧ ∀ (j : Nat) (u : Value), vs[j]? = some u → w.cell? (a.add j) = some u) ∨ (v = .slice none 0 0 ∧ n = 0) ∨ (∃ s : ByteArray, v = .string s ∧ n = s.size ∧ sz = 1 ∧ vs = Go.Lib.strCells s))
theorem srcD_spec {P : Program} {E : Env} (hc : Conc E) {sz : Nat} {t : TypeId} {x : DV} {v : Value} (hx : Rep E x v) {ds : List DV} {n : Nat} (h : srcD P E.st sz t x = some (ds, n)) :
    ∃ vs, srcVals E.w sz v n vs ∧ Reps E ds vs ∧ ((∃ s, v = .string s ∧ P.underlying t = some .string) ∨ (∃ e, P.underlying t = some (.slice e) ∧ ∀ s, v ≠ .string s)) := by
  unfold srcD at h
  split at h
  · split at h
    · rename_i sz' xs hq
      cases h
      obtain ⟨rfl, hs⟩ := hq
      obtain ⟨e, hu⟩ := slD_some hs
      rcases hx with ⟨rfl, rfl⟩ | ⟨a, c, rfl, h1, h2, h3, h4⟩
      · exact ⟨[], ⟨by simp, by simp, .inr (.inl ⟨rfl, rfl⟩)⟩, trivial, .inr ⟨e, hu, fun s hs => by cases hs⟩⟩
      obtain ⟨f1, f2⟩ := RowsP.flat _ _ h4
      obtain ⟨vs, g1, g2, g3, g4⟩ := f1.vals
      exact ⟨vs, ⟨by rw [g1, f2], g2, .inl ⟨a, c, rfl, g3⟩⟩, Reps.of_cells g1 g4, .inr ⟨e, hu, fun s hs => by cases hs⟩⟩
    · cases h
  · split at h
    · rename_i hs
      cases h
      simp only [Rep, RepP] at hx; subst hx
      obtain ⟨e, hu⟩ := slD_some hs
      exact ⟨[], ⟨by simp, by simp, .inr (.inl ⟨rfl, rfl⟩)⟩, trivial, .inr ⟨e, hu, fun s hs => by cases hs⟩⟩
    · cases h
  · split at h
    · rename_i s hq
      cases h
      obtain ⟨rfl, hu⟩ := hq
      have hu := isStrD_spec hu
      simp only [Rep, RepP] at hx; subst hx
      refine ⟨Go.Lib.strCells s, ⟨by simp [Go.Lib.strCells_length], Go.Lib.strCells_oneCell s, .inr (.inr ⟨s, rfl, rfl, rfl, rfl⟩)⟩, ?_, .inl ⟨s, rfl, hu⟩⟩
      rw [rowsD, bytesP_flat]
      refine Reps.of_cells (by simp [Go.Lib.strCells]) fun j p v hp hv => ?_
      simp only [Go.Lib.strCells, List.getElem?_map] at hp hv
      cases hb : s.data.toList[j]? with
      | none => simp [hb] at hp
      | some b =>
        rw [hb] at hp hv
        simp only [Option.map_some, Option.some.injEq] at hp hv
        subst hp; subst hv
        rfl
    · cases h
  · split at h
    · rename_i sz' b ver o n bx hb'
      split at h
      · rename_i hq
        cases h
        obtain ⟨rfl, rfl, hl, hs, hfit⟩ := hq
        obtain ⟨bx', gz, hb, hg, hone, hle, hv⟩ := hx
        rw [hb] at hb'
        cases hb'
        obtain ⟨c, rfl, hc1, hc2, hc3⟩ := hv rfl
        obtain ⟨vs, g1, g2, g3, g4⟩ := hc.cells hb hg hl hfit
        obtain ⟨e, hu⟩ := slD_some hs
        exact ⟨vs, ⟨g1, g3, .inl ⟨_, c, rfl, g4⟩⟩, g2, .inr ⟨e, hu, fun s hs => by cases hs⟩⟩
      · cases h
    · cases h
  · cases h

/-- The kit's law on append, for slices and texts, with the place of the row. -/
theorem run_append_src {P : Program} (w : World) {t u ty e : TypeId} {i : TypeInfo} {z : Value} (ht : P.underlying t = some (.slice e)) (hi : P.info? e = some i) (hz : i.zero = some z) (hzs : z.cells.size = i.size) (hsz : 0 < i.size)
    {v : Value} {n : Nat} {xs : List Value} (hown : w.ownsRow 0 e i.size v n xs) {x : Value} {m : Nat} {news : List Value} (hsrc : srcVals w i.size x m news) (hty : (∃ s, x = .string s ∧ P.underlying u = some .string) ∨ (u = t ∧ ∀ s, x ≠ .string s))
    (h63 : n + m ≤ maxLen) (hbytes : (n + m) * i.bytes ≤ 140737488355328) :
    ∃ v' w', (Builtin.append_ #[t, u] ty #[v, x]).run P w = .ok v' w' ∧ w'.ownsRow 0 e i.size v' (n + m) (xs ++ news) ∧ w.grownBy w' v.ownBlock ∧
      (v' = .slice none 0 0 ↔ v = .slice none 0 0 ∧ m = 0) ∧ (v'.ownBlock = v.ownBlock ∨ v'.ownBlock = some w.heap.size) := by
  obtain ⟨hl, h1, hsrc⟩ := hsrc
  rcases hsrc with ⟨a, c, rfl, hcell⟩ | ⟨rfl, rfl⟩ | ⟨s, rfl, rfl, hs1, rfl⟩
  · rcases hty with ⟨s, hs, _⟩ | ⟨rfl, _⟩
    · cases hs
    · exact run_append_own_at (P := P) w 0 u ty e i z i.size i.bytes ht hi hz rfl rfl hzs hsz v n xs hown a m c news hl hcell h1 h63 hbytes (Nat.zero_le _)
  · rcases hty with ⟨s, hs, _⟩ | ⟨rfl, _⟩
    · cases hs
    · have hn : news = [] := List.eq_nil_of_length_eq_zero (by simpa using hl)
      subst hn
      refine ⟨v, w, ?_, by simpa using hown, ⟨rfl, rfl, rfl, Nat.le_refl _, fun _ _ _ => rfl⟩, by simp, .inl rfl⟩
      rcases hown.2 with ⟨rfl, rfl⟩ | ⟨g, cap, cur, rfl, _, _, hnc, _⟩
      · simp [Builtin.append_, run_underlying ht, sizeOf, typeInfo, hi, Builtin.lenOf, Builtin.firstCells]
      · simp [Builtin.append_, run_underlying ht, sizeOf, typeInfo, hi, Builtin.lenOf, Builtin.firstCells, hnc, storeCells]
  · rcases hty with ⟨s', hs, hu⟩ | ⟨_, hno⟩
    · cases hs
      have hsmall : n + s.size ≤ 9223372036854775807 := by simp only [maxLen] at h63; omega
      have hxl : xs.length = n * i.size := hown.1
      have hlen : (xs ++ Go.Lib.strCells s).length = (n + s.size) * i.size := by rw [List.length_append, hxl, Go.Lib.strCells_length, hs1]; omega
      have grown : ∀ (old : Nat), old < n + s.size → ∀ (row : Option Nat),
          (w.drew.alloc (.cells (xs.toArray ++ (Go.Lib.strCells s).toArray ++ Builtin.zeroCells z.cells (grownCap w (n + s.size) old e - (n + s.size))) e)).ownsRow 0 e i.size
            (.slice (some ⟨w.heap.size, 0, none⟩) (n + s.size) (grownCap w (n + s.size) old e)) (n + s.size) (xs ++ Go.Lib.strCells s) ∧
          w.grownBy (w.drew.alloc (.cells (xs.toArray ++ (Go.Lib.strCells s).toArray ++ Builtin.zeroCells z.cells (grownCap w (n + s.size) old e - (n + s.size))) e)) row := by
        intro old ho row
        have hge := grownCap_ge w (n + s.size) old e
        have hcm : grownCap w (n + s.size) old e ≤ maxLen := grownCap_le_maxLen w (n + s.size) old e h63
        refine ⟨⟨hlen, .inr ⟨w.heap.size, _, _, rfl, Nat.zero_le _, heap_alloc_new w.drew _, hge, hcm, ?_, ?_⟩⟩, ⟨rfl, rfl, rfl, by simp, fun k hk _ => heap_alloc_old w.drew _ hk⟩⟩
        · simp only [Array.size_append, List.size_toArray, size_zeroCells, hzs, hxl, Go.Lib.strCells_length, hs1]
          omega
        · simp only [Array.toList_append, List.append_assoc]
          rw [← List.append_assoc, ← hlen]
          exact List.take_left
      rcases hown.2 with ⟨rfl, rfl⟩ | ⟨g, cap, cur, rfl, hbg, hg, hnc, hcm, hcs, htake⟩
      · have hx : xs = [] := List.eq_nil_of_length_eq_zero (by simpa using hown.1)
        subst hx
        by_cases hm : s.size = 0
        · refine ⟨.slice none 0 0, w, ?_, ?_, ⟨rfl, rfl, rfl, Nat.le_refl _, fun _ _ _ => rfl⟩, by simp [hm], .inl rfl⟩
          · simp [Builtin.append_, run_underlying ht, run_underlying hu, sizeOf, typeInfo, hi, Builtin.lenOf, Builtin.firstCells, hm]
          · have : Go.Lib.strCells s = [] := List.eq_nil_of_length_eq_zero (by rw [Go.Lib.strCells_length, hm])
            simpa [hm, this] using World.ownsRow_nil w 0 e i.size
        · have hr := run_append_nil_string (P := P) w t u ty e i z ht hu hi hz s (by omega) (by omega) (by have hb := hbytes; simp only [Nat.zero_add] at hb; omega)
          have hgr := grown 0 (by omega) (Value.ownBlock (.slice none 0 0))
          simp only [Nat.zero_add, List.nil_append, Array.empty_append] at hgr ⊢
          refine ⟨_, _, ?_, hgr.1, hgr.2, by simp [hm], .inr rfl⟩
          rw [hr]
          congr 4
          apply Array.ext'
          simp [Go.Lib.strCells]
      · by_cases hroom : n + s.size ≤ cap
        · have hr := Go.Lib.run_append_room_string (P := P) w t u ty e i ht hu hi hs1 g n cap cur hg s hroom (by rw [hcs, hs1]; omega)
          refine ⟨_, _, hr, ⟨hlen, .inr ⟨g, cap, _, rfl, hbg, setRow_heap w g cur _ e _ hg, hroom, hcm, ?_, ?_⟩⟩, ⟨rfl, rfl, rfl, by simp, fun k _ hk => setRow_other w g k _ (fun e => hk (by simp [Value.ownBlock, e]))⟩, by simp, .inl rfl⟩
          · simp only [List.size_toArray, List.length_append, List.length_take, List.length_drop, Array.length_toList, Go.Lib.strCells_length]
            rw [hs1] at hcs ⊢
            omega
          · rw [hs1] at htake hlen ⊢
            simp only [Nat.mul_one] at htake hlen ⊢
            rw [htake, ← hlen]
            exact List.take_left
        · have holds : ∀ j u, xs[j]? = some u → w.cell? ((⟨g, 0, none⟩ : Addr).add j) = some u := hown.cells (g := g) rfl
          have hr := Go.Lib.run_append_grow_string (P := P) w t u ty e i z ht hu hi hz ⟨g, 0, none⟩ n cap xs hown.1 holds s (by omega) (by omega) (growslice_fits (by omega) hbytes)
          have hgr := grown cap (by omega) (Value.ownBlock (.slice (some ⟨g, 0, none⟩) n cap))
          exact ⟨_, _, hr, hgr.1, hgr.2, by simp, .inr rfl⟩
    · exact absurd rfl (hno s)

/-- append. -/
def appendD (P : Program) (st : Store) (t u : TypeId) (s x : DV) (K : DV → Store → Prop) : Prop :=
  match slD P t with
  | some (e, sz) => match zeroD P e, P.info? e, srcD P st sz u x with
    | some z, some i, some (ds, m) => z.length = sz ∧ 0 < sz ∧ (isStrD P u = true ∨ u = t) ∧ match s with
      | .d (.sc (.slice none 0 0)) => (m ≤ 9007199254740992 ∧ m * i.bytes ≤ 140737488355328) ∧ (m = 0 → K nilS st) ∧ (0 < m → K (.view sz st.length 0 0 m) (st ++ [⟨e, ds, true, 0, true⟩]))
      | .view sz' b ver o n => match st[b]? with
        | some bx => (sz' = sz ∧ o = 0 ∧ ver = bx.ver ∧ bx.live = true ∧ bx.ty = e ∧ bx.cells.length = n * sz) ∧ (n + m ≤ 9007199254740992 ∧ (n + m) * i.bytes ≤ 140737488355328) ∧
            K (.view sz b (ver + 1) 0 (n + m)) (st.set b ⟨e, bx.cells ++ ds, true, ver + 1, true⟩)
        | none => False
      | _ => False
    | _, _, _ => False
  | none => False
theorem append_ok {P : Program} {E : Env} (hc : Conc E) {t u ty : TypeId} {s x : DV} {v vx : Value} (hs : Rep E s v) (hx : Rep E x vx) {K : DV → Store → Prop} (h : appendD P E.st t u s x K) :
    Ends P E (Builtin.append_ #[t, u] ty #[v, vx]) K := by
  unfold appendD at h
  split at h
  · rename_i e sz hsl
    split at h
    · rename_i z i ds m hz hi hsrc
      obtain ⟨hzl, hpos, htu, h⟩ := h
      obtain ⟨zv, i', e1, e2, e3, e4, e5, rfl⟩ := zeroD_spec hz
      rw [hi] at e1
      cases e1
      obtain ⟨hu, ⟨i2, hi2, hisz⟩, hsz⟩ := slD_spec hsl
      rw [hi] at hi2
      cases hi2
      subst hisz
      obtain ⟨vs, g1, g2, g3⟩ := srcD_spec hc hx hsrc
      have hty : (∃ s, vx = .string s ∧ P.underlying u = some .string) ∨ (u = t ∧ ∀ s, vx ≠ .string s) := by
        rcases g3 with g3 | ⟨e', g3, g4⟩
        · exact .inl g3
        · refine .inr ⟨?_, g4⟩
          rcases htu with htu | htu
          · rw [isStrD_spec htu] at g3; cases g3
          · exact htu
      have hone := g1.2.1
      have hlen := g2.length
      have hvl := g1.1
      have cells_of : ∀ (cur : Array Value) (cap : Nat) (xs : List Value) (n : Nat), cur.size = cap * i.size → n ≤ cap → cur.toList.take (n * i.size) = xs → xs.length = n * i.size → ∀ (j : Nat) (u : Value), xs[j]? = some u → cur[j]? = some u := by
        intro cur cap xs n _ _ h3 h4 j u hj
        rw [← h3] at hj
        rw [List.getElem?_take] at hj
        split at hj
        · simpa using hj
        · cases hj
      split at h
      · obtain ⟨⟨hm1, hm2⟩, h0, h1⟩ := h
        simp only [Rep, RepP] at hs; subst hs
        obtain ⟨v', w', r1, r2, r3, r4, r5⟩ := run_append_src (P := P) E.w hu hi e2 e3 hpos (World.ownsRow_nil E.w 0 e i.size) g1 hty (by simp only [maxLen]; omega) (by simpa using hm2)
        by_cases hm : m = 0
        · have hv := r4.2 ⟨rfl, hm⟩
          subst hv
          obtain ⟨c1, c2⟩ := newNone hc w' r3.size (fun k hk => r3.block k hk (by simp [Value.ownBlock])) r3.os r3.tape r3.output
          exact ⟨.slice none 0 0, ⟨w', E.S, E.σ, E.st⟩, nilS, r1, h0 hm, c1, c2, rfl⟩
        · rcases r2.2 with ⟨rfl, hn⟩ | ⟨g, cap, cur, rfl, _, hg, hnc, hcm, hcs, htake⟩
          · omega
          · simp only [Nat.zero_add, List.nil_append] at hnc htake
            have hgw : g = E.w.heap.size := by
              rcases r5 with r5 | r5
              · simp [Value.ownBlock] at r5
              · simpa [Value.ownBlock] using r5
            subst hgw
            have hcells := cells_of cur cap vs m hcs (by omega) htake hvl
            have hmono : m * i.size ≤ cap * i.size := Nat.mul_le_mul_right _ (by omega)
            obtain ⟨c1, c2⟩ := newBoxAt hc w' E.w.heap.size (Nat.le_refl _) r3.size r3.os r3.tape r3.output (fun k hk => r3.block k hk (by simp [Value.ownBlock])) cur e ds true hg (by omega) (fun h => by cases h) trivial
              (fun j d hj => by
                obtain ⟨u, q1, q2⟩ := g2.get _ _ j d hj
                exact ⟨u, hcells j u q1, oneL hone q1, q2⟩) trivial
            refine ⟨_, _, .view i.size E.st.length 0 0 m, r1, h1 (by omega), c1, c2, ?_⟩
            have := view_new E w' E.S E.w.heap.size cur.size i.size m cap ⟨e, ds, true, 0, true⟩ hc.len hcs.symm (by omega) hcm
            simpa using this
      · rename_i sz' b ver o n
        split at h
        · rename_i bx hb'
          obtain ⟨⟨rfl, rfl, rfl, hl, hty', hcl⟩, ⟨hn1, hn2⟩, h⟩ := h
          obtain ⟨bx', gz, hb, hg, hone', hle, hv⟩ := hs
          rw [hb] at hb'
          cases hb'
          obtain ⟨c, rfl, hc1, hc2, hc3⟩ := hv rfl
          obtain ⟨cur, a1, a2, a3, a4, a5, a6, a7, a8⟩ := hc.box b bx gz.1 gz.2 hb hg hl
          have hown : E.w.ownsRow 0 e i.size (.slice (some ⟨gz.1, 0, none⟩) n c) n (cur.toList.take (n * i.size)) :=
            ⟨by simp; omega, .inr ⟨gz.1, c, cur, rfl, Nat.zero_le _, by rw [← hty']; exact a1, hc1, hc2, by omega, rfl⟩⟩
          obtain ⟨v', w', r1, r2, r3, r4, r5⟩ := run_append_src (P := P) E.w hu hi e2 e3 hpos hown g1 hty (by simp only [maxLen]; omega) hn2
          rcases r2.2 with ⟨rfl, hn⟩ | ⟨g, cap, cur2, rfl, _, hg2, hnc, hcm, hcs, htake⟩
          · have := r4.1 rfl
            simp at this
          · have hall := cells_of cur2 cap _ (n + m) hcs hnc htake (by rw [List.length_append, List.length_take, hvl, Nat.add_mul]; simp; omega)
            have hmono : (n + m) * i.size ≤ cap * i.size := Nat.mul_le_mul_right _ hnc
            have hpos' : g = gz.1 ∨ E.w.heap.size ≤ g := by
              rcases r5 with r5 | r5
              · exact .inl (by simpa [Value.ownBlock] using r5)
              · exact .inr (by simp [Value.ownBlock] at r5; omega)
            obtain ⟨c1, c2⟩ := turnBox hc hb hg w' g cur2.size cur2 ⟨e, bx.cells ++ ds, true, bx.ver + 1, true⟩ r3.size r3.os r3.tape r3.output (fun k hk hne => r3.block k hk (by simp [Value.ownBlock]; exact hne)) hl hg2 rfl (by simp) (fun h => by simp at h)
              hpos' (by simp only [List.length_append]; rw [hcl, hlen, hvl, ← Nat.add_mul, hcs]; exact hmono) (fun h => by cases h) trivial
              (fun j d hj => by
                simp only at hj
                rw [List.getElem?_append] at hj
                split at hj
                · rename_i hjl
                  obtain ⟨u, q1, q2, q3⟩ := a7 j d hj
                  refine ⟨u, hall j u ?_, q2, q3⟩
                  rw [List.getElem?_append_left (by simp; omega), List.getElem?_take, if_pos (by omega)]
                  simpa using q1
                · rename_i hjl
                  obtain ⟨u, q1, q2⟩ := g2.get _ _ _ d hj
                  refine ⟨u, hall j u ?_, oneL hone q1, q2⟩
                  rw [List.getElem?_append_right (by simp; omega)]
                  simp only [List.length_take, Array.length_toList]
                  rw [show min (n * i.size) cur.size = bx.cells.length by omega]
                  exact q1) trivial
            refine ⟨_, _, .view i.size b (bx.ver + 1) 0 (n + m), r1, h, c1, c2, ?_⟩
            exact ⟨⟨e, bx.cells ++ ds, true, bx.ver + 1, true⟩, (g, cur2.size), by simp [(List.getElem?_eq_some_iff.1 hb).1], by simp [(List.getElem?_eq_some_iff.1 hg).1], rfl, Nat.le_refl _, fun _ => ⟨cap, rfl, hnc, hcm, by simpa using hcs.symm⟩⟩
        · exact h.elim
      · exact h.elim
    · exact h.elim
  · exact h.elim
end Go.Proofs.Ytligainhbdidgaa
