/- The program logic, twenty-first part: memory and composites reckoned from data to data; all operations. No condition: lemmas of any program. -/
import Derived.Test.YtadnpgkddgbhkaaZX7
namespace Go.Proofs.Ytadnpgkddgbhkaa
open Go.RowKit
set_option linter.all false
def pickV (A : Ar) (c a b : DV) : RV :=
 match c, a, b with
 | .d (.sc (.bool t)), .d (.sc (.bool p)), .d (.sc (.bool q)) => some ([], .d (.sc (.bool (A.cond t p q))))
 | _, _, _ => none
theorem pickV_D {c a b : DV} {cs : List Prop} {d : DV} (h : pickV A0 c a b = some (cs, d)) {K : DV → Prop} (hk : K d) : pickD c a b K := by
 unfold pickV at h
 split at h
 ·cases h; exact hk
 ·cases h
theorem pickD_either {t : Bool} {a b : DV} {K : DV → Prop} (h : (t = true → K a) ∧ (t = false → K b)) : pickD (.d (.sc (.bool t))) a b K := by
 unfold pickD
 dsimp only
 split
 ·cases t
  ·exact h.2 rfl
  ·exact h.1 rfl
 ·exact h
def pickK (A : Ar) (c a b : DV) : RV :=
 match c with
 | .d (.sc (.bool t)) => (match a, b with
   | .d (.sc (.bool p)), .d (.sc (.bool q)) => some ([], .d (.sc (.bool (A.cond t p q))))
   | a, b => (match t with
     | true => some ([], a)
     | false => some ([], b)))
 | _ => none
theorem pickK_D {c a b : DV} {cs : List Prop} {d : DV} (h : pickK A0 c a b = some (cs, d)) {K : DV → Prop} (hk : K d) : pickD c a b K := by
 unfold pickK at h
 split at h
 ·rename_i t
  split at h
  ·cases h; exact hk
  ·refine pickD_either ?_
   cases t <;> dsimp only at h <;> cases h
   ·exact ⟨fun e => (by cases e), fun _ => hk⟩
   ·exact ⟨fun _ => hk, fun e => (by cases e)⟩
 ·cases h
def cellsV : DV → Option (List DV)
 | .agg cs => some cs
 | .d (.sc v) => bif v.oneCell' then some [.d (.sc v)] else none
 | .d (.slc sz xs) => some [.d (.slc sz xs)]
 | .ref b ver o => some [.ref b ver o]
 | .cref cs => some [.cref cs]
 | .view sz b ver o n => some [.view sz b ver o n]
 | .fn f cs => some [.fn f cs]
 | _ => none
theorem cellsV_D {x : DV} {ds : List DV} (h : cellsV x = some ds) : cellsD x = some ds := by
 unfold cellsV at h
 unfold cellsD
 split at h <;> try exact h
 ·rename_i v
  cases hh : v.oneCell'
  ·rw [hh] at h; cases h
  ·rw [hh] at h; simp only [hh, ↓reduceIte]; exact h
 ·cases h
def fillV (T : Unit → Tab) (t : Nat) (cells : List DV) : List (Nat × DV) → Option (List DV)
 | [] => some cells
 | (i, x) :: rest => match (T ()).place t i, cellsV x with
   | some (off, size), some ds => bif (ds.length == size) && decide ((off + size) ≤ cells.length) then fillV T t (splice cells off ds) rest else none
   | _, _ => none
theorem fillV_D {P : Program} {T : Unit → Tab} (hT : TabOk P (T ())) {t : Nat} : ∀ (parts : List (Nat × DV)) (cells cs : List DV), fillV T t cells parts = some cs → fillD (placeD P t) cells parts = some cs
 | [], _, _, h => h
 | (i, x) :: rest, cells, cs, h => by
     unfold fillV at h
     unfold fillD
     split at h
     ·rename_i off size ds hp hx
      simp only [hT.place _ _ _ hp, cellsV_D hx]
      cases hh : ((ds.length == size) && decide ((off + size) ≤ cells.length))
      ·rw [hh] at h; cases h
      ·rw [hh] at h
       simp only [Bool.and_eq_true, decide_eq_true_eq] at hh
       rw [if_pos ⟨eqb hh.1, hh.2⟩]
       exact fillV_D hT rest _ cs h
     ·cases h
def fillS (sz : Nat) (cells : List DV) : List (Nat × DV) → Option (List DV)
 | [] => some cells
 | (i, x) :: rest => match cellsV x with
   | some ds => bif (ds.length == sz) && decide ((i * sz + sz) ≤ cells.length) then fillS sz (splice cells (i * sz) ds) rest else none
   | _ => none
theorem fillS_D {sz : Nat} : ∀ (parts : List (Nat × DV)) (cells cs : List DV), fillS sz cells parts = some cs → fillD (fun i => some (i * sz, sz)) cells parts = some cs
 | [], _, _, h => h
 | (i, x) :: rest, cells, cs, h => by
     unfold fillS at h
     unfold fillD
     split at h
     ·rename_i ds hx
      simp only [cellsV_D hx]
      cases hh : ((ds.length == sz) && decide ((i * sz + sz) ≤ cells.length))
      ·rw [hh] at h; cases h
      ·rw [hh] at h
       simp only [Bool.and_eq_true, decide_eq_true_eq] at hh
       rw [if_pos ⟨eqb hh.1, hh.2⟩]
       exact fillS_D rest _ cs h
     ·cases h
abbrev SV := Option (List Prop × DV × Store)
def pureV (st : Store) : RV → SV
 | some (cs, d) => some (cs, d, st)
 | none => none
theorem pureV_some {st st' : Store} {r : RV} {cs : List Prop} {d : DV} (h : pureV st r = some (cs, d, st')) : st' = st ∧ r = some (cs, d) := by
 unfold pureV at h
 split at h
 ·cases h; exact ⟨rfl, rfl⟩
 ·cases h
def boxV (st : Store) (t : Nat) (x : DV) : SV :=
 match cellsV x with
 | some ds => bif decide (ds.length ≤ 1000000) then some ([], .ref st.length 0 0, st ++ [⟨t, ds, false, 0, true⟩]) else none
 | none => none
def boxS (A : Ar) (st : Store) (t : Nat) (x : DV) : SV :=
 match cellsV x with
 | some ds => some ([A.sml ds], .ref st.length 0 0, st ++ [⟨t, ds, false, 0, true⟩])
 | none => none
def allocV (T : Unit → Tab) (st : Store) (t : Nat) : SV :=
 match (T ()).zero t with
 | some ds => some ([], .ref st.length 0 0, st ++ [⟨t, ds, false, 0, true⟩])
 | none => none
def storeV (T : Unit → Tab) (st : Store) (t : Nat) (a x : DV) : SV :=
 match (T ()).ty t, a, cellsV x with
 | some (sz, _), .ref b ver o, some ds => match st[b]? with
   | some bx => bif bx.live && (ver == bx.ver) && (ds.length == sz) && decide ((o + sz) ≤ bx.cells.length) then some ([], .d (.sc (.tuple #[])), st.set b ⟨bx.ty, splice bx.cells o ds, bx.ext, bx.ver, bx.live⟩) else none
   | none => none
 | _, _, _ => none
def buildV (T : Unit → Tab) (t : Nat) (parts : List (Nat × DV)) : RV :=
 match (T ()).bok t, (T ()).zero t with
 | true, some z => match fillV T t z parts with
   | some cs => some ([], .agg cs)
   | none => none
 | _, _ => none
def buildX (T : Unit → Tab) (A : Ar) (t : Nat) (parts : List (Nat × DV)) : RV :=
 match parts with
 | [(i, x)] => (match (T ()).bok t, (T ()).zero t, (T ()).place t i, cellsV x with
   | true, some z, some (off, size), some ds => bif (off + size == z.length) then some ([A.full ds size 1], .agg (z.take off ++ ds)) else none
   | _, _, _, _ => none)
 | [(j, y), (i, x)] => (match (T ()).bok t, (T ()).zero t, (T ()).place t i, cellsV x with
   | true, some z0, some (off, size), some ds => (match fillV T t z0 [(j, y)] with
     | some z => bif (off + size == z.length) then some ([A.full ds size 1], .agg (z.take off ++ ds)) else none
     | none => none)
   | _, _, _, _ => none)
 | _ => none
def buildSliceV (T : Unit → Tab) (st : Store) (t : Nat) (len : Nat) (parts : List (Nat × DV)) : SV :=
 match (T ()).sl t with
 | some (e, sz) => match (T ()).zero e with
   | some z => bif decide ((len * sz) ≤ 100000) && (z.length == sz) && decide (0 < sz) then (match fillS sz (List.replicate len z).flatten parts with
     | some cs => some ([], .view sz st.length 0 0 len, st ++ [⟨e, cs, false, 0, true⟩])
     | none => none) else none
   | none => none
 | none => none
def boundV (dflt : Int) : Option DV → Option Int
 | none => some dflt
 | some (.d (.sc (.int _ i))) => some i
 | _ => none
theorem boundV_D {dflt : Int} {x : Option DV} {i : Int} (h : boundV dflt x = some i) : boundD dflt x = some i := by
 unfold boundV at h
 unfold boundD
 split at h
 ·exact h
 ·exact h
 ·cases h
def sliceV (T : Unit → Tab) (A : Ar) (st : Store) (t : Nat) (x : DV) (lo hi : Option DV) : RV :=
 match x with
 | .d (.sc (.string s)) => match (T ()).str t, boundV 0 lo, boundV (A.size s) hi with
   | true, some l, some h => some ([A.bnd l h (A.size s)], .d (.sc (.string (A.extract s l h))))
   | _, _, _ => none
 | .d (.slc sz xs) => match (T ()).sl t, boundV 0 lo, boundV (A.len xs) hi with
   | some (_, sz'), some l, some h => some ([sz' = sz, A.bnd l h (A.len xs)], .d (.slc sz (A.sub xs l h)))
   | _, _, _ => none
 | .view sz b ver o n => match (T ()).sl t, lo, boundV (A.int n) hi, st[b]? with
   | some (_, sz'), none, some h, some bx => some ([sz' = sz, A.same ver bx.ver, A.bnd 0 h (A.int n)], .view sz b ver o (A.nat h))
   | _, _, _, _ => none
 | _ => none
def storeS (T : Unit → Tab) (A : Ar) (st : Store) (t : Nat) (a x : DV) : SV :=
 match (T ()).ty t, a, cellsV x with
 | some (sz, _), .ref b ver o, some ds => match st[b]? with
   | some bx => bif bx.live && (ds.length == sz) then some ([A.same ver bx.ver, A.fits bx.cells o sz], .d (.sc (.tuple #[])), st.set b ⟨bx.ty, A.spl bx.cells o ds, bx.ext, bx.ver, bx.live⟩) else none
   | none => none
 | _, _, _ => none
def storeX (T : Unit → Tab) (A : Ar) (st : Store) (t : Nat) (a x : DV) : SV :=
 match (T ()).ty t, a, cellsV x with
 | some (sz, _), .ref b ver o, some ds => match st[b]? with
   | some bx => bif bx.live then (match (T ()).sym 5004 with
     | true => some ([A.same ver bx.ver, A.full bx.cells (o + sz) 1, A.full ds sz 1], .d (.sc (.tuple #[])), st.set b ⟨bx.ty, bx.cells.take o ++ ds, bx.ext, bx.ver, bx.live⟩)
     | false => some ([A.same ver bx.ver, A.fits bx.cells o sz, A.full ds sz 1], .d (.sc (.tuple #[])), st.set b ⟨bx.ty, A.spl bx.cells o ds, bx.ext, bx.ver, bx.live⟩)) else none
   | none => none
 | _, _, _ => none
def makeV (T : Unit → Tab) (A : Ar) (st : Store) (t : Nat) (l c : DV) : SV :=
 match (T ()).sl t, l, c with
 | some (e, sz), .d (.sc (.int _ l)), .d (.sc (.int _ c)) => match (T ()).zero e, (T ()).by8 e with
   | some z, some by8 => bif (z.length == sz) && decide (0 < sz) then some ([A.mkok l c by8 sz], .view sz st.length 0 0 (A.nat l), st ++ [⟨e, A.rep l z, A.ext l c, 0, true⟩]) else none
   | _, _ => none
 | _, _, _ => none
def srcV (T : Unit → Tab) (A : Ar) (st : Store) (sz : Nat) (t : Nat) (x : DV) : Option (List Prop × List DV × Nat) :=
 match x with
 | .d (.slc sz' xs) => (match (T ()).sl t with
   | some _ => bif (sz' == sz) then some ([], A.rows xs, A.lenN xs) else none
   | none => none)
 | .d (.sc (.slice none 0 0)) => (match (T ()).sl t with
   | some _ => some ([], [], 0)
   | none => none)
 | .d (.sc (.string s)) => bif (sz == 1) && (T ()).str t then some ([], A.byts s, A.sizeN s) else none
 | .view sz' b ver o n => match (T ()).sl t, st[b]? with
   | some _, some bx => bif (sz' == sz) && bx.live then some ([A.same ver bx.ver, A.fitv bx.cells o n sz], A.tk bx.cells o n sz, n) else none
   | _, _ => none
 | _ => none
def copyV (T : Unit → Tab) (A : Ar) (st : Store) (t u : Nat) (dst src : DV) : SV :=
 match (T ()).sl t, (T ()).sl u, dst with
 | some (_, sz), some _, .view sz' b ver o n => (match st[b]?, srcV T A st sz u src with
   | some bx, some (cs, ds, m) => bif (sz' == sz) && bx.live then some (cs ++ [A.same ver bx.ver, A.bnd 0 (A.int m) (A.int n), A.fitc bx.cells o ds], .d (.sc (.int .i64 (A.int m))), st.set b ⟨bx.ty, A.spl bx.cells o ds, bx.ext, bx.ver, bx.live⟩) else none
   | _, _ => none)
 | _, _, _ => none
def appendV (T : Unit → Tab) (A : Ar) (st : Store) (t u : Nat) (s x : DV) : SV :=
 match (T ()).sl t with
 | some (e, sz) => match (T ()).zero e, (T ()).by8 e, srcV T A st sz u x with
   | some z, some by8, some (cs, ds, m) => bif (z.length == sz) && decide (0 < sz) && ((T ()).str u || (u == t)) then (match s with
     | .d (.sc (.slice none 0 0)) => (match x with
       | .view _ _ _ _ _ => some (cs ++ [A.pos m, A.isl 0 m by8], .view sz st.length 0 0 m, st ++ [⟨e, ds, true, 0, true⟩])
       | .d (.slc _ _) => bif (T ()).sym 5006 then some (cs ++ [A.pos m, A.isl 0 m by8], .view sz st.length 0 0 m, st ++ [⟨e, ds, true, 0, true⟩]) else none
       | _ => none)
     | .view sz' b ver o n => (match st[b]? with
       | some bx => bif (sz' == sz) && (o == 0) && bx.live && (bx.ty == e) then some (cs ++ [A.same ver bx.ver, A.full bx.cells n sz, A.isl n m by8], .view sz b (A.nxt ver) 0 (A.pl n m), st.set b ⟨e, A.app bx.cells ds, true, A.nxt ver, true⟩) else none
       | none => none)
     | _ => none) else none
   | _, _, _ => none
 | none => none
def capV (T : Unit → Tab) (A : Ar) (st : Store) (t : Nat) (x : DV) : RV :=
 match x with
 | .d (.sc (.slice none 0 0)) => (match (T ()).sl t with
   | some _ => some ([], .d (.sc (.int .i64 0)))
   | none => none)
 | .view sz b ver o _ => (match (T ()).sl t, st[b]? with
   | some _, some bx => bif bx.live && !bx.ext && decide (0 < sz) then some ([A.same ver bx.ver], .d (.sc (.int .i64 (A.capn bx.cells o sz)))) else none
   | _, _ => none)
 | _ => none
def slice2V (T : Unit → Tab) (A : Ar) (st : Store) (t : Nat) (x : DV) (lo hi : Option DV) : RV :=
 match x with
 | .view sz b ver o n => (match (T ()).sl t, boundV 0 lo, boundV (A.int n) hi, st[b]? with
   | some (_, sz'), some l, some h, some bx => bif bx.live && decide (0 < sz) && (sz' == sz) then some ([A.same ver bx.ver, A.sl2 bx.cells bx.ext o n sz l h], (match lo with
     | none => .view sz b ver o (A.nat h)
     | some _ => .view sz b ver (A.off o l sz) (A.df h l))) else none
   | _, _, _, _ => none)
 | _ => none
def slice0V (T : Unit → Tab) (A : Ar) (st : Store) (t : Nat) (x : DV) (lo : DV) : RV :=
 match x, lo with
 | .view sz b ver o n, .d (.sc (.int _ l)) => (match (T ()).sl t, st[b]? with
   | some (_, sz'), some bx => bif (sz' == sz) then some ([A.same ver bx.ver, l = A.int n, A.pos n], .d (.slc sz [])) else none
   | _, _ => none)
 | _, _ => none
def slice3V (T : Unit → Tab) (A : Ar) (st : Store) (t : Nat) (x : DV) (lo : Option DV) (hi mx : DV) : RV :=
 match x, hi, mx with
 | .view _ b ver _ n, .d (.sc (.int _ h)), .d (.sc (.int _ m)) => (match (T ()).sl t, boundV 0 lo, st[b]? with
   | some _, some l, some bx => some ([A.same ver bx.ver, A.ord3 l h m (A.int n)], .any)
   | _, _, _ => none)
 | _, _, _ => none
def copy2V (T : Unit → Tab) (A : Ar) (st : Store) (t u : Nat) (dst src : DV) : SV :=
 match (T ()).sl t, (T ()).sl u, dst with
 | some (_, sz), some _, .view sz' b ver o n => (match st[b]?, srcV T A st sz u src with
   | some bx, some (cs, ds, m) => bif (sz' == sz) && bx.live then some (cs ++ [A.same ver bx.ver, A.fitv bx.cells o (A.mn m n) sz], .d (.sc (.int .i64 (A.int (A.mn m n)))), st.set b ⟨bx.ty, A.spl bx.cells o (A.tk ds 0 (A.mn m n) sz), bx.ext, bx.ver, bx.live⟩) else none
   | _, _ => none)
 | _, _, _ => none
def append2V (T : Unit → Tab) (A : Ar) (st : Store) (t u : Nat) (s x : DV) : SV :=
 match (T ()).sl t with
 | some (e, sz) => match (T ()).zero e, (T ()).by8 e, srcV T A st sz u x with
   | some z, some by8, some (cs, ds, m) => bif (z.length == sz) && decide (0 < sz) && ((T ()).str u || (u == t)) then (match s with
     | .view sz' b ver o n => (match st[b]? with
       | some bx => bif (sz' == sz) && (o == 0) && bx.live && (bx.ty == e) && !bx.ext then some (cs ++ [A.same ver bx.ver, A.fitv bx.cells 0 n sz, A.fitv bx.cells 0 (A.pl n m) sz, A.isl n m by8], .view sz b ver 0 (A.pl n m), st.set b ⟨bx.ty, A.spl bx.cells (A.off 0 (A.int n) sz) ds, bx.ext, bx.ver, bx.live⟩) else none
       | none => none)
     | _ => none) else none
   | _, _, _ => none
 | none => none
def zerosV (T : Unit → Tab) (A : Ar) (st : Store) (t u : Nat) (s x : DV) : SV :=
 match (T ()).sl t, x, (T ()).ik u with
 | some (e, sz), .d (.sc (.int _ m)), some _ => match (T ()).zero e, (T ()).by8 e with
   | some z, some by8 => bif (z.length == sz) && decide (0 < sz) then (match s with
     | .d (.sc (.slice none 0 0)) => some ([A.nn m, A.pos (A.nat m), A.isl 0 (A.nat m) by8], .view sz st.length 0 0 (A.nat m), st ++ [⟨e, A.rep m z, true, 0, true⟩])
     | .view sz' b ver o n => (match st[b]? with
       | some bx => bif (sz' == sz) && (o == 0) && bx.live && (bx.ty == e) && !bx.ext then some ([A.nn m, A.same ver bx.ver, A.fitv bx.cells 0 n sz, A.over bx.cells (A.pl n (A.nat m)) sz, A.isl n (A.nat m) by8], .view sz st.length 0 0 (A.pl n (A.nat m)), st ++ [⟨e, A.app (A.tk bx.cells 0 n sz) (A.rep m z), true, 0, true⟩]) else none
       | none => none)
     | _ => none) else none
   | _, _ => none
 | _, _, _ => none
def clearV (T : Unit → Tab) (A : Ar) (st : Store) (t : Nat) (x : DV) : SV :=
 match (T ()).sl t with
 | some (e, sz) => match (T ()).zero e, x with
   | some z, .view sz' b ver o n => (match st[b]? with
     | some bx => bif (sz' == sz) && (z.length == sz) && decide (0 < sz) && bx.live then some ([A.same ver bx.ver, A.fitv bx.cells o n sz], .d (.sc (.tuple #[])), st.set b ⟨bx.ty, A.spl bx.cells o (A.rep (A.int n) z), bx.ext, bx.ver, bx.live⟩) else none
     | none => none)
   | some _, .d (.slc _ []) => some ([], .d (.sc (.tuple #[])), st)
   | _, _ => none
 | none => none
theorem appP : ∀ (l r : List Prop), allP (l ++ r) True → allP l True ∧ allP r True := by
 intro l r
 induction l with
 | nil => exact fun h => ⟨trivial, h⟩
 | cons c l ih => exact fun h => ⟨⟨h.1, (ih h.2).1⟩, (ih h.2).2⟩
section
variable {P : Program} {T : Unit → Tab} (hT : TabOk P (T ())) {st st' : Store} {t : Nat} {cs : List Prop} {d : DV}
theorem boxV_D {x : DV} (h : boxV st t x = some (cs, d, st')) {K : DV → Store → Prop} (hk : K d st') : boxD st t x K := by
 unfold boxV at h
 unfold boxD
 split at h
 ·rename_i ds hx
  simp only [cellsV_D hx]
  cases hh : decide (ds.length ≤ 1000000)
  ·rw [hh] at h; cases h
  ·rw [hh] at h; cases h
   exact ⟨of_decide_eq_true hh, hk⟩
 ·cases h
theorem boxS_D {x : DV} (h : boxS A0 st t x = some (cs, d, st')) (hc : allP cs True) {K : DV → Store → Prop} (hk : K d st') : boxD st t x K := by
 unfold boxS at h
 unfold boxD
 split at h
 ·rename_i ds hx
  simp only [cellsV_D hx]
  cases h
  exact ⟨hc.1, hk⟩
 ·cases h
include hT
theorem allocV_D (h : allocV T st t = some (cs, d, st')) {K : DV → Store → Prop} (hk : K d st') : allocD P st t K := by
 unfold allocV at h
 unfold allocD
 split at h
 ·rename_i ds hx
  simp only [hT.zero _ _ hx]
  cases h
  exact hk
 ·cases h
theorem storeV_D {a x : DV} (h : storeV T st t a x = some (cs, d, st')) {K : DV → Store → Prop} (hk : K d st') : storeD P st t a x fun st' => K (.d (.sc undef)) st' := by
 unfold storeV at h
 unfold storeD
 split at h
 ·rename_i sz ag b ver o ds ht hx
  simp only [hT.ty _ _ ht, cellsV_D hx]
  split at h
  ·rename_i bx hb
   simp only [hb]
   cases hh : (bx.live && (ver == bx.ver) && (ds.length == sz) && decide ((o + sz) ≤ bx.cells.length))
   ·rw [hh] at h; cases h
   ·rw [hh] at h
    simp only [Bool.and_eq_true, decide_eq_true_eq] at hh
    cases h
    exact ⟨hh.1.1.1, eqb hh.1.1.2, eqb hh.1.2, hh.2, hk⟩
  ·cases h
 ·cases h
theorem buildV_D {parts : List (Nat × DV)} (h : buildV T t parts = some (cs, d)) {K : DV → Prop} (hk : K d) : buildD P t parts K := by
 unfold buildV at h
 unfold buildD
 split at h
 ·rename_i z hb hz
  refine ⟨hT.bok _ hb, ?_⟩
  simp only [hT.zero _ _ hz]
  split at h
  ·rename_i l hl
   simp only [fillV_D hT _ _ _ hl]
   cases h
   exact hk
  ·cases h
 ·cases h
theorem buildX_D {parts : List (Nat × DV)} (h : buildX T A0 t parts = some (cs, d)) (hc : allP cs True) {K : DV → Prop} (hk : K d) : buildD P t parts K := by
 unfold buildX at h
 unfold buildD
 split at h
 ·rename_i i x
  split at h
  ·rename_i z off size ds hb hz hp hx
   refine ⟨hT.bok _ hb, ?_⟩
   simp only [hT.zero _ _ hz]
   cases hh : (off + size == z.length)
   ·rw [hh] at h; cases h
   ·rw [hh] at h
    cases h
    have h1 : off + size = z.length := eqb hh
    have h2 : ds.length = size := by
     have := hc.1
     simpa [A0] using this
    have e : fillD (placeD P t) z [(i, x)] = some (z.take off ++ ds) := by
     unfold fillD
     simp only [hT.place _ _ _ hp, cellsV_D hx]
     rw [if_pos ⟨h2, by omega⟩]
     unfold fillD
     simp only [splice]
     rw [List.drop_eq_nil_of_le (by omega), List.append_nil]
    rw [e]
    exact hk
  ·cases h
 ·rename_i j y i x
  split at h
  ·rename_i z0 off size ds hb hz hp hx
   refine ⟨hT.bok _ hb, ?_⟩
   simp only [hT.zero _ _ hz]
   split at h
   ·rename_i z hf
    cases hh : (off + size == z.length)
    ·rw [hh] at h; cases h
    ·rw [hh] at h
     cases h
     have h1 : off + size = z.length := eqb hh
     have h2 : ds.length = size := by
      have := hc.1
      simpa [A0] using this
     have hf := fillV_D hT _ _ _ hf
     have e : fillD (placeD P t) z0 [(j, y), (i, x)] = some (z.take off ++ ds) := by
      unfold fillD at hf
      unfold fillD
      split at hf
      ·rename_i off' size' ds' hp' hx'
       try simp only [hp', hx']
       split at hf
       ·rename_i hs
        unfold fillD at hf
        cases hf
        rw [if_pos hs]
        unfold fillD
        simp only [hT.place _ _ _ hp, cellsV_D hx]
        rw [if_pos ⟨h2, by omega⟩]
        unfold fillD
        generalize splice z0 off' ds' = z at *
        simp only [splice]
        rw [List.drop_eq_nil_of_le (by omega), List.append_nil]
       ·cases hf
      ·cases hf
     rw [e]
     exact hk
   ·cases h
  ·cases h
 ·cases h
theorem buildSliceV_D {len : Nat} {parts : List (Nat × DV)} (h : buildSliceV T st t len parts = some (cs, d, st')) {K : DV → Store → Prop} (hk : K d st') : buildSliceD P st t len parts K := by
 unfold buildSliceV at h
 unfold buildSliceD
 split at h
 ·rename_i e sz ht
  simp only [hT.sl _ _ ht]
  split at h
  ·rename_i z hz
   simp only [hT.zero _ _ hz]
   cases hh : (decide ((len * sz) ≤ 100000) && (z.length == sz) && decide (0 < sz))
   ·rw [hh] at h; cases h
   ·rw [hh] at h
    simp only [Bool.and_eq_true, decide_eq_true_eq, decide_eq_true_eq] at hh
    simp only [cond_true] at h
    split at h
    ·rename_i l hl
     simp only [fillS_D _ _ _ hl]
     cases h
     exact ⟨hh.1.1, eqb hh.1.2, hh.2, hk⟩
    ·cases h
  ·cases h
 ·cases h
theorem sliceV_D {x : DV} {lo hi : Option DV} (h : sliceV T A0 st t x lo hi = some (cs, d)) (hc : allP cs True) {K : DV → Prop} (hk : K d) : sliceD P st t x lo hi K := by
 unfold sliceV at h
 unfold sliceD
 split at h
 ·split at h
  ·rename_i l hh h1 h2 h3
   cases h
   have h3' := boundV_D h3
   simp only [A0] at h3'
   simp only [boundV_D h2, h3']
   exact ⟨hT.str _ h1, hc.1, hk⟩
  ·cases h
 ·split at h
  ·rename_i e sz' l hh h1 h2 h3
   cases h
   have h3' := boundV_D h3
   simp only [A0] at h3'
   simp only [hT.sl _ _ h1, boundV_D h2, h3']
   exact ⟨hc.1, hc.2.1, hk⟩
  ·cases h
 ·split at h
  ·rename_i e sz' hh bx h1 h3 hb
   cases h
   have h3' := boundV_D h3
   simp only [A0] at h3'
   obtain ⟨c1, c2, c3, _⟩ := hc
   simp only [hT.sl _ _ h1, h3', hb, show boundD 0 none = some 0 from rfl]
   exact ⟨c1, c2, .inl ⟨c3, fun _ => hk, fun h0 => by omega, fun h0 => by omega⟩⟩
  ·cases h
 ·cases h
theorem storeS_D {a x : DV} (h : storeS T A0 st t a x = some (cs, d, st')) (hc : allP cs True) {K : DV → Store → Prop} (hk : K d st') : storeD P st t a x fun st' => K (.d (.sc undef)) st' := by
 unfold storeS at h
 unfold storeD
 split at h
 ·rename_i sz ag b ver o ds ht hx
  simp only [hT.ty _ _ ht, cellsV_D hx]
  split at h
  ·rename_i bx hb
   simp only [hb]
   cases hh : (bx.live && (ds.length == sz))
   ·rw [hh] at h; cases h
   ·rw [hh] at h
    simp only [Bool.and_eq_true] at hh
    cases h
    exact ⟨hh.1, hc.1, eqb hh.2, hc.2.1, hk⟩
  ·cases h
 ·cases h
theorem storeX_D {a x : DV} (h : storeX T A0 st t a x = some (cs, d, st')) (hc : allP cs True) {K : DV → Store → Prop} (hk : K d st') : storeD P st t a x fun st' => K (.d (.sc undef)) st' := by
 unfold storeX at h
 unfold storeD
 split at h
 ·rename_i sz ag b ver o ds ht hx
  simp only [hT.ty _ _ ht, cellsV_D hx]
  split at h
  ·rename_i bx hb
   simp only [hb]
   cases hh : bx.live
   ·rw [hh] at h; cases h
   ·rw [hh] at h
    simp only [cond_true] at h
    split at h
    ·cases h
     obtain ⟨h1, h2, h3, _⟩ := hc
     simp only [A0, Nat.mul_one] at h2 h3
     refine ⟨rfl, h1, h3, by omega, ?_⟩
     simp only [splice, h3]
     rw [List.drop_eq_nil_of_le (by omega), List.append_nil]
     exact hk
    ·cases h
     obtain ⟨h1, h2, h3, _⟩ := hc
     simp only [A0, Nat.mul_one] at h3
     exact ⟨rfl, h1, h3, h2, hk⟩
  ·cases h
 ·cases h
theorem makeV_D {l c : DV} (h : makeV T A0 st t l c = some (cs, d, st')) (hc : allP cs True) {K : DV → Store → Prop} (hk : K d st') : makeD P st t l c K := by
 unfold makeV at h
 unfold makeD
 split at h
 ·rename_i e sz k l k' c ht
  simp only [hT.sl _ _ ht, intOfD]
  split at h
  ·rename_i z by8 hz hb8
   obtain ⟨i, hi, rfl⟩ := hT.by8 _ _ hb8
   simp only [hT.zero _ _ hz, hi]
   cases hh : ((z.length == sz) && decide (0 < sz))
   ·rw [hh] at h; cases h
   ·rw [hh] at h
    simp only [Bool.and_eq_true, decide_eq_true_eq] at hh
    cases h
    refine ⟨eqb hh.1, hh.2, hc.1, fun e => ?_, fun e => ?_⟩
    ·have : A0.ext l c = false := by simp [A0, e]
     rw [this] at hk
     exact hk
    ·have : A0.ext l c = true := by simp [A0, e]
     rw [this] at hk
     exact hk
  ·cases h
 ·cases h
theorem srcV_D {sz : Nat} {x : DV} {ds : List DV} {m : Nat} (h : srcV T A0 st sz t x = some (cs, ds, m)) (hc : allP cs True) : srcD P st sz t x = some (ds, m) := by
 unfold srcV at h
 unfold srcD
 split at h
 ·rename_i sz' xs
  split at h
  ·rename_i q ht
   cases hh : (sz' == sz)
   ·rw [hh] at h; cases h
   ·rw [hh] at h
    cases h
    have hs : (slD P t).isSome = true := by rw [hT.sl _ _ ht]; rfl
    simp only [eqb hh, hs, and_self, ↓reduceIte, A0]
  ·cases h
 ·split at h
  ·rename_i q ht
   cases h
   simp only [hT.sl _ _ ht]
   rfl
  ·cases h
 ·rename_i s
  cases hh : ((sz == 1) && (T ()).str t)
  ·rw [hh] at h; cases h
  ·rw [hh] at h
   simp only [Bool.and_eq_true] at hh
   cases h
   have hs : isStrD P t = true := by simp only [isStrD, hT.str _ hh.2]
   simp only [eqb hh.1, hs, and_self, ↓reduceIte, A0]
 ·rename_i sz' b ver o n
  split at h
  ·rename_i q bx ht hb
   simp only [hb]
   cases hh : ((sz' == sz) && bx.live)
   ·rw [hh] at h; cases h
   ·rw [hh] at h
    simp only [Bool.and_eq_true] at hh
    cases h
    obtain ⟨c1, c2, _⟩ := hc
    rw [if_pos ⟨eqb hh.1, c1, hh.2, by rw [hT.sl _ _ ht]; rfl, c2⟩]
    rfl
  ·cases h
 ·cases h
theorem copyV_D {u : Nat} {s x : DV} (h : copyV T A0 st t u s x = some (cs, d, st')) (hc : allP cs True) {K : DV → Store → Prop} (hk : K d st') : copyD P st t u s x K := by
 unfold copyV at h
 unfold copyD
 have app : ∀ (l r : List Prop), allP (l ++ r) True → allP l True ∧ allP r True := by
  intro l r
  induction l with
  | nil => exact fun h => ⟨trivial, h⟩
  | cons c l ih => exact fun h => ⟨⟨h.1, (ih h.2).1⟩, (ih h.2).2⟩
 split at h
 ·rename_i e sz q sz' b ver o n ht hu
  simp only [hT.sl _ _ ht]
  split at h
  ·rename_i bx cs' ds m hb hs
   simp only [hb]
   cases hh : ((sz' == sz) && bx.live)
   ·rw [hh] at h; cases h
   ·rw [hh] at h
    simp only [Bool.and_eq_true] at hh
    simp only [cond_true] at h
    cases h
    obtain ⟨c1, c2, c3, c4, _⟩ := app _ _ hc
    simp only [srcV_D hT hs c1]
    have c3' : (0 : Int) ≤ 0 ∧ (0 : Int) ≤ (m : Int) ∧ (m : Int) ≤ (n : Int) := c3
    exact ⟨eqb hh.1, c2, hh.2, by rw [hT.sl _ _ hu]; rfl, .inl ⟨by omega, c4, hk⟩⟩
  ·cases h
 ·cases h
theorem appendV_D {u : Nat} {s x : DV} (h : appendV T A0 st t u s x = some (cs, d, st')) (hc : allP cs True) {K : DV → Store → Prop} (hk : K d st') : appendD P st t u s x K := by
 unfold appendV at h
 unfold appendD
 split at h
 ·rename_i e sz ht
  simp only [hT.sl _ _ ht]
  split at h
  ·rename_i z by8 cs' ds m hz hb8 hs
   obtain ⟨i, hi, rfl⟩ := hT.by8 _ _ hb8
   cases hh : ((z.length == sz) && decide (0 < sz) && ((T ()).str u || (u == t)))
   ·rw [hh] at h; cases h
   ·rw [hh] at h
    simp only [Bool.and_eq_true, decide_eq_true_eq, Bool.or_eq_true] at hh
    have hu : isStrD P u = true ∨ u = t := by
     rcases hh.2 with h1 | h1
     ·exact .inl (by simp only [isStrD, hT.str _ h1])
     ·exact .inr (eqb h1)
    have app : ∀ (l r : List Prop), allP (l ++ r) True → allP l True ∧ allP r True := by
     intro l r
     induction l with
     | nil => exact fun h => ⟨trivial, h⟩
     | cons c l ih => exact fun h => ⟨⟨h.1, (ih h.2).1⟩, (ih h.2).2⟩
    simp only [cond_true] at h
    split at h
    ·split at h
     case h_3 => cases h
     all_goals
      try (
       cases hf : (T ()).sym 5006
       ·rw [hf] at h; cases h
       rw [hf] at h
       simp only [cond_true] at h)
      cases h
      obtain ⟨c1, c2, c3, _⟩ := app _ _ hc
      simp only [hT.zero _ _ hz, hi, srcV_D hT hs c1]
      have c2' : 0 < m := c2
      have c3' : 0 + m ≤ 9007199254740992 ∧ (0 + m) * i.bytes ≤ 140737488355328 := c3
      rw [Nat.zero_add] at c3'
      exact ⟨eqb hh.1.1, hh.1.2, hu, c3', fun e => by omega, fun _ => hk⟩
    ·rename_i sz' b ver o n
     split at h
     ·rename_i bx hb
      cases hq : ((sz' == sz) && (o == 0) && bx.live && (bx.ty == e))
      ·rw [hq] at h; cases h
      ·rw [hq] at h
       simp only [Bool.and_eq_true] at hq
       cases h
       obtain ⟨c1, c2, c3, c4, _⟩ := app _ _ hc
       simp only [hT.zero _ _ hz, hi, srcV_D hT hs c1, hb]
       refine ⟨eqb hh.1.1, hh.1.2, hu, ⟨eqb hq.1.1.1, eqb hq.1.1.2, c2, hq.1.2, eqb hq.2, c3⟩, c4, ?_⟩
       exact hk
     ·cases h
    ·cases h
  ·cases h
 ·cases h
theorem capV_D {x : DV} (h : capV T A0 st t x = some (cs, d)) (hc : allP cs True) {K : DV → Prop} (hk : K d) : capD P st t x K := by
 unfold capV at h
 unfold capD
 split at h
 ·split at h
  ·rename_i ht
   cases h
   exact ⟨by rw [hT.sl _ _ ht]; rfl, hk⟩
  ·cases h
 ·rename_i sz b ver o n
  split at h
  ·rename_i q bx ht hb
   simp only [hb]
   cases hh : (bx.live && !bx.ext && decide (0 < sz))
   ·rw [hh] at h; cases h
   ·rw [hh] at h
    simp only [Bool.and_eq_true, decide_eq_true_eq, Bool.not_eq_true'] at hh
    cases h
    exact ⟨hc.1, hh.1.1, hh.1.2, hh.2, by rw [hT.sl _ _ ht]; rfl, hk⟩
  ·cases h
 ·cases h
theorem slice2V_D {x : DV} {lo hi : Option DV} (h : slice2V T A0 st t x lo hi = some (cs, d)) (hc : allP cs True) {K : DV → Prop} (hk : K d) : sliceD P st t x lo hi K := by
 unfold slice2V at h
 unfold sliceD
 split at h
 ·rename_i sz b ver o n
  split at h
  ·rename_i e sz' l hh bx h1 h2 h3 hb
   have h3' := boundV_D h3
   simp only [A0] at h3'
   simp only [hT.sl _ _ h1, boundV_D h2, h3', hb]
   cases hq : (bx.live && decide (0 < sz) && (sz' == sz))
   ·rw [hq] at h; cases h
   ·rw [hq] at h
    simp only [Bool.and_eq_true, decide_eq_true_eq] at hq
    cases h
    obtain ⟨c1, c2, _⟩ := hc
    have c1' : ver = bx.ver := c1
    subst c1'
    refine ⟨eqb hq.2, rfl, .inr ⟨⟨c2.1.1, c2.1.2, hq.1.2, hq.1.1⟩, c2.2.1, c2.2.2, ?_⟩⟩
    cases lo with
    | none =>
      have hl : l = 0 := by simpa [boundV] using h2.symm
      subst hl
      simpa [A0] using hk
    | some d => exact hk
  ·cases h
 ·cases h
theorem slice0V_D {x lo : DV} (h : slice0V T A0 st t x lo = some (cs, d)) (hc : allP cs True) {K : DV → Prop} (hk : K d) : sliceD P st t x (some lo) none K := by
 unfold slice0V at h
 unfold sliceD
 split at h
 ·rename_i sz b ver o n kl l
  split at h
  ·rename_i e sz' bx h1 hb
   simp only [hT.sl _ _ h1, hb, boundD, intOfD]
   cases hq : (sz' == sz)
   ·rw [hq] at h; cases h
   ·rw [hq] at h
    cases h
    obtain ⟨c1, c2, c3, _⟩ := hc
    have c2' : l = (n : Int) := c2
    have c3' : 0 < n := c3
    exact ⟨eqb hq, c1, .inl ⟨⟨by omega, by omega, by omega⟩, fun e => by omega, fun _ _ => hk, fun _ e => by omega⟩⟩
  ·cases h
 ·cases h
theorem slice3V_D {x hi mx : DV} {lo : Option DV} (h : slice3V T A0 st t x lo hi mx = some (cs, d)) (hc : allP cs True) {K : DV → Prop} (hk : K d) : slice3D P st t x lo hi mx K := by
 unfold slice3V at h
 unfold slice3D
 split at h
 ·rename_i sz b ver o n kh hh km m
  split at h
  ·rename_i q l bx h1 h2 hb
   cases h
   simp only [hT.sl _ _ h1, boundV_D h2, hb, intOfD]
   exact ⟨hc.1, hc.2.1, hk⟩
  ·cases h
 ·cases h
theorem copy2V_D {u : Nat} {dst src : DV} (h : copy2V T A0 st t u dst src = some (cs, d, st')) (hc : allP cs True) {K : DV → Store → Prop} (hk : K d st') : copyD P st t u dst src K := by
 unfold copy2V at h
 unfold copyD
 split at h
 ·rename_i e sz q sz' b ver o n ht hu
  simp only [hT.sl _ _ ht]
  split at h
  ·rename_i bx cs' ds m hb hs
   simp only [hb]
   cases hh : ((sz' == sz) && bx.live)
   ·rw [hh] at h; cases h
   ·rw [hh] at h
    simp only [Bool.and_eq_true] at hh
    simp only [cond_true] at h
    cases h
    obtain ⟨c1, c2, c3, _⟩ := appP _ _ hc
    simp only [srcV_D hT hs c1]
    refine ⟨eqb hh.1, c2, hh.2, by rw [hT.sl _ _ hu]; rfl, .inr ⟨c3, ?_⟩⟩
    have hk' : K (.d (.sc (.int .i64 (min m n : Nat)))) (st.set b ⟨bx.ty, splice bx.cells o ((ds.drop 0).take (min m n * sz)), bx.ext, bx.ver, bx.live⟩) := hk
    rw [List.drop_zero] at hk'
    exact hk'
  ·cases h
 ·cases h
theorem append2V_D {u : Nat} {s x : DV} (h : append2V T A0 st t u s x = some (cs, d, st')) (hc : allP cs True) {K : DV → Store → Prop} (hk : K d st') : append2D P st t u s x K := by
 unfold append2V at h
 unfold append2D
 split at h
 ·rename_i e sz ht
  simp only [hT.sl _ _ ht]
  split at h
  ·rename_i z by8 cs' ds m hz hb8 hs
   obtain ⟨i, hi, rfl⟩ := hT.by8 _ _ hb8
   cases hh : ((z.length == sz) && decide (0 < sz) && ((T ()).str u || (u == t)))
   ·rw [hh] at h; cases h
   ·rw [hh] at h
    simp only [Bool.and_eq_true, decide_eq_true_eq, Bool.or_eq_true] at hh
    have hu : isStrD P u = true ∨ u = t := by
     rcases hh.2 with h1 | h1
     ·exact .inl (by simp only [isStrD, hT.str _ h1])
     ·exact .inr (eqb h1)
    simp only [cond_true] at h
    split at h
    ·rename_i sz' b ver o n
     split at h
     ·rename_i bx hb
      cases hq : ((sz' == sz) && (o == 0) && bx.live && (bx.ty == e) && !bx.ext)
      ·rw [hq] at h; cases h
      ·rw [hq] at h
       simp only [Bool.and_eq_true, Bool.not_eq_true'] at hq
       cases h
       obtain ⟨c1, c2, c3, c4, c5, _⟩ := appP _ _ hc
       simp only [hT.zero _ _ hz, hi, srcV_D hT hs c1, hb]
       have c3' : 0 + n * sz ≤ bx.cells.length := c3
       have c4' : 0 + (n + m) * sz ≤ bx.cells.length := c4
       refine ⟨eqb hh.1.1, hh.1.2, hu, ⟨eqb hq.1.1.1.1, eqb hq.1.1.1.2, c2, hq.1.1.2, eqb hq.1.2, hq.2, by omega⟩, c5, fun _ => ?_, fun e => by omega⟩
       have hk' : K (.view sz b ver 0 (n + m)) (st.set b ⟨bx.ty, splice bx.cells (0 + (n : Int).toNat * sz) ds, bx.ext, bx.ver, bx.live⟩) := hk
       rw [Nat.zero_add, Int.toNat_natCast] at hk'
       exact hk'
     ·cases h
    ·cases h
  ·cases h
 ·cases h
theorem zerosV_D {u : Nat} {s x : DV} (h : zerosV T A0 st t u s x = some (cs, d, st')) (hc : allP cs True) {K : DV → Store → Prop} (hk : K d st') : zerosD P st t u s x K := by
 unfold zerosV at h
 unfold zerosD
 split at h
 ·rename_i e sz km m kk ht hu
  simp only [hT.sl _ _ ht]
  have hint : isIntD P u = true := by simp only [isIntD, hT.ik _ _ hu]
  split at h
  ·rename_i z by8 hz hb8
   obtain ⟨i, hi, rfl⟩ := hT.by8 _ _ hb8
   simp only [hT.zero _ _ hz, hi]
   cases hh : ((z.length == sz) && decide (0 < sz))
   ·rw [hh] at h; cases h
   ·rw [hh] at h
    simp only [Bool.and_eq_true, decide_eq_true_eq] at hh
    simp only [cond_true] at h
    split at h
    ·cases h
     obtain ⟨c1, c2, c3, _⟩ := hc
     have c2' : 0 < m.toNat := c2
     have c3' : 0 + m.toNat ≤ 9007199254740992 ∧ (0 + m.toNat) * i.bytes ≤ 140737488355328 := c3
     rw [Nat.zero_add] at c3'
     exact ⟨eqb hh.1, hh.2, hint, c1, by omega, c3', hk⟩
    ·rename_i sz' b ver o n
     split at h
     ·rename_i bx hb
      cases hq : ((sz' == sz) && (o == 0) && bx.live && (bx.ty == e) && !bx.ext)
      ·rw [hq] at h; cases h
      ·rw [hq] at h
       simp only [Bool.and_eq_true, Bool.not_eq_true'] at hq
       cases h
       obtain ⟨c1, c2, c3, c4, c5, _⟩ := hc
       simp only [hb]
       have c3' : 0 + n * sz ≤ bx.cells.length := c3
       refine ⟨eqb hh.1, hh.2, hint, c1, ⟨eqb hq.1.1.1.1, eqb hq.1.1.1.2, c2, hq.1.1.2, eqb hq.1.2, hq.2, by omega, c4⟩, c5, ?_⟩
       have hk' : K (.view sz st.length 0 0 (n + m.toNat)) (st ++ [⟨e, (bx.cells.drop 0).take (n * sz) ++ (List.replicate m.toNat z).flatten, true, 0, true⟩]) := hk
       rw [List.drop_zero] at hk'
       exact hk'
     ·cases h
    ·cases h
  ·cases h
 ·cases h
theorem clearV_D {x : DV} (h : clearV T A0 st t x = some (cs, d, st')) (hc : allP cs True) {K : DV → Store → Prop} (hk : K d st') : clearD P st t x K := by
 unfold clearV at h
 unfold clearD
 split at h
 ·rename_i e sz ht
  simp only [hT.sl _ _ ht]
  split at h
  ·rename_i z sz' b ver o n hz
   simp only [hT.zero _ _ hz]
   split at h
   ·rename_i bx hb
    simp only [hb]
    cases hh : ((sz' == sz) && (z.length == sz) && decide (0 < sz) && bx.live)
    ·rw [hh] at h; cases h
    ·rw [hh] at h
     simp only [Bool.and_eq_true, decide_eq_true_eq] at hh
     cases h
     exact ⟨eqb hh.1.1.1, eqb hh.1.1.2, hh.1.2, hc.1, hh.2, hc.2.1, hk⟩
   ·cases h
  ·rename_i z sz' hz
   simp only [hT.zero _ _ hz]
   cases h
   exact hk
  ·cases h
 ·cases h
end
end Go.Proofs.Ytadnpgkddgbhkaa
