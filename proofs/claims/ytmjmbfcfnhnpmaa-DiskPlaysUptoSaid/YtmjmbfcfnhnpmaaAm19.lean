/- The program logic, nineteenth part: operations reckoned from data to data, so that bodies can be evaluated by 'cbv'. No condition: lemmas of any program. -/
import Derived.Test.YtmjmbfcfnhnpmaaAm18
namespace Go.Proofs.Ytmjmbfcfnhnpmaa
open Go.RowKit
set_option linter.all false
theorem eqb {a b : Nat} (h : (a == b) = true) : a = b := by simpa using h
/-- What a cell holds. -/
inductive Kd where
  | int (k : IntKind)
  | bool
  | str
  | slc (sz : Nat)
  | oth
/-- What the evaluation wants to know of the types; which slots hold addresses that aren't reckoned out; at which regions it waits. -/
structure Tab where
  kds : Nat → Option (List Kd)
  sym : Nat → Bool
  pause : Nat → Bool
  ty : Nat → Option (Nat × Bool)
  zero : Nat → Option (List DV)
  fld : Nat → Nat → Option Nat
  fldV : Nat → Nat → Option (Nat × Nat)
  arr : Nat → Option (Nat × Nat × Nat)
  sl : Nat → Option (Nat × Nat)
  by8 : Nat → Option Nat
  str : Nat → Bool
  kinds : Nat → Option (List Nat)
  place : Nat → Nat → Option (Nat × Nat)
  bok : Nat → Bool
  bool : Nat → Bool
  ik : Nat → Option IntKind
  ptr : Nat → Bool
  body : Nat → Bool
structure TabOk (P : Program) (T : Tab) : Prop where
  ty : ∀ t x, T.ty t = some x → tyD P t = some x
  zero : ∀ t x, T.zero t = some x → zeroD P t = some x
  fld : ∀ t f x, T.fld t f = some x → fieldD P t f = some x
  fldV : ∀ t f x, T.fldV t f = some x → ∃ fs fl, P.underlying t = some (.struct fs) ∧ fs[f]? = some fl ∧ fl.type = x.1 ∧ fl.offset = x.2
  arr : ∀ t x, T.arr t = some x → arrD P t = some x
  sl : ∀ t x, T.sl t = some x → slD P t = some x
  by8 : ∀ t x, T.by8 t = some x → ∃ i, P.info? t = some i ∧ i.bytes = x
  str : ∀ t, T.str t = true → P.underlying t = some .string
  kinds : ∀ t x, T.kinds t = some x → P.eqGuardType P.depth t = false ∧ isAggD P t = true ∧ kindsT P 20 t = some x
  place : ∀ t i x, T.place t i = some x → placeD P t i = some x
  bok : ∀ t, T.bok t = true → buildOk P t = true
  bool : ∀ t, T.bool t = true → P.underlying t = some .bool
  ik : ∀ t k, T.ik t = some k → P.underlying t = some (.int k)
  ptr : ∀ t, T.ptr t = true → ∃ e, P.underlying t = some (.pointer e)
  body : ∀ f, T.body f = true → hasBody P f = true
def byteOf : List PD → UInt8
  | .sc (.int _ n) :: _ => UInt8.ofNat n.toNat
  | _ => 0
/-- The bytes that a row of cells holds. -/
def bytesOf (xs : List (List PD)) : List UInt8 := xs.map byteOf
theorem bytesOf_bytesP (bs : List UInt8) : bytesOf (bytesP bs) = bs := by
  induction bs with
  | nil => rfl
  | cons b bs ih =>
    show byteOf [.sc (.int .u8 b.toNat)] :: bytesOf (bytesP bs) = b :: bs
    rw [ih]
    simp [byteOf]
/-- What is not reckoned on, but named. -/
structure Ar where
  bstr : List (List PD) → ByteArray
  isby : List (List PD) → Prop
  fitc : List DV → Nat → List DV → Prop
  bin : BinOp → IntKind → Int → Int → Int
  cmp : BinOp → Int → Int → Bool
  cat : ByteArray → ByteArray → ByteArray
  scmp : BinOp → ByteArray → ByteArray → Bool
  wrap : IntKind → Int → Int
  un : UnOp → IntKind → Int → Int
  mm : Bool → Int → Int → Int
  smm : Bool → ByteArray → ByteArray → ByteArray
  cond : Bool → Bool → Bool → Bool
  not : Bool → Bool
  and : Bool → Bool → Bool
  beq : Bool → Bool → Bool
  size : ByteArray → Int
  extract : ByteArray → Int → Int → ByteArray
  len : List (List PD) → Int
  sub : List (List PD) → Int → Int → List (List PD)
  nz : Int → Prop
  nn : Int → Prop
  fit : ByteArray → ByteArray → Prop
  bnd : Int → Int → Int → Prop
  is : Bool → Bool → Bool
  imp : Bool → Bool → Prop
  gi : List DV → Nat → Int
  gb : List DV → Nat → Bool
  gs : List DV → Nat → ByteArray
  gl : List DV → Nat → List (List PD)
  gd : List DV → Nat → DV
  pl : Nat → Nat → Nat
  lift : List PD → List DV
  has : List DV → Nat → Nat → List DV → Prop
  off : Nat → Int → Nat → Nat
  inb : Int → Int → Prop
  row : List (List PD) → Int → List PD
  cdrop : List PD → Nat → List PD
  same : Nat → Nat → Prop
  fits : List DV → Nat → Nat → Prop
  spl : List DV → Nat → List DV → List DV
  ext : Int → Int → Bool
  rep : Int → List DV → List DV
  nat : Int → Nat
  mkok : Int → Int → Nat → Nat → Prop
  nxt : Nat → Nat
  app : List DV → List DV → List DV
  rows : List (List PD) → List DV
  byts : ByteArray → List DV
  byte : ByteArray → Int → Int
  lenN : List (List PD) → Nat
  sizeN : ByteArray → Nat
  isl : Nat → Nat → Nat → Prop
  tk : List DV → Nat → Nat → Nat → List DV
  fitv : List DV → Nat → Nat → Nat → Prop
  full : List DV → Nat → Nat → Prop
  pos : Nat → Prop
  int : Nat → Int
  imq : Bool → Prop → Prop
  lex : Array Oper → Prop
  trn : Array Oper → Prop
  sml : List DV → Prop
  capn : List DV → Nat → Nat → Int
  sl2 : List DV → Bool → Nat → Nat → Nat → Int → Int → Prop
  df : Int → Int → Nat
  mn : Nat → Nat → Nat
  over : List DV → Nat → Nat → Prop
  ord3 : Int → Int → Int → Int → Prop
def A0 : Ar where
  bstr xs := ⟨(bytesOf xs).toArray⟩
  isby xs := ∃ bs, xs = bytesP bs
  fitc cs o ds := o + ds.length ≤ cs.length
  bin op k a b := match op with
    | .add => k.wrap (a + b)
    | .sub => k.wrap (a - b)
    | .mul => k.wrap (a * b)
    | .quo => k.wrap (a.tdiv b)
    | .rem => a.tmod b
    | .and => bitsV k (· &&& ·) a b
    | .or => bitsV k (· ||| ·) a b
    | .xor => bitsV k (· ^^^ ·) a b
    | .shl => k.wrap (a * 2 ^ (min b.toNat k.bits))
    | .shr => a.fdiv (2 ^ (min b.toNat k.bits))
    | _ => 0
  cmp op a b := match op with
    | .eql => decide (a = b)
    | .neq => !decide (a = b)
    | .lss => decide (a < b)
    | .leq => decide (a ≤ b)
    | .gtr => decide (b < a)
    | .geq => decide (b ≤ a)
    | _ => false
  cat a b := a ++ b
  scmp op a b := match op with
    | .eql => decide (a = b)
    | .neq => !decide (a = b)
    | .lss => ltb a b
    | .leq => ltb a b || decide (a = b)
    | .gtr => !(ltb a b || decide (a = b))
    | .geq => !ltb a b
    | _ => false
  wrap k n := k.wrap n
  un op k n := match op with
    | .neg => k.wrap (0 - n)
    | .xor => bitsV k (· ^^^ ·) (if k.signed then -1 else k.max) n
    | _ => 0
  mm mx a b := if mx = true then max a b else min a b
  smm mx a b := if mx = true then (if ltb a b = true then b else a) else (if (ltb a b || decide (a = b)) = true then a else b)
  cond c a b := bif c then a else b
  not b := !b
  and a b := a && b
  beq a b := decide (a = b)
  size s := s.size
  extract s l h := s.extract l.toNat h.toNat
  len xs := xs.length
  sub xs l h := (xs.drop l.toNat).take (h.toNat - l.toNat)
  nz b := b ≠ 0
  nn b := 0 ≤ b
  fit a b := a.size + b.size ≤ maxLen
  bnd l h n := 0 ≤ l ∧ l ≤ h ∧ h ≤ n
  is t w := t == w
  imp a b := a = true → b = true
  gi cs o := match cs[o]? with
    | some (.d (.sc (.int _ n))) => n
    | _ => 0
  gb cs o := match cs[o]? with
    | some (.d (.sc (.bool b))) => b
    | _ => false
  gs cs o := match cs[o]? with
    | some (.d (.sc (.string s))) => s
    | _ => .empty
  gl cs o := match cs[o]? with
    | some (.d (.slc _ xs)) => xs
    | _ => []
  gd cs o := cs.getD o .any
  pl o j := o + j
  lift cs := cs.map .d
  has cs o sz ds := ds.length = sz ∧ o + sz ≤ cs.length ∧ (cs.drop o).take sz = ds
  off o i sz := o + i.toNat * sz
  inb i n := 0 ≤ i ∧ i < n
  row xs i := xs.getD i.toNat []
  cdrop cs o := cs.drop o
  same a b := a = b
  fits cs o sz := o + sz ≤ cs.length
  spl cs o ds := splice cs o ds
  ext l c := decide (l < c)
  rep l z := (List.replicate l.toNat z).flatten
  nat l := l.toNat
  mkok l c bytes sz := 0 ≤ l ∧ l ≤ c ∧ c ≤ 281474976710656 ∧ bytes * c ≤ 281474976710656 ∧ c * sz ≤ 9223372036854775807
  nxt v := v + 1
  app a b := a ++ b
  rows xs := rowsD xs
  byts s := rowsD (bytesP s.data.toList)
  byte s i := match s[i.toNat]? with
    | some b => b.toNat
    | none => 0
  lenN xs := xs.length
  sizeN s := s.size
  isl n m bytes := n + m ≤ 9007199254740992 ∧ (n + m) * bytes ≤ 140737488355328
  tk cs o n sz := (cs.drop o).take (n * sz)
  fitv cs o n sz := o + n * sz ≤ cs.length
  full cs n sz := cs.length = n * sz
  pos n := 0 < n
  int n := n
  imq w c := w = true → c
  lex ops := Region.lexB .any ops = true
  trn ops := turnsB ops = true
  sml ds := ds.length ≤ 1000000
  capn cs o sz := ((cs.length - o) / sz : Nat)
  sl2 cs ext o n sz l h := (0 ≤ l ∧ l ≤ h) ∧ (h ≤ n ∨ (ext = false ∧ o + h.toNat * sz ≤ cs.length)) ∧ (l = 0 ∨ l < n ∨ (ext = false ∧ o + l.toNat * sz < cs.length))
  df h l := h.toNat - l.toNat
  mn a b := min a b
  over cs n sz := cs.length < n * sz
  ord3 l h m n := 0 ≤ l ∧ l ≤ h ∧ h ≤ m ∧ m ≤ n
/-- What a reckoning gives: what is to be shown, and the value. -/
abbrev RV := Option (List Prop × DV)
def allP : List Prop → Prop → Prop
  | [], X => X
  | c :: cs, X => c ∧ allP cs X
theorem allP_iff : ∀ (cs : List Prop) (X : Prop), allP cs X ↔ allP cs True ∧ X
  | [], X => by simp [allP]
  | c :: cs, X => by simp only [allP]; rw [allP_iff cs X, and_assoc]
def loadV (T : Unit → Tab) (st : Store) (t : Nat) (a : DV) : RV :=
  match (T ()).ty t, a with
  | some (sz, true), .ref b ver o => match st[b]? with
    | some bx => bif bx.live && (ver == bx.ver) && decide ((o + sz) ≤ bx.cells.length) then some ([], .agg ((bx.cells.drop o).take sz)) else none
    | none => none
  | some (_, false), .ref b ver o => match st[b]? with
    | some bx => bif bx.live && (ver == bx.ver) then (match bx.cells[o]? with
      | some d => some ([], d)
      | none => none) else none
    | none => none
  | some (sz, true), .cref cs => bif decide (sz ≤ cs.length) then some ([], .agg ((cs.take sz).map .d)) else none
  | some (_, false), .cref cs => match cs[0]? with
    | some p => some ([], .d p)
    | none => none
  | _, _ => none
theorem loadV_D {P : Program} {T : Unit → Tab} (hT : TabOk P (T ())) {st : Store} {t : Nat} {a : DV} {cs : List Prop} {d : DV} (h : loadV T st t a = some (cs, d)) (hc : allP cs True) {K : DV → Prop} (hk : K d) : loadD P st t a K := by
  unfold loadV at h
  unfold loadD
  split at h
  · rename_i sz b ver o ht
    simp only [hT.ty _ _ ht]
    split at h
    · rename_i bx hb
      simp only [hb]
      cases hh : (bx.live && (ver == bx.ver) && decide ((o + sz) ≤ bx.cells.length))
      · rw [hh] at h; cases h
      · rw [hh] at h
        simp only [Bool.and_eq_true, decide_eq_true_eq] at hh
        cases h
        exact ⟨hh.1.1, eqb hh.1.2, hh.2, hk⟩
    · cases h
  · rename_i sz b ver o ht
    simp only [hT.ty _ _ ht]
    split at h
    · rename_i bx hb
      simp only [hb]
      cases hh : (bx.live && (ver == bx.ver))
      · rw [hh] at h; cases h
      · rw [hh] at h
        simp only [Bool.and_eq_true] at hh
        simp only [cond_true] at h
        split at h
        · rename_i d' hd
          simp only [hd]
          cases h
          exact ⟨hh.1, eqb hh.2, hk⟩
        · cases h
    · cases h
  · rename_i sz ds ht
    simp only [hT.ty _ _ ht]
    cases hh : decide (sz ≤ ds.length)
    · rw [hh] at h; cases h
    · rw [hh] at h
      cases h
      exact ⟨of_decide_eq_true hh, hk⟩
  · rename_i sz ds ht
    simp only [hT.ty _ _ ht]
    split at h
    · rename_i p hp
      simp only [hp]
      cases h
      exact hk
    · cases h
  · cases h
def fieldAddrV (T : Unit → Tab) (st : Store) (t : Nat) (a : DV) (f : Nat) : RV :=
  match (T ()).fld t f, a with
  | some off, .ref b ver o => match st[b]? with
    | some bx => bif (ver == bx.ver) then some ([], .ref b ver (o + off)) else none
    | none => none
  | some off, .cref cs => some ([], .cref (cs.drop off))
  | _, _ => none
theorem fieldAddrV_D {P : Program} {T : Unit → Tab} (hT : TabOk P (T ())) {st : Store} {t f : Nat} {a : DV} {cs : List Prop} {d : DV} (h : fieldAddrV T st t a f = some (cs, d)) (hc : allP cs True) {K : DV → Prop} (hk : K d) : fieldAddrD P st t a f K := by
  unfold fieldAddrV at h
  unfold fieldAddrD
  split at h
  · rename_i off b ver o ht
    simp only [hT.fld _ _ _ ht]
    split at h
    · rename_i bx hb
      simp only [hb]
      cases hh : (ver == bx.ver)
      · rw [hh] at h; cases h
      · rw [hh] at h
        cases h
        exact ⟨eqb hh, hk⟩
    · cases h
  · rename_i off ds ht
    simp only [hT.fld _ _ _ ht]
    cases h
    exact hk
  · cases h
def indexAddrV (T : Unit → Tab) (st : Store) (t : Nat) (a ix : DV) : RV :=
  match ix with
  | .d (.sc (.int _ (.ofNat i))) => match (T ()).arr t, (T ()).sl t, a with
    | some (n, _, sz), _, .ref b ver o => match st[b]? with
      | some bx => bif (ver == bx.ver) && decide (i < n) then some ([], .ref b ver (o + i * sz)) else none
      | none => none
    | some (n, _, sz), _, .cref cs => bif decide (i < n) then some ([], .cref (cs.drop (i * sz))) else none
    | _, some (_, sz), .view sz' b ver o n => match st[b]? with
      | some bx => bif (ver == bx.ver) && (sz == sz') && decide (i < n) then some ([], .ref b ver (o + i * sz)) else none
      | none => none
    | _, _, _ => none
  | _ => none
theorem slD_arrD {P : Program} {t : Nat} {x : Nat × Nat} (h : slD P t = some x) : arrD P t = none := by
  unfold slD at h
  unfold arrD
  split at h
  · rename_i e hu
    simp only [hu]
  · cases h
theorem indexAddrV_D {P : Program} {T : Unit → Tab} (hT : TabOk P (T ())) {st : Store} {t : Nat} {a ix : DV} {cs : List Prop} {d : DV} (h : indexAddrV T st t a ix = some (cs, d)) (hc : allP cs True) {K : DV → Prop} (hk : K d) : indexAddrD P st t a ix K := by
  unfold indexAddrV at h
  unfold indexAddrD
  split at h
  · rename_i k i
    simp only [intOfD]
    split at h
    · rename_i n e sz b ver o ht
      simp only [hT.arr _ _ ht]
      split at h
      · rename_i bx hb
        simp only [hb]
        cases hh : ((ver == bx.ver) && decide (i < n))
        · rw [hh] at h; cases h
        · rw [hh] at h
          simp only [Bool.and_eq_true, decide_eq_true_eq] at hh
          cases h
          exact ⟨eqb hh.1, ⟨Int.natCast_nonneg i, Int.ofNat_lt.2 hh.2⟩, hk⟩
      · cases h
    · rename_i n e sz ds ht
      simp only [hT.arr _ _ ht]
      cases hh : decide (i < n)
      · rw [hh] at h; cases h
      · rw [hh] at h
        cases h
        exact ⟨⟨Int.natCast_nonneg i, Int.ofNat_lt.2 (by simpa using hh)⟩, hk⟩
    · rename_i e9 sz sz' b ver o n ht
      have ht' := hT.sl _ _ ht
      simp only [slD_arrD ht', ht']
      split at h
      · rename_i bx hb
        simp only [hb]
        cases hh : ((ver == bx.ver) && (sz == sz') && decide (i < n))
        · rw [hh] at h; cases h
        · rw [hh] at h
          simp only [Bool.and_eq_true, decide_eq_true_eq] at hh
          cases h
          exact ⟨eqb hh.1.1, eqb hh.1.2, ⟨Int.natCast_nonneg i, Int.ofNat_lt.2 hh.2⟩, hk⟩
      · cases h
    · cases h
  · cases h
def partV (T : Unit → Tab) (t : Nat) (cs : List DV) (off : Nat) : RV :=
  match (T ()).ty t with
  | some (sz, true) => bif decide ((off + sz) ≤ cs.length) then some ([], .agg ((cs.drop off).take sz)) else none
  | some (_, false) => match cs[off]? with
    | some d => some ([], d)
    | none => none
  | none => none
theorem partV_D {P : Program} {T : Unit → Tab} (hT : TabOk P (T ())) {t off : Nat} {l : List DV} {cs : List Prop} {d : DV} (h : partV T t l off = some (cs, d)) {K : DV → Prop} (hk : K d) : partD P t l off K := by
  unfold partV at h
  unfold partD
  split at h
  · rename_i sz ht
    simp only [hT.ty _ _ ht]
    cases hh : decide ((off + sz) ≤ l.length)
    · rw [hh] at h; cases h
    · rw [hh] at h
      cases h
      exact ⟨of_decide_eq_true hh, hk⟩
  · rename_i sz ht
    simp only [hT.ty _ _ ht]
    split at h
    · rename_i d' hd
      simp only [hd]
      cases h
      exact hk
    · cases h
  · cases h
def fieldVV (T : Unit → Tab) (t : Nat) (x : DV) (f : Nat) : RV :=
  match (T ()).fldV t f, x with
  | some (u, off), .agg cs => partV T u cs off
  | _, _ => none
theorem fieldVV_D {P : Program} {T : Unit → Tab} (hT : TabOk P (T ())) {t f : Nat} {x : DV} {cs : List Prop} {d : DV} (h : fieldVV T t x f = some (cs, d)) {K : DV → Prop} (hk : K d) : fieldVD P t x f K := by
  unfold fieldVV at h
  split at h
  · rename_i u off ds ht
    obtain ⟨fs, fl, h1, h2, h3, h4⟩ := hT.fldV _ _ _ ht
    simp only at h3 h4
    subst h3; subst h4
    unfold fieldVD
    simp only [h1, h2]
    exact partV_D hT h hk
  · cases h
def unV (A : Ar) (op : UnOp) (x : DV) : RV :=
  match op, x with
  | .not, .d (.sc (.bool b)) => some ([], .d (.sc (.bool (A.not b))))
  | .neg, .d (.sc (.int k n)) => some ([], .d (.sc (.int k (A.un .neg k n))))
  | .xor, .d (.sc (.int k n)) => some ([], .d (.sc (.int k (A.un .xor k n))))
  | _, _ => none
theorem unV_D {op : UnOp} {x : DV} {cs : List Prop} {d : DV} (h : unV A0 op x = some (cs, d)) {K : DV → Prop} (hk : K d) : unD op x K := by
  unfold unV at h
  split at h <;> cases h <;> exact hk
def convV (T : Unit → Tab) (A : Ar) (src dst : Nat) (x : DV) : RV :=
  match (T ()).ik dst, x with
  | some k, .d (.sc (.int _ n)) => match (T ()).ik src with
    | some _ => some ([], .d (.sc (.int k (A.wrap k n))))
    | none => none
  | none, .d (.slc 1 xs) => match (T ()).str dst, (T ()).sl src with
    | true, some (e, _) => (match (T ()).ik e with
      | some .u8 => some ([A.isby xs], .d (.sc (.string (A.bstr xs))))
      | _ => none)
    | _, _ => none
  | _, _ => none
theorem slD_elem {P : Program} {t : TypeId} {e sz : Nat} (h : slD P t = some (e, sz)) : P.underlying t = some (.slice e) := by
  unfold slD at h
  split at h
  · rename_i e' he
    split at h
    · cases h; exact he
    · cases h
  · cases h
theorem convV_D {P : Program} {T : Unit → Tab} (hT : TabOk P (T ())) {src dst : Nat} {x : DV} {cs : List Prop} {d : DV} (h : convV T A0 src dst x = some (cs, d)) (hc : allP cs True) {K : DV → Prop} (hk : K d) : convD P src dst x K := by
  unfold convV at h
  split at h
  · rename_i k k' n ht
    split at h
    · rename_i k2 ht2
      unfold convD
      simp only [hT.ik _ _ ht, hT.ik _ _ ht2]
      cases h
      exact hk
    · cases h
  · rename_i xs ht
    split at h
    · rename_i e z hs hsl
      split at h
      · rename_i he
        cases h
        obtain ⟨⟨bs, rfl⟩, _⟩ := hc
        unfold convD
        simp only [slD_elem (hT.sl _ _ hsl), hT.str _ hs]
        refine ⟨hT.ik _ _ he, bs, rfl, ?_⟩
        simpa [A0, bytesOf_bytesP] using hk
      · cases h
    · cases h
  · cases h
def lenV (T : Unit → Tab) (A : Ar) (st : Store) (t : Nat) (x : DV) : RV :=
  match x with
  | .d (.sc (.string s)) => bif (T ()).str t then some ([], .d (.sc (.int .i64 (A.size s)))) else none
  | .d (.slc _ xs) => match (T ()).sl t with
    | some _ => some ([], .d (.sc (.int .i64 (A.len xs))))
    | none => none
  | .d (.sc (.slice none 0 0)) => match (T ()).sl t with
    | some _ => some ([], .d (.sc (.int .i64 0)))
    | none => none
  | .view _ b ver _ n => match (T ()).sl t, st[b]? with
    | some _, some bx => some ([A.same ver bx.ver], .d (.sc (.int .i64 (A.int n))))
    | _, _ => none
  | .agg _ => match (T ()).arr t with
    | some (n, _, _) => some ([], .d (.sc (.int .i64 n)))
    | none => none
  | _ => none
theorem lenV_D {P : Program} {T : Unit → Tab} (hT : TabOk P (T ())) {st : Store} {t : Nat} {x : DV} {cs : List Prop} {d : DV} (h : lenV T A0 st t x = some (cs, d)) (hc : allP cs True) {K : DV → Prop} (hk : K d) : lenD P st t x K := by
  unfold lenV at h
  unfold lenD
  split at h
  · cases hh : (T ()).str t
    · rw [hh] at h; cases h
    · rw [hh] at h; cases h
      exact ⟨hT.str _ hh, hk⟩
  · split at h
    · rename_i ht
      cases h
      exact ⟨by rw [hT.sl _ _ ht]; rfl, hk⟩
    · cases h
  · split at h
    · rename_i ht
      cases h
      exact ⟨by rw [hT.sl _ _ ht]; rfl, hk⟩
    · cases h
  · rename_i b ver o n
    split at h
    · rename_i bx ht hb
      cases h
      simp only [hb]
      exact ⟨hc.1, by rw [hT.sl _ _ ht]; rfl, hk⟩
    · cases h
  · split at h
    · rename_i ht
      simp only [hT.arr _ _ ht]
      cases h
      exact hk
    · cases h
  · cases h
def mmV (A : Ar) (mx : Bool) (x y : DV) : RV :=
  match x, y with
  | .d (.sc (.int k a)), .d (.sc (.int k' b)) => some ([k = k'], .d (.sc (.int k (A.mm mx a b))))
  | .d (.sc (.string a)), .d (.sc (.string b)) => some ([], .d (.sc (.string (A.smm mx a b))))
  | _, _ => none
theorem mmV_D {mx : Bool} {x y : DV} {cs : List Prop} {d : DV} (h : mmV A0 mx x y = some (cs, d)) (hc : allP cs True) {K : DV → Prop} (hk : K d) : mmD mx x y K := by
  unfold mmV at h
  unfold mmD
  split at h <;> cases h
  · exact ⟨hc.1, hk⟩
  · exact hk
def extractV (x : DV) (i : Nat) : RV :=
  match x with
  | .tup vs => match vs[i]? with
    | some d => some ([], d)
    | none => none
  | _ => none
theorem extractV_D {x : DV} {i : Nat} {cs : List Prop} {d : DV} (h : extractV x i = some (cs, d)) {K : DV → Prop} (hk : K d) : extractD x i K := by
  unfold extractV at h
  unfold extractD
  split at h
  · split at h
    · rename_i vs d' hd
      cases h
      simp only [hd]
      exact hk
    · cases h
  · cases h
def isRefV (st : Store) (x : DV) : RV :=
  match x with
  | .ref b ver _ => match st[b]? with
    | some bx => bif (bx.ver == ver) then some ([], x) else none
    | none => none
  | .cref _ => some ([], x)
  | .fn _ _ => some ([], x)
  | _ => none
theorem isRefV_D {st : Store} {x : DV} {cs : List Prop} {d : DV} (h : isRefV st x = some (cs, d)) : isRefD st x = true ∧ d = x := by
  unfold isRefV at h
  unfold isRefD
  split at h
  · rename_i b ver o
    split at h
    · rename_i bx hb
      cases hh : (bx.ver == ver)
      · rw [hh] at h; cases h
      · rw [hh] at h; cases h
        simp only [hb]
        exact ⟨by simpa using eqb hh, trivial⟩
    · cases h
  · cases h; exact ⟨rfl, rfl⟩
  · cases h; exact ⟨rfl, rfl⟩
  · cases h
/-- A cell that isn't reckoned out. -/
def ofKd (A : Ar) (cs : List DV) (o : Nat) : Kd → DV
  | .int k => .d (.sc (.int k (A.gi cs o)))
  | .bool => .d (.sc (.bool (A.gb cs o)))
  | .str => .d (.sc (.string (A.gs cs o)))
  | .slc sz => .d (.slc sz (A.gl cs o))
  | .oth => A.gd cs o
def ofKds (A : Ar) (cs : List DV) (o : Nat) : List Kd → Nat → List DV
  | [], _ => []
  | k :: ks, j => ofKd A cs (match j with
    | 0 => o
    | j => A.pl o j) k :: ofKds A cs o ks (j + 1)
def wrapV (ag : Bool) (ds : List DV) : Option DV := match ag, ds with
  | true, ds => some (.agg ds)
  | false, [d] => some d
  | _, _ => none
def loadS (T : Unit → Tab) (A : Ar) (st : Store) (t : Nat) (a : DV) : RV :=
  match (T ()).ty t, (T ()).kds t, a with
  | some (sz, ag), some ks, .ref b ver o => match st[b]? with
    | some bx => bif bx.live then (match wrapV ag (ofKds A bx.cells o ks 0) with
      | some d => some ([A.same ver bx.ver, A.has bx.cells o sz (ofKds A bx.cells o ks 0)], d)
      | none => none) else none
    | none => none
  | some (sz, ag), some ks, .cref cs => (match wrapV ag (ofKds A (A.lift cs) 0 ks 0) with
      | some d => some ([A.has (A.lift cs) 0 sz (ofKds A (A.lift cs) 0 ks 0)], d)
      | none => none)
  | _, _, _ => none
theorem wrapV_load {P : Program} {st : Store} {t b o : Nat} {bx : Box} {sz : Nat} {ag : Bool} (ht : tyD P t = some (sz, ag)) (hb : st[b]? = some bx) (hl : bx.live = true) {ds : List DV} {d : DV} (hw : wrapV ag ds = some d) (hh : A0.has bx.cells o sz ds) {K : DV → Prop} (hk : K d) : loadD P st t (.ref b bx.ver o) K := by
  obtain ⟨h1, h2, h3⟩ := hh
  unfold wrapV at hw
  unfold loadD
  split at hw
  · cases hw
    simp only [ht, hb]
    exact ⟨hl, trivial, h2, by rw [h3]; exact hk⟩
  · cases hw
    simp only [ht, hb]
    refine ⟨hl, trivial, ?_⟩
    have hs : sz = 1 := by simpa using h1.symm
    subst hs
    have : bx.cells[o]? = some d := by
      have h4 : ((bx.cells.drop o).take 1)[0]? = some d := by rw [h3]; rfl
      simpa using h4
    simp only [this]
    exact hk
  · cases hw
theorem wrapV_cload {P : Program} {st : Store} {t : Nat} {cs : List PD} {sz : Nat} {ag : Bool} (ht : tyD P t = some (sz, ag)) {ds : List DV} {d : DV} (hw : wrapV ag ds = some d) (hh : A0.has (A0.lift cs) 0 sz ds) {K : DV → Prop} (hk : K d) : loadD P st t (.cref cs) K := by
  obtain ⟨h1, h2, h3⟩ := hh
  simp only [A0, List.length_map, Nat.zero_add, List.drop_zero] at h2 h3
  unfold wrapV at hw
  unfold loadD
  split at hw
  · cases hw
    simp only [ht]
    exact ⟨h2, by rw [List.map_take, h3]; exact hk⟩
  · cases hw
    simp only [ht]
    have hs : sz = 1 := by simpa using h1.symm
    subst hs
    have h4 : ((cs.map DV.d).take 1)[0]? = some d := by rw [h3]; rfl
    have h5 : (cs[0]?).map DV.d = some d := by simpa using h4
    cases hc : cs[0]? with
    | none => rw [hc] at h5; cases h5
    | some p =>
      rw [hc] at h5
      cases h5
      exact hk
  · cases hw
theorem loadS_D {P : Program} {T : Unit → Tab} (hT : TabOk P (T ())) {st : Store} {t : Nat} {a : DV} {cs : List Prop} {d : DV} (h : loadS T A0 st t a = some (cs, d)) (hc : allP cs True) {K : DV → Prop} (hk : K d) : loadD P st t a K := by
  unfold loadS at h
  split at h
  · rename_i sz ag ks b ver o ht hks
    split at h
    · rename_i bx hb
      cases hl : bx.live
      · rw [hl] at h; cases h
      · rw [hl] at h
        simp only [cond_true] at h
        split at h
        · rename_i d' hw
          cases h
          obtain ⟨h1, h2, _⟩ := hc
          have h1' : ver = bx.ver := h1
          subst h1'
          exact wrapV_load (hT.ty _ _ ht) hb hl hw h2 hk
        · cases h
    · cases h
  · rename_i sz ag ks cs' ht hks
    split at h
    · rename_i d' hw
      cases h
      exact wrapV_cload (hT.ty _ _ ht) hw hc.1 hk
    · cases h
  · cases h
/-- A whole aggregate that isn't counted out. -/
def loadW (T : Unit → Tab) (A : Ar) (st : Store) (t : Nat) (a : DV) : RV :=
  match (T ()).ty t, a with
  | some (sz, true), .ref b ver o => match st[b]? with
    | some bx => bif bx.live then (match (T ()).sym 5004 with
      | true => some ([A.same ver bx.ver, A.full bx.cells (o + sz) 1], .agg (bx.cells.drop o))
      | false => some ([A.same ver bx.ver, A.fitv bx.cells o 1 sz], .agg (A.tk bx.cells o 1 sz))) else none
    | none => none
  | _, _ => none
theorem loadW_D {P : Program} {T : Unit → Tab} (hT : TabOk P (T ())) {st : Store} {t : Nat} {a : DV} {cs : List Prop} {d : DV} (h : loadW T A0 st t a = some (cs, d)) (hc : allP cs True) {K : DV → Prop} (hk : K d) : loadD P st t a K := by
  unfold loadW at h
  unfold loadD
  split at h
  · rename_i sz b ver o ht
    simp only [hT.ty _ _ ht]
    split at h
    · rename_i bx hb
      simp only [hb]
      cases hl : bx.live
      · rw [hl] at h; cases h
      · rw [hl] at h
        simp only [cond_true] at h
        split at h
        · cases h
          obtain ⟨h1, h2, _⟩ := hc
          simp only [A0, Nat.mul_one] at h1 h2
          refine ⟨rfl, h1, by omega, ?_⟩
          rw [List.take_of_length_le (by rw [List.length_drop]; omega)]
          exact hk
        · cases h
          obtain ⟨h1, h2, _⟩ := hc
          simp only [A0, Nat.one_mul] at h1 h2 hk
          exact ⟨rfl, h1, h2, hk⟩
    · cases h
  · cases h
def fieldAddrS (T : Unit → Tab) (A : Ar) (st : Store) (t : Nat) (a : DV) (f : Nat) : RV :=
  match (T ()).fld t f, a with
  | some off, .ref b ver o => match st[b]? with
    | some bx => some ([A.same ver bx.ver], .ref b ver (A.pl o off))
    | none => none
  | some off, .cref cs => some ([], .cref (A.cdrop cs off))
  | _, _ => none
theorem fieldAddrS_D {P : Program} {T : Unit → Tab} (hT : TabOk P (T ())) {st : Store} {t f : Nat} {a : DV} {cs : List Prop} {d : DV} (h : fieldAddrS T A0 st t a f = some (cs, d)) (hc : allP cs True) {K : DV → Prop} (hk : K d) : fieldAddrD P st t a f K := by
  unfold fieldAddrS at h
  unfold fieldAddrD
  split at h
  · rename_i off b ver o ht
    simp only [hT.fld _ _ _ ht]
    split at h
    · rename_i bx hb
      simp only [hb]
      cases h
      exact ⟨hc.1, hk⟩
    · cases h
  · rename_i off ds ht
    simp only [hT.fld _ _ _ ht]
    cases h
    exact hk
  · cases h
def indexAddrS (T : Unit → Tab) (A : Ar) (st : Store) (t : Nat) (a ix : DV) : RV :=
  match ix with
  | .d (.sc (.int _ i)) => match (T ()).arr t, (T ()).sl t, a with
    | some (n, _, sz), _, .ref b ver o => match st[b]? with
      | some bx => some ([A.same ver bx.ver, A.inb i (A.int n)], .ref b ver (A.off o i sz))
      | none => none
    | some (n, _, sz), _, .cref cs => some ([A.inb i (A.int n)], .cref (A.cdrop cs (A.off 0 i sz)))
    | _, some (_, sz), .view sz' b ver o n => match st[b]? with
      | some bx => bif (sz == sz') then some ([A.same ver bx.ver, A.inb i (A.int n)], .ref b ver (A.off o i sz)) else none
      | none => none
    | _, some (_, sz), .d (.slc sz' xs) => bif (sz == sz') then some ([A.inb i (A.len xs)], .cref (A.row xs i)) else none
    | _, _, _ => none
  | _ => none
theorem indexAddrS_D {P : Program} {T : Unit → Tab} (hT : TabOk P (T ())) {st : Store} {t : Nat} {a ix : DV} {cs : List Prop} {d : DV} (h : indexAddrS T A0 st t a ix = some (cs, d)) (hc : allP cs True) {K : DV → Prop} (hk : K d) : indexAddrD P st t a ix K := by
  unfold indexAddrS at h
  unfold indexAddrD
  split at h
  · rename_i k i
    simp only [intOfD]
    split at h
    · rename_i n e sz b ver o ht
      simp only [hT.arr _ _ ht]
      split at h
      · rename_i bx hb
        simp only [hb]
        cases h
        exact ⟨hc.1, hc.2.1, hk⟩
      · cases h
    · rename_i n e sz ds ht
      simp only [hT.arr _ _ ht]
      cases h
      refine ⟨hc.1, ?_⟩
      simpa [A0] using hk
    · rename_i e9 sz sz' b ver o n ht
      have ht' := hT.sl _ _ ht
      simp only [slD_arrD ht', ht']
      split at h
      · rename_i bx hb
        simp only [hb]
        cases hh : (sz == sz')
        · rw [hh] at h; cases h
        · rw [hh] at h
          cases h
          exact ⟨hc.1, eqb hh, hc.2.1, hk⟩
      · cases h
    · rename_i e9 sz sz' xs ht
      have ht' := hT.sl _ _ ht
      simp only [slD_arrD ht', ht']
      cases hh : (sz == sz')
      · rw [hh] at h; cases h
      · rw [hh] at h
        cases h
        obtain ⟨h1, _⟩ := hc
        refine ⟨eqb hh, h1, ?_⟩
        have h1' : 0 ≤ i ∧ i < (xs.length : Int) := h1
        have hlt : i.toNat < xs.length := by omega
        rw [List.getElem?_eq_getElem hlt]
        have e : A0.row xs i = xs[i.toNat] := by simp [A0, List.getD_eq_getElem?_getD, List.getElem?_eq_getElem hlt]
        rw [e] at hk
        exact hk
    · cases h
  · cases h
/-- A string's byte, an array's element, not reckoned out. -/
def indexS (T : Unit → Tab) (A : Ar) (t : Nat) (x ix : DV) : RV :=
  match ix, x with
  | .d (.sc (.int _ i)), .d (.sc (.string s)) => bif (T ()).str t then some ([A.inb i (A.size s)], .d (.sc (.int .u8 (A.byte s i)))) else none
  | .d (.sc (.int _ i)), .agg cs => (match (T ()).arr t with
    | some (n, e, sz) => (match (T ()).ty e, (T ()).kds e with
      | some (sz', ag), some ks => (match wrapV ag (ofKds A cs (A.off 0 i sz) ks 0) with
        | some d => some ([A.inb i (A.int n), A.has cs (A.off 0 i sz) sz' (ofKds A cs (A.off 0 i sz) ks 0)], d)
        | none => none)
      | _, _ => none)
    | none => none)
  | _, _ => none
theorem indexS_D {P : Program} {T : Unit → Tab} (hT : TabOk P (T ())) {t : Nat} {x ix : DV} {cs : List Prop} {d : DV} (h : indexS T A0 t x ix = some (cs, d)) (hc : allP cs True) {K : DV → Prop} (hk : K d) : indexD P t x ix K := by
  unfold indexS at h
  unfold indexD
  split at h
  · rename_i k i s
    simp only [intOfD]
    cases hh : (T ()).str t
    · rw [hh] at h; cases h
    · rw [hh] at h
      cases h
      obtain ⟨h1, _⟩ := hc
      have h1' : 0 ≤ i ∧ i < (s.size : Int) := h1
      refine ⟨hT.str _ hh, h1'.1, ?_⟩
      have hlt : i.toNat < s.size := by omega
      have e : A0.byte s i = (s[i.toNat]'hlt).toNat := by simp [A0, hlt]
      rw [e] at hk
      rw [getElem?_pos s i.toNat hlt]
      exact hk
  · rename_i k i ds
    simp only [intOfD]
    split at h
    · rename_i n e sz ht
      simp only [hT.arr _ _ ht]
      split at h
      · rename_i sz' ag ks h2 h3
        split at h
        · rename_i d' hw
          cases h
          obtain ⟨h1, ⟨g1, g2, g3⟩, _⟩ := hc
          refine ⟨h1, ?_⟩
          have eo : A0.off 0 i sz = i.toNat * sz := by simp [A0]
          rw [eo] at g1 g2 g3 hw
          unfold wrapV at hw
          unfold partD
          split at hw
          · cases hw
            simp only [hT.ty _ _ h2]
            exact ⟨g2, by rw [g3]; exact hk⟩
          · rename_i d2 hd2
            cases hw
            simp only [hT.ty _ _ h2]
            have hs : sz' = 1 := by rw [hd2] at g1; simpa using g1.symm
            subst hs
            have h4 : ((ds.drop (i.toNat * sz)).take 1)[0]? = some d := by rw [g3, hd2]; rfl
            have h5 : ds[i.toNat * sz]? = some d := by simpa using h4
            simp only [h5]
            exact hk
          · cases hw
        · cases h
      · cases h
    · cases h
  · cases h
end Go.Proofs.Ytmjmbfcfnhnpmaa
