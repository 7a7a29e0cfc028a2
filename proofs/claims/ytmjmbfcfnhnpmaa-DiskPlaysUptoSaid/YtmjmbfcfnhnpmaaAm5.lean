/- The program logic, fifth part: operators, conversions, slices, lengths, composites. No condition: lemmas of any program. -/
import Derived.Test.YtmjmbfcfnhnpmaaAm4
namespace Go.Proofs.Ytmjmbfcfnhnpmaa
open Go.RowKit
set_option linter.all false
def nilS : DV := .d (.sc (.slice none 0 0))
def boolD (b : Bool) : DV := .d (.sc (.bool b))
def intD (i : Int) : DV := .d (.sc (.int .i64 i))
/-- The cells of a value that may be stored. -/
def cellsD : DV → Option (List DV)
  | .agg cs => some cs
  | .d (.sc v) => if v.oneCell' = true then some [.d (.sc v)] else none
  | .d (.slc sz xs) => some [.d (.slc sz xs)]
  | .ref b ver o => some [.ref b ver o]
  | .cref cs => some [.cref cs]
  | .view sz b ver o n => some [.view sz b ver o n]
  | .fn f cs => some [.fn f cs]
  | .any => none
  | .tup _ => none
theorem cells_one {v : Value} (h : v.oneCell' = true) : v.cells = #[v] := by cases v <;> first | rfl | simp [Value.oneCell'] at h
theorem cellsD_spec {E : Env} {x : DV} {v : Value} (hr : Rep E x v) {ds : List DV} (h : cellsD x = some ds) : ∃ vs : List Value, v.cells = vs.toArray ∧ Reps E ds vs ∧ ∀ u ∈ vs, u.oneCell' = true := by
  have one : v.oneCell' = true → ds = [x] → ∃ vs : List Value, v.cells = vs.toArray ∧ Reps E ds vs ∧ ∀ u ∈ vs, u.oneCell' = true := fun h1 h2 => by
    subst h2
    exact ⟨[v], by rw [cells_one h1], ⟨hr, trivial⟩, by simpa using h1⟩
  cases x with
  | agg cs =>
    obtain ⟨vs, rfl, h1, h2⟩ := hr
    cases h
    exact ⟨vs, rfl, h2, h1⟩
  | d p =>
    cases p with
    | sc u =>
      simp only [cellsD] at h
      split at h
      · cases h
        rename_i h1
        exact one (by rw [show v = u from hr]; exact h1) rfl
      · cases h
    | slc sz xs =>
      cases h
      rcases hr with ⟨_, rfl⟩ | ⟨a, c, rfl, _⟩ <;> exact one rfl rfl
  | ref b ver o =>
    cases h
    obtain ⟨bx, gz, _, _, h1, _⟩ := hr
    exact one h1 rfl
  | cref cs =>
    cases h
    obtain ⟨a, rfl, _⟩ := hr
    exact one rfl rfl
  | view sz b ver o n =>
    cases h
    obtain ⟨bx, gz, _, _, h1, _⟩ := hr
    exact one h1 rfl
  | fn f cs =>
    cases h
    obtain ⟨vs, rfl, _⟩ := hr
    exact one rfl rfl
  | any => cases h
  | tup cs => cases h
def scEqD (k : Nat) : DV → DV → Option Bool
  | .d (.sc x), .d (.sc y) => scEq k x y
  | _, _ => none
def eqD : List Nat → List DV → List DV → Option Bool
  | [], [], [] => some true
  | k :: ks, x :: xs, y :: ys => match scEqD k x y, eqD ks xs ys with
    | some a, some b => some (a && b)
    | _, _ => none
  | _, _, _ => none
theorem eqD_V {E : Env} : ∀ (ks : List Nat) (cs ds : List DV) (xs ys : List Value) (b : Bool), Reps E cs xs → Reps E ds ys → eqD ks cs ds = some b → eqV ks xs ys = some b
  | [], [], [], [], [], _, _, _, h => h
  | k :: ks, c :: cs, d :: ds, x :: xs, y :: ys, b, ⟨h1, h2⟩, ⟨h3, h4⟩, h => by
      simp only [eqD] at h
      cases e1 : scEqD k c d with
      | none => simp [e1] at h
      | some a =>
        cases e2 : eqD ks cs ds with
        | none => simp [e1, e2] at h
        | some b' =>
          simp [e1, e2] at h
          have := eqD_V ks cs ds xs ys b' h2 h4 e2
          unfold scEqD at e1
          split at e1
          · simp only [Rep, RepP] at h1 h3
            subst h1; subst h3
            simp [eqV, e1, this, h]
          · cases e1
  | [], [], _ :: _, _, _, _, _, _, h => by simp [eqD] at h
  | [], _ :: _, _, _, _, _, _, _, h => by simp [eqD] at h
  | _ :: _, [], _, _, _, _, _, _, h => by simp [eqD] at h
  | _ :: _, _ :: _, [], _, _, _, _, _, h => by simp [eqD] at h
  | [], [], [], _ :: _, _, _, h, _, _ => h.elim
  | [], [], [], [], _ :: _, _, _, h, _ => h.elim
  | _ :: _, _ :: _, _ :: _, [], _, _, h, _, _ => h.elim
  | _ :: _, _ :: _, _ :: _, _ :: _, [], _, _, h, _ => h.elim
def ltb (x y : ByteArray) : Bool := Op.bytesLess x.toList y.toList
def bitsV (k : IntKind) (f : {n : Nat} → BitVec n → BitVec n → BitVec n) (a b : Int) : Int := k.wrap (f (BitVec.ofInt k.bits a) (BitVec.ofInt k.bits b)).toNat
/-- Two numbers. -/
def intBin (op : BinOp) (k k' : IntKind) (a b : Int) (K : DV → Prop) : Prop :=
  match op with
  | .add => k = k' ∧ K (.d (.sc (.int k (k.wrap (a + b)))))
  | .sub => k = k' ∧ K (.d (.sc (.int k (k.wrap (a - b)))))
  | .mul => k = k' ∧ K (.d (.sc (.int k (k.wrap (a * b)))))
  | .quo => k = k' ∧ b ≠ 0 ∧ K (.d (.sc (.int k (k.wrap (a.tdiv b)))))
  | .rem => k = k' ∧ b ≠ 0 ∧ K (.d (.sc (.int k (a.tmod b))))
  | .and => k = k' ∧ K (.d (.sc (.int k (bitsV k (· &&& ·) a b))))
  | .or => k = k' ∧ K (.d (.sc (.int k (bitsV k (· ||| ·) a b))))
  | .xor => k = k' ∧ K (.d (.sc (.int k (bitsV k (· ^^^ ·) a b))))
  | .shl => 0 ≤ b ∧ K (.d (.sc (.int k (k.wrap (a * 2 ^ (min b.toNat k.bits))))))
  | .shr => 0 ≤ b ∧ K (.d (.sc (.int k (a.fdiv (2 ^ (min b.toNat k.bits))))))
  | .eql => k = k' ∧ K (.d (.sc (.bool (decide (a = b)))))
  | .neq => k = k' ∧ K (.d (.sc (.bool (!decide (a = b)))))
  | .lss => k = k' ∧ K (.d (.sc (.bool (decide (a < b)))))
  | .leq => k = k' ∧ K (.d (.sc (.bool (decide (a ≤ b)))))
  | .gtr => k = k' ∧ K (.d (.sc (.bool (decide (b < a)))))
  | .geq => k = k' ∧ K (.d (.sc (.bool (decide (b ≤ a)))))
  | _ => False
def strBin (op : BinOp) (a b : ByteArray) (K : DV → Prop) : Prop :=
  match op with
  | .add => a.size + b.size ≤ maxLen ∧ K (.d (.sc (.string (a ++ b))))
  | .eql => K (.d (.sc (.bool (decide (a = b)))))
  | .neq => K (.d (.sc (.bool (!decide (a = b)))))
  | .lss => K (.d (.sc (.bool (ltb a b))))
  | .leq => K (.d (.sc (.bool (ltb a b || decide (a = b)))))
  | .gtr => K (.d (.sc (.bool (!(ltb a b || decide (a = b))))))
  | .geq => K (.d (.sc (.bool (!ltb a b))))
  | _ => False
/-- Equal or not. -/
def eqK (op : BinOp) (b : Bool) (K : DV → Prop) : Prop :=
  match op with
  | .eql => K (.d (.sc (.bool b)))
  | .neq => K (.d (.sc (.bool (!b))))
  | _ => False
/-- A slice that is not nil; a pointer that is not. -/
def notNil (st : Store) : DV → Bool
  | .d (.slc _ xs) => !xs.isEmpty
  | .view _ b ver _ _ => match st[b]? with
    | some bx => bx.ver == ver
    | none => false
  | _ => false
def notNilP (st : Store) : DV → Bool
  | .ref b ver _ => match st[b]? with
    | some bx => bx.ver == ver
    | none => false
  | .cref _ => true
  | _ => false
def isAggD (P : Program) (t : TypeId) : Bool := match tyD P t with
  | some (_, b) => b
  | none => false
def binD (P : Program) (st : Store) (op : BinOp) (t : TypeId) (x y : DV) (K : DV → Prop) : Prop :=
  match x, y with
  | .d (.sc (.int k a)), .d (.sc (.int k' b)) => intBin op k k' a b K
  | .d (.sc (.string a)), .d (.sc (.string b)) => strBin op a b K
  | .d (.sc (.bool a)), .d (.sc (.bool b)) => P.underlying t = some .bool ∧ eqK op (decide (a = b)) K
  | .agg cs, .agg ds => P.eqGuardType P.depth t = false ∧ isAggD P t = true ∧ match kindsT P 20 t with
    | some ks => match eqD ks cs ds with
      | some b => eqK op b K
      | none => False
    | none => False
  | .d (.sc (.slice none 0 0)), .d (.sc (.slice none 0 0)) => (slD P t).isSome = true ∧ eqK op true K
  | .d (.slc _ []), .d (.sc (.slice none 0 0)) => (slD P t).isSome = true ∧ eqK op true K ∧ eqK op false K
  | x, .d (.sc (.slice none 0 0)) => notNil st x = true ∧ (slD P t).isSome = true ∧ eqK op false K
  | .d (.sc (.pointer none)), .d (.sc (.pointer none)) => (match P.underlying t with | some (.pointer _) => True | _ => False) ∧ eqK op true K
  | x, .d (.sc (.pointer none)) => notNilP st x = true ∧ (match P.underlying t with | some (.pointer _) => True | _ => False) ∧ eqK op false K
  | _, _ => False
theorem bin_int {P : Program} {op : BinOp} {t : TypeId} {k k' : IntKind} {a b : Int} {K : DV → Prop} (h : intBin op k k' a b K) (w : World) : ∃ u d, (binOp op t (.int k a) (.int k' b)).run P w = .ok u w ∧ K d ∧ d = .d (.sc u) := by
  cases op <;> simp only [intBin] at h <;> try exact h.elim
  all_goals first
    | (obtain ⟨rfl, hb, h⟩ := h; exact ⟨_, _, by simp [binOp, Op.intDiv, hb], h, rfl⟩)
    | (obtain ⟨hb, h⟩ := h; first
        | (subst hb; exact ⟨_, _, by simp [binOp, Op.intArith, Op.intBits, Op.intCmp, bitsV] <;> rfl, h, rfl⟩)
        | exact ⟨_, _, by simp [binOp, Op.shift, Int.not_lt.2 hb] <;> rfl, h, rfl⟩)
theorem bin_str {P : Program} {op : BinOp} {t : TypeId} {a b : ByteArray} {K : DV → Prop} (h : strBin op a b K) (w : World) : ∃ u d, (binOp op t (.string a) (.string b)).run P w = .ok u w ∧ K d ∧ d = .d (.sc u) := by
  cases op <;> simp only [strBin] at h <;> try exact h.elim
  case add =>
    have hm : ¬ ((9223372036854775807 : Int) < (a.size : Int) + (b.size : Int)) := by have := h.1; simp only [maxLen] at this; omega
    exact ⟨_, _, by simp [binOp, Op.stringOp, IntKind.max, IntKind.signed, IntKind.bits, hm] <;> rfl, h.2, rfl⟩
  all_goals exact ⟨_, _, by simp [binOp, Op.stringOp, ltb, ← toList_bytes] <;> rfl, h, rfl⟩
theorem guard_int {P : Program} (op : BinOp) (t : TypeId) (x y : Operand) (k k' : IntKind) (a b : Int) (w : World) : (eqGuard op t x y (.int k a) (.int k' b)).run P w = .ok () w := by
  unfold eqGuard; split <;> rfl
theorem guard_str {P : Program} (op : BinOp) (t : TypeId) (x y : Operand) (a b : ByteArray) (w : World) : (eqGuard op t x y (.string a) (.string b)).run P w = .ok () w := by
  unfold eqGuard; split <;> rfl
theorem guard_bool {P : Program} (op : BinOp) (t : TypeId) (x y : Operand) (a b : Bool) (w : World) : (eqGuard op t x y (.bool a) (.bool b)).run P w = .ok () w := by
  unfold eqGuard; split <;> rfl
theorem guard_sl {P : Program} (op : BinOp) (t : TypeId) (x y : Operand) (a b : Option Addr) (n c n' c' : Nat) (w : World) : (eqGuard op t x y (.slice a n c) (.slice b n' c')).run P w = .ok () w := by
  unfold eqGuard; split <;> rfl
theorem guard_ptr {P : Program} (op : BinOp) (t : TypeId) (x y : Operand) (a b : Option Addr) (w : World) : (eqGuard op t x y (.pointer a) (.pointer b)).run P w = .ok () w := by
  unfold eqGuard; split <;> rfl
theorem run_equal_nil {P : Program} {t : TypeId} (h : (slD P t).isSome = true) (w : World) (a : Option Addr) (n c : Nat) : (Op.equal t (.slice a n c) (.slice none 0 0)).run P w = .ok a.isNone w := by
  cases hs : slD P t with
  | none => simp [hs] at h
  | some q =>
    obtain ⟨hu, _⟩ := slD_spec (e := q.1) (sz := q.2) hs
    simp only [Op.equal, Op.maxDepth]
    exact Go.Lib.run_equalIn_slice_nil w 9999 t _ a n c 0 0 hu
theorem run_equal_ptr {P : Program} {t : TypeId} (h : (match P.underlying t with | some (.pointer _) => True | _ => False)) (w : World) (a : Addr) : (Op.equal t (.pointer (some a)) (.pointer none)).run P w = .ok false w := by
  cases hu : P.underlying t with
  | none => simp [hu] at h
  | some u =>
    cases u <;> try (simp [hu] at h; done)
    have key : ∀ d, (Op.equalIn (d + 1) t (.pointer (some a)) (.pointer none)).run P w = .ok false w := fun d => by simp [Op.equalIn, run_underlying hu]
    exact key 9999
theorem run_equal_nilP {P : Program} {t : TypeId} (h : (match P.underlying t with | some (.pointer _) => True | _ => False)) (w : World) : (Op.equal t (.pointer none) (.pointer none)).run P w = .ok true w := by
  cases hu : P.underlying t with
  | none => simp [hu] at h
  | some u =>
    cases u <;> try (simp [hu] at h; done)
    have key : ∀ d, (Op.equalIn (d + 1) t (.pointer none) (.pointer none)).run P w = .ok true w := fun d => by simp [Op.equalIn, run_underlying hu]
    exact key 9999
theorem run_equal_bool {P : Program} {t : TypeId} (hu : P.underlying t = some .bool) (w : World) (a b : Bool) : (Op.equal t (.bool a) (.bool b)).run P w = .ok (decide (a = b)) w := by
  have key : ∀ d, (Op.equalIn (d + 1) t (.bool a) (.bool b)).run P w = .ok (decide (a = b)) w := fun d => by
    simp only [Op.equalIn, Sem.run_bind, run_underlying hu, Result.andThen_ok, Sem.run_pure]
    rfl
  exact key 9999
theorem eqK_ok {op : BinOp} {b : Bool} {K : DV → Prop} (h : eqK op b K) : (op = .eql ∧ K (.d (.sc (.bool b)))) ∨ (op = .neq ∧ K (.d (.sc (.bool (!b))))) := by
  cases op <;> simp only [eqK] at h <;> first | exact h.elim | exact .inl ⟨rfl, h⟩ | exact .inr ⟨rfl, h⟩
theorem notNil_sl {E : Env} {x : DV} {v : Value} (hr : Rep E x v) (h : notNil E.st x = true) : ∃ a n c, v = .slice (some a) n c := by
  unfold notNil at h
  split at h
  · rcases hr with ⟨rfl, _⟩ | ⟨a, c, rfl, _⟩
    · simp at h
    · exact ⟨_, _, _, rfl⟩
  · obtain ⟨bx, gz, hb, hg, _, _, hv⟩ := hr
    simp only [hb, beq_iff_eq] at h
    obtain ⟨c, rfl, _⟩ := hv h.symm
    exact ⟨_, _, _, rfl⟩
  · cases h
theorem notNil_ptr {E : Env} {x : DV} {v : Value} (hr : Rep E x v) (h : notNilP E.st x = true) : ∃ a, v = .pointer (some a) := by
  unfold notNilP at h
  split at h
  · obtain ⟨bx, gz, hb, hg, _, _, hv⟩ := hr
    simp only [hb, beq_iff_eq] at h
    exact ⟨_, hv h.symm⟩
  · obtain ⟨a, rfl, _⟩ := hr
    exact ⟨_, rfl⟩
  · cases h
/-- Two operands. -/
theorem bin_ok {P : Program} {E : Env} {op : BinOp} {t : TypeId} {x y : DV} {v u : Value} (hx : Rep E x v) (hy : Rep E y u) (ox oy : Operand) {K : DV → Prop} (h : binD P E.st op t x y K) :
    ∃ r d, (do eqGuard op t ox oy v u; binOp op t v u : Sem Value).run P E.w = .ok r E.w ∧ K d ∧ Rep E d r := by
  unfold binD at h
  split at h
  · simp only [Rep, RepP] at hx hy
    subst hx; subst hy
    obtain ⟨r, d, h1, h2, rfl⟩ := bin_int (P := P) (t := t) h E.w
    exact ⟨r, _, by simp [guard_int, h1], h2, rfl⟩
  · simp only [Rep, RepP] at hx hy
    subst hx; subst hy
    obtain ⟨r, d, h1, h2, rfl⟩ := bin_str (P := P) (t := t) h E.w
    exact ⟨r, _, by simp [guard_str, h1], h2, rfl⟩
  · simp only [Rep, RepP] at hx hy
    subst hx; subst hy
    obtain ⟨hu, h⟩ := h
    rename_i a b
    have he := run_equal_bool hu E.w a b
    rcases eqK_ok h with ⟨rfl, h⟩ | ⟨rfl, h⟩
    · exact ⟨_, _, by simp [guard_bool, binOp, he] <;> rfl, h, rfl⟩
    · exact ⟨_, _, by simp [guard_bool, binOp, he] <;> rfl, h, rfl⟩
  · obtain ⟨hgd, hag, h⟩ := h
    obtain ⟨xs, rfl, _, hxs⟩ := hx
    obtain ⟨ys, rfl, _, hys⟩ := hy
    split at h
    · rename_i ks hk
      split at h
      · rename_i b hb
        have hv := eqD_V _ _ _ _ _ _ hxs hys hb
        obtain ⟨ag, ht, hone⟩ := kindsT_ty hk
        obtain ⟨lx, ly⟩ := eqV_length _ _ _ _ hv
        cases ag with
        | false => simp [isAggD, ht] at hag
        | true =>
          have he : (Op.equalIn 10000 t (.agg xs.toArray) (.agg ys.toArray)).run P E.w = .ok b E.w := by
            have := run_equalIn_kinds (P := P) E.w 20 10000 (by omega) t ks true hk ht xs ys b hv
            simpa [valOf] using this
          rcases eqK_ok h with ⟨rfl, h⟩ | ⟨rfl, h⟩
          · exact ⟨_, _, by simp only [Sem.run_bind, run_eqGuard_agg E.w _ t ox oy _ _ hgd, Result.andThen_ok, run_eql_struct, he] <;> rfl, h, rfl⟩
          · exact ⟨_, _, by simp only [Sem.run_bind, run_eqGuard_agg E.w _ t ox oy _ _ hgd, Result.andThen_ok, run_neq_struct, he] <;> rfl, h, rfl⟩
      · exact h.elim
    · exact h.elim
  · simp only [Rep, RepP] at hx hy
    subst hx; subst hy
    obtain ⟨hs, h⟩ := h
    have he := run_equal_nil hs E.w none 0 0
    rcases eqK_ok h with ⟨rfl, h⟩ | ⟨rfl, h⟩
    · exact ⟨_, _, by simp [guard_sl, binOp, he] <;> rfl, h, rfl⟩
    · exact ⟨_, _, by simp [guard_sl, binOp, he] <;> rfl, h, rfl⟩
  · obtain ⟨hs, k1, k2⟩ := h
    simp only [Rep, RepP] at hy
    subst hy
    rcases hx with ⟨_, rfl⟩ | ⟨a, c, rfl, _⟩
    · have he := run_equal_nil hs E.w none 0 0
      rcases eqK_ok k1 with ⟨rfl, h⟩ | ⟨rfl, h⟩
      · exact ⟨_, _, by simp [guard_sl, binOp, he] <;> rfl, h, rfl⟩
      · exact ⟨_, _, by simp [guard_sl, binOp, he] <;> rfl, h, rfl⟩
    · have he := run_equal_nil hs E.w (some a) ([] : List (List PD)).length c
      rcases eqK_ok k2 with ⟨rfl, h⟩ | ⟨rfl, h⟩
      · exact ⟨_, _, by simp only [Sem.run_bind, guard_sl, Result.andThen_ok, binOp, he] <;> rfl, h, rfl⟩
      · exact ⟨_, _, by simp only [Sem.run_bind, guard_sl, Result.andThen_ok, binOp, he] <;> rfl, h, rfl⟩
  · obtain ⟨hn, hs, h⟩ := h
    simp only [Rep, RepP] at hy
    subst hy
    obtain ⟨a, n, c, rfl⟩ := notNil_sl hx hn
    have he := run_equal_nil hs E.w (some a) n c
    rcases eqK_ok h with ⟨rfl, h⟩ | ⟨rfl, h⟩
    · exact ⟨_, _, by simp [guard_sl, binOp, he] <;> rfl, h, rfl⟩
    · exact ⟨_, _, by simp [guard_sl, binOp, he] <;> rfl, h, rfl⟩
  · obtain ⟨hs, h⟩ := h
    simp only [Rep, RepP] at hx hy
    subst hx; subst hy
    have he := run_equal_nilP hs E.w
    rcases eqK_ok h with ⟨rfl, h⟩ | ⟨rfl, h⟩
    · exact ⟨_, _, by simp [guard_ptr, binOp, he] <;> rfl, h, rfl⟩
    · exact ⟨_, _, by simp [guard_ptr, binOp, he] <;> rfl, h, rfl⟩
  · obtain ⟨hn, hs, h⟩ := h
    simp only [Rep, RepP] at hy
    subst hy
    obtain ⟨a, rfl⟩ := notNil_ptr hx hn
    have he := run_equal_ptr hs E.w a
    rcases eqK_ok h with ⟨rfl, h⟩ | ⟨rfl, h⟩
    · exact ⟨_, _, by simp [guard_ptr, binOp, he] <;> rfl, h, rfl⟩
    · exact ⟨_, _, by simp [guard_ptr, binOp, he] <;> rfl, h, rfl⟩
  · exact h.elim
end Go.Proofs.Ytmjmbfcfnhnpmaa
