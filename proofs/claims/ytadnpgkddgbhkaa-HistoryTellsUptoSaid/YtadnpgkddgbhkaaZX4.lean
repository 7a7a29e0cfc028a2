/- The program logic, fourth part: equality of plain values. No condition: lemmas of any program. -/
import Derived.Test.YtadnpgkddgbhkaaZX3
import Derived.ChangeKeysEq
namespace Go.Proofs.Ytadnpgkddgbhkaa
open Go.RowKit
set_option linter.all false
theorem beq_bytes (a b : ByteArray) : (a == b) = decide (a = b) := by
 rw [Bool.eq_iff_iff, beq_toListBytes, ByteArray.toList_eq, ByteArray.toList_eq]
 simp only [beq_iff_eq, decide_eq_true_eq]
 obtain ⟨⟨x⟩⟩ := a
 obtain ⟨⟨y⟩⟩ := b
 simp
theorem toList_bytes (a b : ByteArray) : (a.toList == b.toList) = decide (a = b) := by rw [← beq_toListBytes, beq_bytes]
def scEq : Nat → Value → Value → Option Bool
 | 0, .int k a, .int k' b => if k = k' then some (decide (a = b)) else none
 | 1, .bool a, .bool b => some (decide (a = b))
 | 2, .string a, .string b => some (decide (a = b))
 | _, _, _ => none
def eqV : List Nat → List Value → List Value → Option Bool
 | [], [], [] => some true
 | k :: ks, x :: xs, y :: ys => match scEq k x y, eqV ks xs ys with
   | some a, some b => some (a && b)
   | _, _ => none
 | _, _, _ => none
theorem eqV_length : ∀ (ks : List Nat) (xs ys : List Value) (b : Bool), eqV ks xs ys = some b → xs.length = ks.length ∧ ys.length = ks.length
 | [], [], [], _, _ => ⟨rfl, rfl⟩
 | k :: ks, x :: xs, y :: ys, b, h => by
     simp only [eqV] at h
     cases h1 : scEq k x y with
     | none => simp [h1] at h
     | some a =>
       cases h2 : eqV ks xs ys with
       | none => simp [h1, h2] at h
       | some c => simp [eqV_length ks xs ys c h2]
 | [], [], _ :: _, _, h => by simp [eqV] at h
 | [], _ :: _, _, _, h => by simp [eqV] at h
 | _ :: _, [], _, _, h => by simp [eqV] at h
 | _ :: _, _ :: _, [], _, h => by simp [eqV] at h
theorem eqV_split : ∀ (ks ks' : List Nat) (xs ys : List Value) (b : Bool), eqV (ks ++ ks') xs ys = some b →
  ∃ b1 b2, eqV ks (xs.take ks.length) (ys.take ks.length) = some b1 ∧ eqV ks' (xs.drop ks.length) (ys.drop ks.length) = some b2 ∧ b = (b1 && b2)
 | [], ks', xs, ys, b, h => ⟨true, b, by simp [eqV], by simpa using h, by simp⟩
 | k :: ks, ks', x :: xs, y :: ys, b, h => by
     simp only [List.cons_append, eqV] at h
     cases h1 : scEq k x y with
     | none => simp [h1] at h
     | some a =>
       cases h2 : eqV (ks ++ ks') xs ys with
       | none => simp [h1, h2] at h
       | some c =>
         simp [h1, h2] at h
         obtain ⟨b1, b2, i1, i2, i3⟩ := eqV_split ks ks' xs ys c h2
         exact ⟨a && b1, b2, by simp [eqV, h1, i1], by simpa using i2, by rw [← h, i3, Bool.and_assoc]⟩
 | _ :: _, _, [], _, _, h => by simp [eqV] at h
 | _ :: _, _, _ :: _, [], _, h => by simp [eqV] at h
def kindsF (kinds : TypeId → Option (List Nat)) (sz : Nat) : Nat → List Field → Option (List Nat)
 | off, [] => if off = sz then some [] else none
 | off, f :: fs => if f.name ≠ "_" ∧ f.offset = off then match kinds f.type with
    | some ks => match kindsF kinds sz (off + ks.length) fs with
      | some r => some (ks ++ r)
      | none => none
    | none => none
   else none
def kindsT (P : Program) : Nat → TypeId → Option (List Nat)
 | 0, _ => none
 | n + 1, t => match tyD P t, P.underlying t with
   | some (1, false), some (.int _) => some [0]
   | some (1, false), some .bool => some [1]
   | some (1, false), some .string => some [2]
   | some (sz, true), some (.struct fs) => if P.stoodInHeld t = true then none else kindsF (kindsT P n) sz 0 fs.toList
   | some (sz, true), some (.array len e) => match kindsT P n e with
     | some ks => if sz = len * ks.length then some (List.replicate len ks).flatten else none
     | none => none
   | _, _ => none
theorem kindsF_length {kinds : TypeId → Option (List Nat)} {sz : Nat} : ∀ (fs : List Field) (off : Nat) (r : List Nat), kindsF kinds sz off fs = some r → off + r.length = sz
 | [], off, r, h => by
     simp only [kindsF] at h
     split at h
     ·cases h; simpa
     ·cases h
 | f :: fs, off, r, h => by
     simp only [kindsF] at h
     split at h
     ·cases hk : kinds f.type with
      | none => simp [hk] at h
      | some ks =>
        simp only [hk] at h
        cases hr : kindsF kinds sz (off + ks.length) fs with
        | none => simp [hr] at h
        | some r' =>
          simp [hr] at h
          subst h
          have := kindsF_length fs _ _ hr
          simp; omega
     ·cases h
theorem kindsT_ty {P : Program} {n : Nat} {t : TypeId} {ks : List Nat} (h : kindsT P n t = some ks) : ∃ ag, tyD P t = some (ks.length, ag) ∧ (ag = false → ks.length = 1) := by
 cases n with
 | zero => simp [kindsT] at h
 | succ n =>
   unfold kindsT at h
   split at h
   ·rename_i h1 _; cases h; exact ⟨false, h1, fun _ => rfl⟩
   ·rename_i h1 _; cases h; exact ⟨false, h1, fun _ => rfl⟩
   ·rename_i h1 _; cases h; exact ⟨false, h1, fun _ => rfl⟩
   ·rename_i sz fs h1 _
    split at h
    ·cases h
    ·have := kindsF_length _ _ _ h
     exact ⟨true, by rw [h1]; simp; omega, by simp⟩
   ·rename_i sz len e h1 _
    split at h
    ·rename_i ks' hk
     split at h
     ·rename_i hs
      cases h
      refine ⟨true, by rw [h1, hs]; simp, by simp⟩
     ·cases h
    ·cases h
   ·cases h
def valOf (ag : Bool) (xs : List Value) : Value := if ag then .agg xs.toArray else xs.headD undef
theorem run_part {P : Program} {t : TypeId} {sz : Nat} {ag : Bool} (ht : tyD P t = some (sz, ag)) (hone : ag = false → sz = 1) (xs : List Value) (off : Nat) (hl : off + sz ≤ xs.length) (w : World) :
  (part t xs.toArray off).run P w = .ok (valOf ag ((xs.drop off).take sz)) w := by
 obtain ⟨r1, r2⟩ := tyD_run ht w
 cases ag with
 | true => simp only [part, Sem.run_bind, r1, r2, Result.andThen_ok, Sem.run_pure, ↓reduceIte, List.extract_toArray, List.extract_eq_take_drop, Nat.add_sub_cancel_left, valOf]
 | false =>
   have := hone rfl
   subst this
   have hx : xs[off]? = some (xs[off]'(by omega)) := List.getElem?_eq_getElem (by omega)
   simp only [part, Sem.run_bind, r2, Result.andThen_ok, Bool.false_eq_true, ↓reduceIte, List.getElem?_toArray, hx, Sem.run_pure, valOf]
   congr 1
   rw [List.drop_eq_getElem_cons (by omega)]
   rfl
theorem run_equalIn_kinds {P : Program} (w : World) : ∀ (n d : Nat), n ≤ d → ∀ (t : TypeId) (ks : List Nat) (ag : Bool), kindsT P n t = some ks → tyD P t = some (ks.length, ag) → ∀ (xs ys : List Value) (b : Bool), eqV ks xs ys = some b →
  (Op.equalIn d t (valOf ag xs) (valOf ag ys)).run P w = .ok b w
 | 0, _, _, t, _, _, h, _, _, _, _, _ => by simp [kindsT] at h
 | n + 1, 0, hd, _, _, _, _, _, _, _, _, _ => by omega
 | n + 1, d + 1, hd, t, ks, ag, h, ht, xs, ys, b, he => by
     obtain ⟨hxl, hyl⟩ := eqV_length _ _ _ _ he
     have one : ∀ (k : Nat), ks = [k] → ∃ x y, xs = [x] ∧ ys = [y] ∧ scEq k x y = some b := by
      intro k hk
      subst hk
      match xs, ys, hxl, hyl with
      | [x], [y], _, _ =>
        simp only [eqV] at he
        cases h1 : scEq k x y with
        | none => simp [h1] at he
        | some a => simp [h1] at he; subst he; exact ⟨x, y, rfl, rfl, h1⟩
     have IH : ∀ (e : TypeId) (kse : List Nat), kindsT P n e = some kse → ∀ (off : Nat) (b1 : Bool), eqV kse ((xs.drop off).take kse.length) ((ys.drop off).take kse.length) = some b1 → off + kse.length ≤ xs.length → off + kse.length ≤ ys.length →
       ∃ x y, (part e xs.toArray off).run P w = .ok x w ∧ (part e ys.toArray off).run P w = .ok y w ∧ (Op.equalIn d e x y).run P w = .ok b1 w := by
      intro e kse hk off b1 hb hx hy
      obtain ⟨age, hte, honee⟩ := kindsT_ty hk
      exact ⟨_, _, run_part hte honee xs off hx w, run_part hte honee ys off hy w, run_equalIn_kinds w n d (by omega) e kse age hk hte _ _ b1 hb⟩
     unfold kindsT at h
     split at h
     ·rename_i k h1 hu
      cases h
      rw [h1] at ht; cases ht
      obtain ⟨x, y, rfl, rfl, hs⟩ := one 0 rfl
      simp only [valOf, Bool.false_eq_true, ↓reduceIte, List.headD_cons]
      unfold scEq at hs
      split at hs <;> try (simp_all; done)
      split at hs <;> cases hs
      rename_i _ hk
      subst hk
      simp [Op.equalIn, run_underlying hu]
      rfl
     ·rename_i h1 hu
      cases h
      rw [h1] at ht; cases ht
      obtain ⟨x, y, rfl, rfl, hs⟩ := one 1 rfl
      simp only [valOf, Bool.false_eq_true, ↓reduceIte, List.headD_cons]
      unfold scEq at hs
      split at hs <;> try (simp_all; done)
      cases hs
      simp [Op.equalIn, run_underlying hu]
      rfl
     ·rename_i h1 hu
      cases h
      rw [h1] at ht; cases ht
      obtain ⟨x, y, rfl, rfl, hs⟩ := one 2 rfl
      simp only [valOf, Bool.false_eq_true, ↓reduceIte, List.headD_cons]
      unfold scEq at hs
      split at hs <;> try (simp_all; done)
      cases hs
      simp only [Op.equalIn, Sem.run_bind, run_underlying hu, Result.andThen_ok, Sem.run_pure, beq_bytes]
     ·rename_i sz fs h1 hu
      rw [h1] at ht; cases ht
      split at h
      ·cases h
      ·rename_i hp
       simp only [valOf, ↓reduceIte]
       rw [run_equalIn_struct w d t _ _ (by rw [hu]; simp [Program.fieldsOf, hu]) (by simpa using hp), show (P.fieldsOf t).toList = fs.toList by simp [Program.fieldsOf, hu]]
       have key : ∀ (fl : List Field) (off : Nat) (r : List Nat) (b1 : Bool), kindsF (kindsT P n) ks.length off fl = some r → eqV r (xs.drop off) (ys.drop off) = some b1 → (Op.eqFields d xs.toArray ys.toArray fl).run P w = .ok b1 w := by
        intro fl
        induction fl with
        | nil =>
          intro off r b1 hr hb
          simp only [kindsF] at hr
          split at hr
          ·cases hr
           rename_i ho
           rw [List.drop_eq_nil_of_le (by omega), List.drop_eq_nil_of_le (by omega)] at hb
           simp [eqV] at hb
           simp [Op.eqFields, hb]
          ·cases hr
        | cons f fl ih =>
          intro off r b1 hr hb
          have hrl := kindsF_length _ _ _ hr
          simp only [kindsF] at hr
          split at hr
          ·rename_i hc
           obtain ⟨hname, hoff⟩ := hc
           cases hk : kindsT P n f.type with
           | none => simp [hk] at hr
           | some kse =>
             simp only [hk] at hr
             cases hr' : kindsF (kindsT P n) ks.length (off + kse.length) fl with
             | none => simp [hr'] at hr
             | some r' =>
               simp [hr'] at hr
               subst hr
               simp only [List.length_append] at hrl
               obtain ⟨c1, c2, e1, e2, e3⟩ := eqV_split _ _ _ _ _ hb
               rw [List.drop_drop, List.drop_drop] at e2
               obtain ⟨x, y, p1, p2, p3⟩ := IH f.type kse hk off c1 e1 (by omega) (by omega)
               have ih' := ih _ _ _ hr' e2
               rw [← hoff] at p1 p2
               simp only [Op.eqFields, hname, ne_eq, not_false_eq_true, ↓reduceIte, Sem.run_bind, p1, p2, p3, Result.andThen_ok]
               cases c1
               ·simp [e3]
               ·simp [ih', e3]
          ·cases hr
       exact key _ 0 _ _ h (by simpa using he)
     ·rename_i sz len e h1 hu
      rw [h1] at ht; cases ht
      split at h
      ·rename_i kse hk
       split at h
       ·rename_i hs
        cases h
        obtain ⟨age, hte, honee⟩ := kindsT_ty hk
        obtain ⟨i, hi⟩ : ∃ i, P.info? e = some i := by
         unfold tyD at hte
         cases hq : P.info? e with
         | none => simp [hq] at hte
         | some i => exact ⟨i, rfl⟩
        have hcells : P.cellsOf e = kse.length := by
         obtain ⟨r1, _⟩ := tyD_run hte w
         simp [sizeOf, typeInfo, hi] at r1
         simp [Program.cellsOf, hi, r1]
        simp only [valOf, ↓reduceIte]
        rw [run_equalIn_array w d _ _ hu hi, hcells]
        have key : ∀ (m j : Nat) (b1 : Bool), j + m = len → eqV (List.replicate m kse).flatten (xs.drop (j * kse.length)) (ys.drop (j * kse.length)) = some b1 → (Op.eqItems d e kse.length xs.toArray ys.toArray (List.range' j m)).run P w = .ok b1 w := by
         intro m
         induction m with
         | zero =>
           intro j b1 hj hb
           obtain ⟨l1, l2⟩ := eqV_length _ _ _ _ hb
           simp only [List.replicate_zero, List.flatten_nil, List.length_nil] at l1 l2 hb
           rw [List.eq_nil_of_length_eq_zero l1, List.eq_nil_of_length_eq_zero l2] at hb
           simp [eqV] at hb
           simp [Op.eqItems, hb]
         | succ m ih =>
           intro j b1 hj hb
           rw [List.replicate_succ, List.flatten_cons] at hb
           obtain ⟨l1, l2⟩ := eqV_length _ _ _ _ hb
           simp only [List.length_drop, List.length_append] at l1 l2
           obtain ⟨c1, c2, e1, e2, e3⟩ := eqV_split _ _ _ _ _ hb
           rw [List.drop_drop, List.drop_drop, show j * kse.length + kse.length = (j + 1) * kse.length by rw [Nat.add_mul]; omega] at e2
           have hkl : 0 < kse.length ∨ kse.length = 0 := by omega
           have hle : j * kse.length + kse.length ≤ len * kse.length := by
            have : (j + 1) * kse.length ≤ len * kse.length := Nat.mul_le_mul_right _ (by omega)
            rwa [Nat.add_mul, Nat.one_mul] at this
           have hx' : xs.length = len * kse.length := by simpa using hxl
           have hy' : ys.length = len * kse.length := by simpa using hyl
           obtain ⟨x, y, p1, p2, p3⟩ := IH e kse hk (j * kse.length) c1 e1 (by omega) (by omega)
           have ih' := ih (j + 1) _ (by omega) e2
           simp only [List.range'_succ, Op.eqItems, Sem.run_bind, p1, p2, p3, Result.andThen_ok]
           cases c1
           ·simp [e3]
           ·simp [ih', e3]
        have := key len 0 b (by omega) (by simpa using he)
        rwa [← List.range_eq_range'] at this
       ·cases h
      ·cases h
     ·cases h
end Go.Proofs.Ytadnpgkddgbhkaa
namespace Go.Proofs.Ytadnpgkddgbhkaa
open Go.RowKit
set_option linter.all false
def nilS : DV := .d (.sc (.slice none 0 0))
def boolD (b : Bool) : DV := .d (.sc (.bool b))
def intD (i : Int) : DV := .d (.sc (.int .i64 i))
def cellsD : DV → Option (List DV)
 | .agg cs => some cs
 | .d (.sc v) => if v.oneCell' = true then some [.d (.sc v)] else none
 | .d (.slc sz xs) => some [.d (.slc sz xs)]
 | .ref b ver o => some [.ref b ver o]
 | .cref cs => some [.cref cs]
 | .view sz b ver o n => some [.view sz b ver o n]
 | .fn f cs => some [.fn f cs]
 | .any => none
 | .tup _ => none
theorem cells_one {v : Value} (h : v.oneCell' = true) : v.cells = #[v] := by cases v <;> first | rfl | simp [Value.oneCell'] at h
theorem cellsD_spec {E : Env} {x : DV} {v : Value} (hr : Rep E x v) {ds : List DV} (h : cellsD x = some ds) : ∃ vs : List Value, v.cells = vs.toArray ∧ Reps E ds vs ∧ ∀ u ∈ vs, u.oneCell' = true := by
 have one : v.oneCell' = true → ds = [x] → ∃ vs : List Value, v.cells = vs.toArray ∧ Reps E ds vs ∧ ∀ u ∈ vs, u.oneCell' = true := fun h1 h2 => by
  subst h2
  exact ⟨[v], by rw [cells_one h1], ⟨hr, trivial⟩, by simpa using h1⟩
 cases x with
 | agg cs =>
   obtain ⟨vs, rfl, h1, h2⟩ := hr
   cases h
   exact ⟨vs, rfl, h2, h1⟩
 | d p =>
   cases p with
   | sc u =>
     simp only [cellsD] at h
     split at h
     ·cases h
      rename_i h1
      exact one (by rw [show v = u from hr]; exact h1) rfl
     ·cases h
   | slc sz xs =>
     cases h
     rcases hr with ⟨_, rfl⟩ | ⟨a, c, rfl, _⟩ <;> exact one rfl rfl
 | ref b ver o =>
   cases h
   obtain ⟨bx, gz, _, _, h1, _⟩ := hr
   exact one h1 rfl
 | cref cs =>
   cases h
   obtain ⟨a, rfl, _⟩ := hr
   exact one rfl rfl
 | view sz b ver o n =>
   cases h
   obtain ⟨bx, gz, _, _, h1, _⟩ := hr
   exact one h1 rfl
 | fn f cs =>
   cases h
   obtain ⟨vs, rfl, _⟩ := hr
   exact one rfl rfl
 | any => cases h
 | tup cs => cases h
def scEqD (k : Nat) : DV → DV → Option Bool
 | .d (.sc x), .d (.sc y) => scEq k x y
 | _, _ => none
def eqD : List Nat → List DV → List DV → Option Bool
 | [], [], [] => some true
 | k :: ks, x :: xs, y :: ys => match scEqD k x y, eqD ks xs ys with
   | some a, some b => some (a && b)
   | _, _ => none
 | _, _, _ => none
theorem eqD_V {E : Env} : ∀ (ks : List Nat) (cs ds : List DV) (xs ys : List Value) (b : Bool), Reps E cs xs → Reps E ds ys → eqD ks cs ds = some b → eqV ks xs ys = some b
 | [], [], [], [], [], _, _, _, h => h
 | k :: ks, c :: cs, d :: ds, x :: xs, y :: ys, b, ⟨h1, h2⟩, ⟨h3, h4⟩, h => by
     simp only [eqD] at h
     cases e1 : scEqD k c d with
     | none => simp [e1] at h
     | some a =>
       cases e2 : eqD ks cs ds with
       | none => simp [e1, e2] at h
       | some b' =>
         simp [e1, e2] at h
         have := eqD_V ks cs ds xs ys b' h2 h4 e2
         unfold scEqD at e1
         split at e1
         ·simp only [Rep, RepP] at h1 h3
          subst h1; subst h3
          simp [eqV, e1, this, h]
         ·cases e1
 | [], [], _ :: _, _, _, _, _, _, h => by simp [eqD] at h
 | [], _ :: _, _, _, _, _, _, _, h => by simp [eqD] at h
 | _ :: _, [], _, _, _, _, _, _, h => by simp [eqD] at h
 | _ :: _, _ :: _, [], _, _, _, _, _, h => by simp [eqD] at h
 | [], [], [], _ :: _, _, _, h, _, _ => h.elim
 | [], [], [], [], _ :: _, _, _, h, _ => h.elim
 | _ :: _, _ :: _, _ :: _, [], _, _, h, _, _ => h.elim
 | _ :: _, _ :: _, _ :: _, _ :: _, [], _, _, h, _ => h.elim
def ltb (x y : ByteArray) : Bool := Op.bytesLess x.toList y.toList
def bitsV (k : IntKind) (f : {n : Nat} → BitVec n → BitVec n → BitVec n) (a b : Int) : Int := k.wrap (f (BitVec.ofInt k.bits a) (BitVec.ofInt k.bits b)).toNat
def intBin (op : BinOp) (k k' : IntKind) (a b : Int) (K : DV → Prop) : Prop :=
 match op with
 | .add => k = k' ∧ K (.d (.sc (.int k (k.wrap (a + b)))))
 | .sub => k = k' ∧ K (.d (.sc (.int k (k.wrap (a - b)))))
 | .mul => k = k' ∧ K (.d (.sc (.int k (k.wrap (a * b)))))
 | .quo => k = k' ∧ b ≠ 0 ∧ K (.d (.sc (.int k (k.wrap (a.tdiv b)))))
 | .rem => k = k' ∧ b ≠ 0 ∧ K (.d (.sc (.int k (a.tmod b))))
 | .and => k = k' ∧ K (.d (.sc (.int k (bitsV k (· &&& ·) a b))))
 | .or => k = k' ∧ K (.d (.sc (.int k (bitsV k (· ||| ·) a b))))
 | .xor => k = k' ∧ K (.d (.sc (.int k (bitsV k (· ^^^ ·) a b))))
 | .shl => 0 ≤ b ∧ K (.d (.sc (.int k (k.wrap (a * 2 ^ (min b.toNat k.bits))))))
 | .shr => 0 ≤ b ∧ K (.d (.sc (.int k (a.fdiv (2 ^ (min b.toNat k.bits))))))
 | .eql => k = k' ∧ K (.d (.sc (.bool (decide (a = b)))))
 | .neq => k = k' ∧ K (.d (.sc (.bool (!decide (a = b)))))
 | .lss => k = k' ∧ K (.d (.sc (.bool (decide (a < b)))))
 | .leq => k = k' ∧ K (.d (.sc (.bool (decide (a ≤ b)))))
 | .gtr => k = k' ∧ K (.d (.sc (.bool (decide (b < a)))))
 | .geq => k = k' ∧ K (.d (.sc (.bool (decide (b ≤ a)))))
 | _ => False
def strBin (op : BinOp) (a b : ByteArray) (K : DV → Prop) : Prop :=
 match op with
 | .add => a.size + b.size ≤ maxLen ∧ K (.d (.sc (.string (a ++ b))))
 | .eql => K (.d (.sc (.bool (decide (a = b)))))
 | .neq => K (.d (.sc (.bool (!decide (a = b)))))
 | .lss => K (.d (.sc (.bool (ltb a b))))
 | .leq => K (.d (.sc (.bool (ltb a b || decide (a = b)))))
 | .gtr => K (.d (.sc (.bool (!(ltb a b || decide (a = b))))))
 | .geq => K (.d (.sc (.bool (!ltb a b))))
 | _ => False
def eqK (op : BinOp) (b : Bool) (K : DV → Prop) : Prop :=
 match op with
 | .eql => K (.d (.sc (.bool b)))
 | .neq => K (.d (.sc (.bool (!b))))
 | _ => False
def notNil (st : Store) : DV → Bool
 | .d (.slc _ xs) => !xs.isEmpty
 | .view _ b ver _ _ => match st[b]? with
   | some bx => bx.ver == ver
   | none => false
 | _ => false
def notNilP (st : Store) : DV → Bool
 | .ref b ver _ => match st[b]? with
   | some bx => bx.ver == ver
   | none => false
 | .cref _ => true
 | _ => false
def isAggD (P : Program) (t : TypeId) : Bool := match tyD P t with
 | some (_, b) => b
 | none => false
def binD (P : Program) (st : Store) (op : BinOp) (t : TypeId) (x y : DV) (K : DV → Prop) : Prop :=
 match x, y with
 | .d (.sc (.int k a)), .d (.sc (.int k' b)) => intBin op k k' a b K
 | .d (.sc (.string a)), .d (.sc (.string b)) => strBin op a b K
 | .d (.sc (.bool a)), .d (.sc (.bool b)) => P.underlying t = some .bool ∧ eqK op (decide (a = b)) K
 | .agg cs, .agg ds => P.eqGuardType P.depth t = false ∧ isAggD P t = true ∧ match kindsT P 20 t with
   | some ks => match eqD ks cs ds with
     | some b => eqK op b K
     | none => False
   | none => False
 | .d (.sc (.slice none 0 0)), .d (.sc (.slice none 0 0)) => (slD P t).isSome = true ∧ eqK op true K
 | .d (.slc _ []), .d (.sc (.slice none 0 0)) => (slD P t).isSome = true ∧ eqK op true K ∧ eqK op false K
 | x, .d (.sc (.slice none 0 0)) => notNil st x = true ∧ (slD P t).isSome = true ∧ eqK op false K
 | .d (.sc (.pointer none)), .d (.sc (.pointer none)) => (match P.underlying t with | some (.pointer _) => True | _ => False) ∧ eqK op true K
 | x, .d (.sc (.pointer none)) => notNilP st x = true ∧ (match P.underlying t with | some (.pointer _) => True | _ => False) ∧ eqK op false K
 | _, _ => False
theorem bin_int {P : Program} {op : BinOp} {t : TypeId} {k k' : IntKind} {a b : Int} {K : DV → Prop} (h : intBin op k k' a b K) (w : World) : ∃ u d, (binOp op t (.int k a) (.int k' b)).run P w = .ok u w ∧ K d ∧ d = .d (.sc u) := by
 cases op <;> simp only [intBin] at h <;> try exact h.elim
 all_goals first
  | (obtain ⟨rfl, hb, h⟩ := h; exact ⟨_, _, by simp [binOp, Op.intDiv, hb], h, rfl⟩)
  | (obtain ⟨hb, h⟩ := h; first
      | (subst hb; exact ⟨_, _, by simp [binOp, Op.intArith, Op.intBits, Op.intCmp, bitsV] <;> rfl, h, rfl⟩)
      | exact ⟨_, _, by simp [binOp, Op.shift, Int.not_lt.2 hb] <;> rfl, h, rfl⟩)
theorem bin_str {P : Program} {op : BinOp} {t : TypeId} {a b : ByteArray} {K : DV → Prop} (h : strBin op a b K) (w : World) : ∃ u d, (binOp op t (.string a) (.string b)).run P w = .ok u w ∧ K d ∧ d = .d (.sc u) := by
 cases op <;> simp only [strBin] at h <;> try exact h.elim
 case add =>
  have hm : ¬ ((9223372036854775807 : Int) < (a.size : Int) + (b.size : Int)) := by have := h.1; simp only [maxLen] at this; omega
  exact ⟨_, _, by simp [binOp, Op.stringOp, IntKind.max, IntKind.signed, IntKind.bits, hm] <;> rfl, h.2, rfl⟩
 all_goals exact ⟨_, _, by simp [binOp, Op.stringOp, ltb, ← toList_bytes] <;> rfl, h, rfl⟩
theorem guard_int {P : Program} (op : BinOp) (t : TypeId) (x y : Operand) (k k' : IntKind) (a b : Int) (w : World) : (eqGuard op t x y (.int k a) (.int k' b)).run P w = .ok () w := by
 unfold eqGuard; split <;> rfl
theorem guard_str {P : Program} (op : BinOp) (t : TypeId) (x y : Operand) (a b : ByteArray) (w : World) : (eqGuard op t x y (.string a) (.string b)).run P w = .ok () w := by
 unfold eqGuard; split <;> rfl
theorem guard_bool {P : Program} (op : BinOp) (t : TypeId) (x y : Operand) (a b : Bool) (w : World) : (eqGuard op t x y (.bool a) (.bool b)).run P w = .ok () w := by
 unfold eqGuard; split <;> rfl
theorem guard_sl {P : Program} (op : BinOp) (t : TypeId) (x y : Operand) (a b : Option Addr) (n c n' c' : Nat) (w : World) : (eqGuard op t x y (.slice a n c) (.slice b n' c')).run P w = .ok () w := by
 unfold eqGuard; split <;> rfl
theorem guard_ptr {P : Program} (op : BinOp) (t : TypeId) (x y : Operand) (a b : Option Addr) (w : World) : (eqGuard op t x y (.pointer a) (.pointer b)).run P w = .ok () w := by
 unfold eqGuard; split <;> rfl
theorem run_equal_nil {P : Program} {t : TypeId} (h : (slD P t).isSome = true) (w : World) (a : Option Addr) (n c : Nat) : (Op.equal t (.slice a n c) (.slice none 0 0)).run P w = .ok a.isNone w := by
 cases hs : slD P t with
 | none => simp [hs] at h
 | some q =>
   obtain ⟨hu, _⟩ := slD_spec (e := q.1) (sz := q.2) hs
   simp only [Op.equal, Op.maxDepth]
   exact Go.Lib.run_equalIn_slice_nil w 9999 t _ a n c 0 0 hu
theorem run_equal_ptr {P : Program} {t : TypeId} (h : (match P.underlying t with | some (.pointer _) => True | _ => False)) (w : World) (a : Addr) : (Op.equal t (.pointer (some a)) (.pointer none)).run P w = .ok false w := by
 cases hu : P.underlying t with
 | none => simp [hu] at h
 | some u =>
   cases u <;> try (simp [hu] at h; done)
   have key : ∀ d, (Op.equalIn (d + 1) t (.pointer (some a)) (.pointer none)).run P w = .ok false w := fun d => by simp [Op.equalIn, run_underlying hu]
   exact key 9999
theorem run_equal_nilP {P : Program} {t : TypeId} (h : (match P.underlying t with | some (.pointer _) => True | _ => False)) (w : World) : (Op.equal t (.pointer none) (.pointer none)).run P w = .ok true w := by
 cases hu : P.underlying t with
 | none => simp [hu] at h
 | some u =>
   cases u <;> try (simp [hu] at h; done)
   have key : ∀ d, (Op.equalIn (d + 1) t (.pointer none) (.pointer none)).run P w = .ok true w := fun d => by simp [Op.equalIn, run_underlying hu]
   exact key 9999
theorem run_equal_bool {P : Program} {t : TypeId} (hu : P.underlying t = some .bool) (w : World) (a b : Bool) : (Op.equal t (.bool a) (.bool b)).run P w = .ok (decide (a = b)) w := by
 have key : ∀ d, (Op.equalIn (d + 1) t (.bool a) (.bool b)).run P w = .ok (decide (a = b)) w := fun d => by
  simp only [Op.equalIn, Sem.run_bind, run_underlying hu, Result.andThen_ok, Sem.run_pure]
  rfl
 exact key 9999
theorem eqK_ok {op : BinOp} {b : Bool} {K : DV → Prop} (h : eqK op b K) : (op = .eql ∧ K (.d (.sc (.bool b)))) ∨ (op = .neq ∧ K (.d (.sc (.bool (!b))))) := by
 cases op <;> simp only [eqK] at h <;> first | exact h.elim | exact .inl ⟨rfl, h⟩ | exact .inr ⟨rfl, h⟩
theorem notNil_sl {E : Env} {x : DV} {v : Value} (hr : Rep E x v) (h : notNil E.st x = true) : ∃ a n c, v = .slice (some a) n c := by
 unfold notNil at h
 split at h
 ·rcases hr with ⟨rfl, _⟩ | ⟨a, c, rfl, _⟩
  ·simp at h
  ·exact ⟨_, _, _, rfl⟩
 ·obtain ⟨bx, gz, hb, hg, _, _, hv⟩ := hr
  simp only [hb, beq_iff_eq] at h
  obtain ⟨c, rfl, _⟩ := hv h.symm
  exact ⟨_, _, _, rfl⟩
 ·cases h
theorem notNil_ptr {E : Env} {x : DV} {v : Value} (hr : Rep E x v) (h : notNilP E.st x = true) : ∃ a, v = .pointer (some a) := by
 unfold notNilP at h
 split at h
 ·obtain ⟨bx, gz, hb, hg, _, _, hv⟩ := hr
  simp only [hb, beq_iff_eq] at h
  exact ⟨_, hv h.symm⟩
 ·obtain ⟨a, rfl, _⟩ := hr
  exact ⟨_, rfl⟩
 ·cases h
theorem bin_ok {P : Program} {E : Env} {op : BinOp} {t : TypeId} {x y : DV} {v u : Value} (hx : Rep E x v) (hy : Rep E y u) (ox oy : Operand) {K : DV → Prop} (h : binD P E.st op t x y K) :
  ∃ r d, (do eqGuard op t ox oy v u; binOp op t v u : Sem Value).run P E.w = .ok r E.w ∧ K d ∧ Rep E d r := by
 unfold binD at h
 split at h
 ·simp only [Rep, RepP] at hx hy
  subst hx; subst hy
  obtain ⟨r, d, h1, h2, rfl⟩ := bin_int (P := P) (t := t) h E.w
  exact ⟨r, _, by simp [guard_int, h1], h2, rfl⟩
 ·simp only [Rep, RepP] at hx hy
  subst hx; subst hy
  obtain ⟨r, d, h1, h2, rfl⟩ := bin_str (P := P) (t := t) h E.w
  exact ⟨r, _, by simp [guard_str, h1], h2, rfl⟩
 ·simp only [Rep, RepP] at hx hy
  subst hx; subst hy
  obtain ⟨hu, h⟩ := h
  rename_i a b
  have he := run_equal_bool hu E.w a b
  rcases eqK_ok h with ⟨rfl, h⟩ | ⟨rfl, h⟩
  ·exact ⟨_, _, by simp [guard_bool, binOp, he] <;> rfl, h, rfl⟩
  ·exact ⟨_, _, by simp [guard_bool, binOp, he] <;> rfl, h, rfl⟩
 ·obtain ⟨hgd, hag, h⟩ := h
  obtain ⟨xs, rfl, _, hxs⟩ := hx
  obtain ⟨ys, rfl, _, hys⟩ := hy
  split at h
  ·rename_i ks hk
   split at h
   ·rename_i b hb
    have hv := eqD_V _ _ _ _ _ _ hxs hys hb
    obtain ⟨ag, ht, hone⟩ := kindsT_ty hk
    obtain ⟨lx, ly⟩ := eqV_length _ _ _ _ hv
    cases ag with
    | false => simp [isAggD, ht] at hag
    | true =>
      have he : (Op.equalIn 10000 t (.agg xs.toArray) (.agg ys.toArray)).run P E.w = .ok b E.w := by
       have := run_equalIn_kinds (P := P) E.w 20 10000 (by omega) t ks true hk ht xs ys b hv
       simpa [valOf] using this
      rcases eqK_ok h with ⟨rfl, h⟩ | ⟨rfl, h⟩
      ·exact ⟨_, _, by simp only [Sem.run_bind, run_eqGuard_agg E.w _ t ox oy _ _ hgd, Result.andThen_ok, run_eql_struct, he] <;> rfl, h, rfl⟩
      ·exact ⟨_, _, by simp only [Sem.run_bind, run_eqGuard_agg E.w _ t ox oy _ _ hgd, Result.andThen_ok, run_neq_struct, he] <;> rfl, h, rfl⟩
   ·exact h.elim
  ·exact h.elim
 ·simp only [Rep, RepP] at hx hy
  subst hx; subst hy
  obtain ⟨hs, h⟩ := h
  have he := run_equal_nil hs E.w none 0 0
  rcases eqK_ok h with ⟨rfl, h⟩ | ⟨rfl, h⟩
  ·exact ⟨_, _, by simp [guard_sl, binOp, he] <;> rfl, h, rfl⟩
  ·exact ⟨_, _, by simp [guard_sl, binOp, he] <;> rfl, h, rfl⟩
 ·obtain ⟨hs, k1, k2⟩ := h
  simp only [Rep, RepP] at hy
  subst hy
  rcases hx with ⟨_, rfl⟩ | ⟨a, c, rfl, _⟩
  ·have he := run_equal_nil hs E.w none 0 0
   rcases eqK_ok k1 with ⟨rfl, h⟩ | ⟨rfl, h⟩
   ·exact ⟨_, _, by simp [guard_sl, binOp, he] <;> rfl, h, rfl⟩
   ·exact ⟨_, _, by simp [guard_sl, binOp, he] <;> rfl, h, rfl⟩
  ·have he := run_equal_nil hs E.w (some a) ([] : List (List PD)).length c
   rcases eqK_ok k2 with ⟨rfl, h⟩ | ⟨rfl, h⟩
   ·exact ⟨_, _, by simp only [Sem.run_bind, guard_sl, Result.andThen_ok, binOp, he] <;> rfl, h, rfl⟩
   ·exact ⟨_, _, by simp only [Sem.run_bind, guard_sl, Result.andThen_ok, binOp, he] <;> rfl, h, rfl⟩
 ·obtain ⟨hn, hs, h⟩ := h
  simp only [Rep, RepP] at hy
  subst hy
  obtain ⟨a, n, c, rfl⟩ := notNil_sl hx hn
  have he := run_equal_nil hs E.w (some a) n c
  rcases eqK_ok h with ⟨rfl, h⟩ | ⟨rfl, h⟩
  ·exact ⟨_, _, by simp [guard_sl, binOp, he] <;> rfl, h, rfl⟩
  ·exact ⟨_, _, by simp [guard_sl, binOp, he] <;> rfl, h, rfl⟩
 ·obtain ⟨hs, h⟩ := h
  simp only [Rep, RepP] at hx hy
  subst hx; subst hy
  have he := run_equal_nilP hs E.w
  rcases eqK_ok h with ⟨rfl, h⟩ | ⟨rfl, h⟩
  ·exact ⟨_, _, by simp [guard_ptr, binOp, he] <;> rfl, h, rfl⟩
  ·exact ⟨_, _, by simp [guard_ptr, binOp, he] <;> rfl, h, rfl⟩
 ·obtain ⟨hn, hs, h⟩ := h
  simp only [Rep, RepP] at hy
  subst hy
  obtain ⟨a, rfl⟩ := notNil_ptr hx hn
  have he := run_equal_ptr hs E.w a
  rcases eqK_ok h with ⟨rfl, h⟩ | ⟨rfl, h⟩
  ·exact ⟨_, _, by simp [guard_ptr, binOp, he] <;> rfl, h, rfl⟩
  ·exact ⟨_, _, by simp [guard_ptr, binOp, he] <;> rfl, h, rfl⟩
 ·exact h.elim
end Go.Proofs.Ytadnpgkddgbhkaa
namespace Go.Proofs.Ytadnpgkddgbhkaa
open Go.RowKit
set_option linter.all false
def unD (op : UnOp) (x : DV) (K : DV → Prop) : Prop :=
 match op, x with
 | .not, .d (.sc (.bool b)) => K (.d (.sc (.bool (!b))))
 | .neg, .d (.sc (.int k n)) => K (.d (.sc (.int k (k.wrap (0 - n)))))
 | .xor, .d (.sc (.int k n)) => K (.d (.sc (.int k (bitsV k (· ^^^ ·) (if k.signed then -1 else k.max) n))))
 | _, _ => False
theorem un_ok {P : Program} {E : Env} {op : UnOp} {x : DV} {v : Value} (hx : Rep E x v) {K : DV → Prop} (h : unD op x K) : ∃ r d, (Op.unary op v).run P E.w = .ok r E.w ∧ K d ∧ Rep E d r := by
 unfold unD at h
 split at h
 all_goals first
  | (simp only [Rep, RepP] at hx; subst hx; exact ⟨_, _, rfl, h, rfl⟩)
  | exact h.elim
def bytesP (bs : List UInt8) : List (List PD) := bs.map fun b => [.sc (.int .u8 b.toNat)]
theorem bytesP_length (a : List UInt8) : (bytesP a).length = a.length := by simp [bytesP]
theorem bytesP_append (a b : List UInt8) : bytesP a ++ bytesP b = bytesP (a ++ b) := by simp [bytesP]
theorem bytesP_flat (a : List UInt8) : (bytesP a).flatten = a.map fun b => PD.sc (.int .u8 b.toNat) := by
 induction a with
 | nil => rfl
 | cons b a ih => simp only [bytesP, List.map_cons, List.flatten_cons, List.cons_append, List.nil_append] at ih ⊢; rw [ih]
def convD (P : Program) (src dst : TypeId) (x : DV) (K : DV → Prop) : Prop :=
 match P.underlying src, P.underlying dst, x with
 | some _, some (.int k), .d (.sc (.int _ n)) => K (.d (.sc (.int k (k.wrap n))))
 | some _, some .string, .d (.sc (.string s)) => K (.d (.sc (.string s)))
 | some (.slice e), some .string, .d (.slc 1 xs) => P.underlying e = some (.int .u8) ∧ ∃ bs, xs = bytesP bs ∧ K (.d (.sc (.string ⟨bs.toArray⟩)))
 | some (.slice e), some .string, .d (.sc (.slice none 0 0)) => P.underlying e = some (.int .u8) ∧ K (.d (.sc (.string .empty)))
 | _, _, _ => False
theorem run_bytesToString {P : Program} (w : World) (a : Addr) (bs : List UInt8) (c : Nat) (h : ∀ (j : Nat) (v : Value), (bs.map fun b => Value.int .u8 b.toNat)[j]? = some v → w.cell? (a.add j) = some v) :
  (Conv.bytesToString (.slice (some a) bs.length c)).run P w = .ok (.string ⟨bs.toArray⟩) w := by
 have hl := run_loadCells_list (P := P) w a (bs.map fun b => Value.int .u8 b.toNat) h
 simp only [List.length_map] at hl
 simp only [Conv.bytesToString, Sem.run_bind, hl, Result.andThen_ok]
 rw [← Array.forIn_toList]
 have key : ∀ (f : Value → ByteArray → Sem (ForInStep ByteArray)), (∀ (b : UInt8) (s : ByteArray), (f (.int .u8 b.toNat) s).run P w = .ok (.yield (s.push b)) w) →
   ∀ (l : List UInt8) (acc : ByteArray), (forIn (l.map fun b => Value.int .u8 b.toNat) acc f).run P w = .ok ⟨acc.data ++ l.toArray⟩ w := by
  intro f hf l
  induction l with
  | nil => intro acc; simp
  | cons b l ih =>
    intro acc
    simp only [List.map_cons, List.forIn_cons, Sem.run_bind, hf, Result.andThen_ok, ih]
    congr 2
    apply Array.ext'
    simp [ByteArray.push]
 rw [key _ (fun b s => by simp) bs ByteArray.empty]
 simp
theorem conv_ok {P : Program} {E : Env} {src dst : TypeId} {x : DV} {v : Value} (hx : Rep E x v) {K : DV → Prop} (h : convD P src dst x K) : ∃ r d, (convert src dst v).run P E.w = .ok r E.w ∧ K d ∧ Rep E d r := by
 unfold convD at h
 split at h
 ·rename_i hs hd
  simp only [Rep, RepP] at hx; subst hx
  exact ⟨_, _, by simp only [convert, Sem.run_bind, run_underlying hs, run_underlying hd, Result.andThen_ok]; rfl, h, rfl⟩
 ·rename_i u s hs hd
  simp only [Rep, RepP] at hx; subst hx
  refine ⟨.string s, _, ?_, h, rfl⟩
  simp only [convert, Sem.run_bind, run_underlying hs, run_underlying hd, Result.andThen_ok]
  cases u <;> rfl
 ·rename_i e xs hs hd
  obtain ⟨he, bs, rfl, h⟩ := h
  rcases hx with ⟨hnil, rfl⟩ | ⟨a, c, rfl, h1, h2, h3, h4⟩
  ·have hb : bs = [] := List.eq_nil_of_length_eq_zero (by rw [← bytesP_length, hnil]; rfl)
   subst hb
   exact ⟨.string .empty, _, by simp only [convert, Sem.run_bind, run_underlying hs, run_underlying hd, Result.andThen_ok, run_underlying he]; rfl, h, rfl⟩
  obtain ⟨f1, f2⟩ := RowsP.flat _ _ h4
  refine ⟨.string ⟨bs.toArray⟩, _, ?_, h, rfl⟩
  have hb := run_bytesToString (P := P) E.w a bs c (fun j v hj => by
   rw [List.getElem?_map] at hj
   cases hq : bs[j]? with
   | none => simp [hq] at hj
   | some b =>
     simp [hq] at hj
     subst hj
     obtain ⟨u, g1, g2, g3⟩ := f1.get _ _ j (.sc (.int .u8 b.toNat)) (by rw [bytesP_flat]; simp [hq])
     rw [g1, show u = _ from g3])
  simp only [convert, Sem.run_bind, run_underlying hs, run_underlying hd, Result.andThen_ok, run_underlying he, bytesP_length, hb]
 ·rename_i e hs hd
  obtain ⟨he, h⟩ := h
  simp only [Rep, RepP] at hx; subst hx
  exact ⟨.string .empty, _, by simp only [convert, Sem.run_bind, run_underlying hs, run_underlying hd, Result.andThen_ok, run_underlying he]; rfl, h, rfl⟩
 ·exact h.elim
def boundD (dflt : Int) : Option DV → Option Int
 | none => some dflt
 | some d => intOfD d
theorem bound_run {E : Env} {x : Option DV} {v : Option Value} (hx : match x, v with | none, none => True | some d, some u => Rep E d u | _, _ => False) {dflt : Nat} {i : Int} (h : boundD dflt x = some i) :
  (x = none ∧ v = none ∧ i = dflt) ∨ (∃ k, v = some (.int k i)) := by
 cases x with
 | none =>
   cases v with
   | none => simp [boundD] at h; exact .inl ⟨rfl, rfl, h.symm⟩
   | some _ => exact hx.elim
 | some d =>
   cases v with
   | none => exact hx.elim
   | some u =>
     obtain ⟨k, rfl⟩ := intOfD_spec h
     simp only [Rep, RepP] at hx
     subst hx
     exact .inr ⟨k, rfl⟩
theorem run_bounds {P : Program} {E : Env} {isS : Bool} {len cap : Nat} {lo hi : Option DV} {vl vh : Option Value} (hl : match lo, vl with | none, none => True | some d, some u => Rep E d u | _, _ => False)
  (hh : match hi, vh with | none, none => True | some d, some u => Rep E d u | _, _ => False) {l h : Int} (el : boundD 0 lo = some l) (eh : boundD len hi = some h) (h0 : 0 ≤ l) (h1 : l ≤ h) (h2 : h ≤ cap) :
  (Instr.sliceBounds isS len cap vl vh none).run P E.w = .ok (l.toNat, h.toNat, cap) E.w := by
 rcases bound_run hh eh with ⟨rfl, rfl, rfl⟩ | ⟨k, rfl⟩
 ·rcases bound_run (dflt := 0) hl el with ⟨rfl, rfl, rfl⟩ | ⟨k', rfl⟩
  ·simp [Instr.sliceBounds]
  ·simp [Instr.sliceBounds, Instr.sliceBound, asIntOf, h0, h1]
 ·have h3 : 0 ≤ h := by omega
  rcases bound_run (dflt := 0) hl el with ⟨rfl, rfl, rfl⟩ | ⟨k', rfl⟩
  ·simp [Instr.sliceBounds, Instr.sliceBound, asIntOf, h3, h2]
  ·have h4 : max h 0 = h := by omega
   simp [Instr.sliceBounds, Instr.sliceBound, asIntOf, h3, h2, h0, h1, h4]
def slice2D (bx : Box) (sz b o n : Nat) (l h : Int) (K : DV → Prop) : Prop :=
 (0 ≤ l ∧ l ≤ h ∧ 0 < sz ∧ bx.live = true) ∧ (h ≤ n ∨ (bx.ext = false ∧ o + h.toNat * sz ≤ bx.cells.length)) ∧ (l = 0 ∨ l < n ∨ (bx.ext = false ∧ o + l.toNat * sz < bx.cells.length)) ∧ K (.view sz b bx.ver (o + l.toNat * sz) (h.toNat - l.toNat))
def sliceD (P : Program) (st : Store) (t : TypeId) (x : DV) (lo hi : Option DV) (K : DV → Prop) : Prop :=
 match x with
 | .d (.sc (.string s)) => P.underlying t = some .string ∧ match boundD 0 lo, boundD s.size hi with
   | some l, some h => (0 ≤ l ∧ l ≤ h ∧ h ≤ s.size) ∧ K (.d (.sc (.string (s.extract l.toNat h.toNat))))
   | _, _ => False
 | .d (.slc sz xs) => match slD P t, boundD 0 lo, boundD xs.length hi with
   | some (_, sz'), some l, some h => sz' = sz ∧ (0 ≤ l ∧ l ≤ h ∧ h ≤ xs.length) ∧ K (.d (.slc sz ((xs.drop l.toNat).take (h.toNat - l.toNat))))
   | _, _, _ => False
 | .d (.sc (.slice none 0 0)) => match slD P t, boundD 0 lo, boundD 0 hi with
   | some _, some l, some h => (l = 0 ∧ h = 0) ∧ K nilS
   | _, _, _ => False
 | .view sz b ver o n => match slD P t, boundD 0 lo, boundD n hi, st[b]? with
   | some (_, sz'), some l, some h, some bx => sz' = sz ∧ ver = bx.ver ∧ (((0 ≤ l ∧ l ≤ h ∧ h ≤ n) ∧ (l = 0 → K (.view sz b ver o h.toNat)) ∧ (0 < l → l = h → K (.d (.slc sz []))) ∧ (0 < l → l < h → K (.view sz b ver (o + l.toNat * sz) (h.toNat - l.toNat)))) ∨ slice2D bx sz b o n l h K)
   | _, _, _, _ => False
 | _ => False
theorem slice_ok {P : Program} {E : Env} (hc : Conc E) {t : TypeId} {x : DV} {v : Value} {lo hi : Option DV} {vl vh : Option Value} (hx : Rep E x v) (hl0 : match lo, vl with | none, none => True | some d, some u => Rep E d u | _, _ => False)
  (hh0 : match hi, vh with | none, none => True | some d, some u => Rep E d u | _, _ => False) {K : DV → Prop} (h : sliceD P E.st t x lo hi K) :
  ∃ r d, (Instr.sliceAt t v vl vh none).run P E.w = .ok r E.w ∧ K d ∧ Rep E d r := by
 unfold sliceD at h
 split at h
 ·rename_i s
  obtain ⟨hu, h⟩ := h
  split at h
  ·rename_i l hh' e1 e2
   obtain ⟨⟨h0, h1, h2⟩, h⟩ := h
   simp only [Rep, RepP] at hx; subst hx
   have hb := run_bounds (P := P) (isS := false) (cap := s.size) hl0 hh0 e1 e2 h0 h1 h2
   exact ⟨_, _, by simp only [Instr.sliceAt, Instr.slice, Sem.run_bind, run_underlying hu, Result.andThen_ok, Option.isSome_none, Bool.false_eq_true, ↓reduceIte, hb, Sem.run_pure], h, rfl⟩
  ·exact h.elim
 ·rename_i sz xs
  split at h
  ·rename_i e' sz' l hh' hs e1 e2
   obtain ⟨rfl, ⟨h0, h1, h2⟩, h⟩ := h
   obtain ⟨hu, _, hsz⟩ := slD_spec hs
   rcases hx with ⟨rfl, rfl⟩ | ⟨a, c, rfl, hc1, hc2, hS, hR⟩
   ·simp only [List.length_nil, Int.natCast_zero] at h2 e2
    have hb := run_bounds (P := P) (isS := true) (len := 0) (cap := 0) hl0 hh0 e1 e2 h0 h1 (by omega)
    have hl0 : l.toNat = 0 := by omega
    have hh0 : hh'.toNat = 0 := by omega
    exact ⟨.slice none 0 0, _, by simp [Instr.sliceAt, Instr.slice, run_underlying hu, hb, hsz, hl0, hh0], h, .inl ⟨by simp, rfl⟩⟩
   have hb := run_bounds (P := P) (isS := true) (cap := c) hl0 hh0 e1 e2 h0 h1 (by omega)
   refine ⟨.slice (if c = l.toNat then some a else (some a).map (·.add (l.toNat * sz'))) (hh'.toNat - l.toNat) (c - l.toNat), _, by simp only [Instr.sliceAt, Instr.slice, Sem.run_bind, run_underlying hu, Result.andThen_ok, hb, hsz, Sem.run_pure], h, ?_⟩
   have hlen : ((xs.drop l.toNat).take (hh'.toNat - l.toNat)).length = hh'.toNat - l.toNat := by simp; omega
   by_cases hcl : c = l.toNat
   ·have hnil : (xs.drop l.toNat).take (hh'.toNat - l.toNat) = [] := List.eq_nil_of_length_eq_zero (by omega)
    refine .inr ⟨a, c - l.toNat, ?_, ?_, by omega, fun hx => absurd hnil hx, by rw [hnil]; trivial⟩
    ·rw [hlen, if_pos hcl]
    ·rw [hlen]; omega
   ·refine .inr ⟨a.add (l.toNat * sz'), c - l.toNat, ?_, ?_, by omega, fun hx => ?_, (hR.cut _ _ _).take _ _ _⟩
    ·rw [hlen, if_neg hcl]; rfl
    ·rw [hlen]; omega
    ·rw [block_add]
     exact hS (fun e => hx (by simp [e]))
  ·exact h.elim
 ·split at h
  ·rename_i q l hh' hs e1 e2
   obtain ⟨⟨rfl, rfl⟩, h⟩ := h
   simp only [Rep, RepP] at hx; subst hx
   obtain ⟨hu, _, hsz⟩ := slD_spec (e := q.1) (sz := q.2) hs
   have hb := run_bounds (P := P) (isS := true) (len := 0) (cap := 0) hl0 hh0 e1 e2 (by omega) (by omega) (by omega)
   exact ⟨.slice none 0 0, _, by simp [Instr.sliceAt, Instr.slice, run_underlying hu, hb, hsz], h, rfl⟩
  ·exact h.elim
 ·rename_i sz b ver o n
  split at h
  ·rename_i e' sz' l hh' bx hs e1 e2 hb'
   obtain ⟨rfl, rfl, h⟩ := h
   obtain ⟨bx', gz, hb, hg, hone, hle, hv⟩ := hx
   rw [hb] at hb'
   cases hb'
   obtain ⟨c, rfl, hc1, hc2, hc3⟩ := hv rfl
   obtain ⟨hu, _, hsz⟩ := slD_spec hs
   rcases h with ⟨⟨h0, h1, h2⟩, k0, k1, k2⟩ | ⟨⟨h0, h1, hz0, hl⟩, h2, h3, k⟩
   rotate_left
   ·obtain ⟨cur, a1, a2, a3, a4, a5, a6, a7, a8⟩ := hc.box b bx gz.1 gz.2 hb hg hl
    have hcap : bx.ext = false → o + c * sz' = bx.cells.length := fun he => by have := a4 he; omega
    have hh : hh'.toNat ≤ c := by
     rcases h2 with h2 | ⟨he, h2⟩
     ·omega
     ·have := hcap he
      exact Nat.le_of_mul_le_mul_right (by omega : hh'.toNat * sz' ≤ c * sz') hz0
    have hlc : l.toNat = 0 ∨ l.toNat < c := by
     rcases h3 with h3 | h3 | ⟨he, h3⟩
     ·omega
     ·omega
     ·have := hcap he
      exact .inr (Nat.lt_of_mul_lt_mul_right (a := sz') (by omega))
    have hbd := run_bounds (P := P) (isS := true) (len := n) (cap := c) hl0 hh0 e1 e2 h0 h1 (by omega)
    refine ⟨.slice (if c = l.toNat then some ⟨gz.1, o, none⟩ else (some (⟨gz.1, o, none⟩ : Addr)).map (·.add (l.toNat * sz'))) (hh'.toNat - l.toNat) (c - l.toNat), _, by simp only [Instr.sliceAt, Instr.slice, Sem.run_bind, run_underlying hu, Result.andThen_ok, hbd, hsz, Sem.run_pure], k, bx, gz, hb, hg, ?_, Nat.le_refl _, fun _ => ⟨c - l.toNat, ?_, by omega, by omega, ?_⟩⟩
    ·rfl
    ·have hadd : (⟨gz.1, o, none⟩ : Addr).add (l.toNat * sz') = ⟨gz.1, o + l.toNat * sz', none⟩ := by unfold Addr.add; split <;> simp_all
     simp only [Option.map_some, hadd]
     split
     ·rename_i hcl
      have hl0 : l.toNat = 0 := by omega
      rw [hl0]; simp
     ·rfl
    ·have h5 : l.toNat * sz' + (c - l.toNat) * sz' = c * sz' := by rw [← Nat.add_mul]; congr 1; omega
     omega
   have hbd := run_bounds (P := P) (isS := true) (cap := c) hl0 hh0 e1 e2 h0 h1 (by omega)
   by_cases hl0 : l = 0
   ·subst hl0
    refine ⟨.slice (some ⟨gz.1, o, none⟩) hh'.toNat c, _, ?_, k0 rfl, bx, gz, hb, hg, rfl, Nat.le_refl _, fun _ => ⟨c, rfl, by omega, hc2, hc3⟩⟩
    have hadd : (⟨gz.1, o, none⟩ : Addr).add (0 * sz') = ⟨gz.1, o, none⟩ := by simp [Addr.add]
    simp only [Instr.sliceAt, Instr.slice, Sem.run_bind, run_underlying hu, Result.andThen_ok, hbd, hsz, Sem.run_pure, Int.toNat_zero, Nat.sub_zero, Option.map_some, hadd, ite_self]
   have hlp : 0 < l := by omega
   by_cases hlh : l = hh'
   ·subst hlh
    refine ⟨.slice (if c = l.toNat then some ⟨gz.1, o, none⟩ else (some (⟨gz.1, o, none⟩ : Addr)).map (·.add (l.toNat * sz'))) (l.toNat - l.toNat) (c - l.toNat), _, by simp only [Instr.sliceAt, Instr.slice, Sem.run_bind, run_underlying hu, Result.andThen_ok, hbd, hsz, Sem.run_pure], k1 hlp rfl, ?_⟩
    by_cases hcl : c = l.toNat
    ·exact .inr ⟨⟨gz.1, o, none⟩, c - l.toNat, by simp [hcl], by simp, by omega, fun hx => absurd rfl hx, trivial⟩
    ·exact .inr ⟨(⟨gz.1, o, none⟩ : Addr).add (l.toNat * sz'), c - l.toNat, by simp [hcl], by simp, by omega, fun hx => absurd rfl hx, trivial⟩
   ·refine ⟨.slice (if c = l.toNat then some ⟨gz.1, o, none⟩ else (some (⟨gz.1, o, none⟩ : Addr)).map (·.add (l.toNat * sz'))) (hh'.toNat - l.toNat) (c - l.toNat), _, by simp only [Instr.sliceAt, Instr.slice, Sem.run_bind, run_underlying hu, Result.andThen_ok, hbd, hsz, Sem.run_pure], k2 hlp (by omega), bx, gz, hb, hg, rfl, Nat.le_refl _, fun _ => ⟨c - l.toNat, ?_, by omega, by omega, ?_⟩⟩
    ·rw [if_neg (by omega)]
     simp only [Option.map_some]
     congr 2
     unfold Addr.add; split <;> simp_all
    ·have h5 : l.toNat * sz' + (c - l.toNat) * sz' = c * sz' := by rw [← Nat.add_mul]; congr 1; omega
     omega
  ·exact h.elim
 ·exact h.elim
def lenD (P : Program) (st : Store) (t : TypeId) (x : DV) (K : DV → Prop) : Prop :=
 match x with
 | .d (.sc (.string s)) => P.underlying t = some .string ∧ K (.d (.sc (.int .i64 s.size)))
 | .d (.slc _ xs) => (slD P t).isSome = true ∧ K (.d (.sc (.int .i64 xs.length)))
 | .d (.sc (.slice none 0 0)) => (slD P t).isSome = true ∧ K (.d (.sc (.int .i64 0)))
 | .view _ b ver _ n => match st[b]? with
   | some bx => ver = bx.ver ∧ (slD P t).isSome = true ∧ K (.d (.sc (.int .i64 n)))
   | none => False
 | .agg _ => match arrD P t with
   | some (n, _, _) => K (.d (.sc (.int .i64 n)))
   | none => False
 | _ => False
theorem slD_some {P : Program} {t : TypeId} (h : (slD P t).isSome = true) : ∃ e, P.underlying t = some (.slice e) := by
 cases hs : slD P t with
 | none => simp [hs] at h
 | some q => exact ⟨q.1, (slD_spec (e := q.1) (sz := q.2) hs).1⟩
theorem len_ok {P : Program} {E : Env} {t ty : TypeId} {x : DV} {v : Value} (hx : Rep E x v) {K : DV → Prop} (h : lenD P E.st t x K) : ∃ r d, (Builtin.len_ #[t] ty #[v]).run P E.w = .ok r E.w ∧ K d ∧ Rep E d r := by
 unfold lenD at h
 split at h
 ·obtain ⟨hu, h⟩ := h
  simp only [Rep, RepP] at hx; subst hx
  exact ⟨_, _, by simp [Builtin.len_, run_underlying hu] <;> rfl, h, rfl⟩
 ·obtain ⟨hs, h⟩ := h
  obtain ⟨e, hu⟩ := slD_some hs
  rcases hx with ⟨rfl, rfl⟩ | ⟨a, c, rfl, _⟩
  ·exact ⟨_, _, by simp [Builtin.len_, run_underlying hu] <;> rfl, h, rfl⟩
  exact ⟨_, _, by simp [Builtin.len_, run_underlying hu] <;> rfl, h, rfl⟩
 ·obtain ⟨hs, h⟩ := h
  obtain ⟨e, hu⟩ := slD_some hs
  simp only [Rep, RepP] at hx; subst hx
  exact ⟨_, _, by simp [Builtin.len_, run_underlying hu] <;> rfl, h, rfl⟩
 ·split at h
  ·rename_i bx hb'
   obtain ⟨rfl, hs, h⟩ := h
   obtain ⟨e, hu⟩ := slD_some hs
   obtain ⟨bx', gz, hb, hg, hone, hle, hv⟩ := hx
   rw [hb] at hb'
   cases hb'
   obtain ⟨c, rfl, hc1, hc2, hc3⟩ := hv rfl
   exact ⟨_, _, by simp [Builtin.len_, run_underlying hu] <;> rfl, h, rfl⟩
  ·exact h.elim
 ·split at h
  ·rename_i n e sz ha
   obtain ⟨hu, _⟩ := arrD_spec ha
   obtain ⟨vs, rfl, _⟩ := hx
   exact ⟨_, _, by simp [Builtin.len_, run_underlying hu] <;> rfl, h, rfl⟩
  ·exact h.elim
 ·exact h.elim
end Go.Proofs.Ytadnpgkddgbhkaa
namespace Go.Proofs.Ytadnpgkddgbhkaa
open Go.RowKit
set_option linter.all false
def Ends (P : Program) (E : Env) (c : Sem Value) (K : DV → Store → Prop) : Prop :=
 ∃ v E' d, c.run P E.w = .ok v E'.w ∧ K d E'.st ∧ Conc E' ∧ Ext E E' ∧ Rep E' d v
theorem Ends.pure {P : Program} {E : Env} (hc : Conc E) {c : Sem Value} {K : DV → Store → Prop} (h : ∃ u d, c.run P E.w = .ok u E.w ∧ K d E.st ∧ Rep E d u) : Ends P E c K := by
 obtain ⟨u, d, h1, h2, h3⟩ := h
 exact ⟨u, E, d, h1, h2, hc, Ext.refl E, h3⟩
theorem ref_new (E : Env) (w' : World) (S' : Nat → Prop) (g z : Nat) (bx : Box) (hl : E.σ.length = E.st.length) :
  Rep ⟨w', S', E.σ ++ [(g, z)], E.st ++ [bx]⟩ (.ref E.st.length bx.ver 0) (.pointer (some ⟨g, 0, none⟩)) := by
 refine ⟨bx, (g, z), by simp, ?_, rfl, Nat.le_refl _, fun _ => rfl⟩
 simp only
 rw [← hl]
 simp
theorem run_newVar {P : Program} (w : World) (t : TypeId) (v : Value) : (newVar t v).run P w = .ok ⟨w.heap.size, 0, none⟩ (w.alloc (.cells v.cells t)) := rfl
theorem run_newRow {P : Program} (w : World) (t : TypeId) (cs : Array Value) : (newRow t cs).run P w = .ok ⟨w.heap.size, 0, none⟩ (w.alloc (.cells cs t)) := rfl
def boxD (st : Store) (t : TypeId) (x : DV) (K : DV → Store → Prop) : Prop :=
 match cellsD x with
 | some ds => ds.length ≤ 1000000 ∧ K (.ref st.length 0 0) (st ++ [⟨t, ds, false, 0, true⟩])
 | none => False
theorem box_ok {P : Program} {E : Env} (hc : Conc E) {t : TypeId} {x : DV} {v : Value} (hx : Rep E x v) {K : DV → Store → Prop} (h : boxD E.st t x K) : Ends P E (Instr.box t v) K := by
 unfold boxD at h
 split at h
 ·rename_i ds hd
  obtain ⟨hmax, h⟩ := h
  obtain ⟨vs, h1, h2, h3⟩ := cellsD_spec hx hd
  have hl := h2.length
  obtain ⟨c1, c2⟩ := newBox hc vs.toArray t ds false (by simp [hl]) (by simp [hl]) trivial
   (fun j d hj => by
     obtain ⟨u, e1, e2⟩ := h2.get _ _ j d hj
     exact ⟨u, by simpa using e1, oneL h3 e1, e2⟩) (fun j u hj => oneL h3 (by simpa using hj))
  refine ⟨.pointer (some ⟨E.w.heap.size, 0, none⟩), _, _, ?_, h, c1, c2, ?_⟩
  ·simp [Instr.box, run_newVar, h1]
  ·exact ref_new E _ _ _ _ ⟨t, ds, false, 0, true⟩ hc.len
 ·exact h.elim
theorem zeroD_spec {P : Program} {t : TypeId} {ds : List DV} (h : zeroD P t = some ds) : ∃ z i, P.info? t = some i ∧ i.zero = some z ∧ z.cells.size = i.size ∧ (∀ u ∈ z.cells.toList, u.oneCell' = true) ∧ i.size ≤ 1000000 ∧ ds = z.cells.toList.map fun v => .d (.sc v) := by
 unfold zeroD at h
 split at h
 ·rename_i i hi
  split at h
  ·rename_i z hz
   split at h
   ·rename_i hq
    cases h
    exact ⟨z, i, hi, hz, hq.1, List.all_eq_true.1 hq.2.1, hq.2.2, rfl⟩
   ·cases h
  ·cases h
 ·cases h
theorem zero_reps (E : Env) : ∀ vs : List Value, Reps E (vs.map fun v => .d (.sc v)) vs
 | [] => trivial
 | _ :: vs => ⟨rfl, zero_reps E vs⟩
def allocD (P : Program) (st : Store) (t : TypeId) (K : DV → Store → Prop) : Prop :=
 match zeroD P t with
 | some ds => K (.ref st.length 0 0) (st ++ [⟨t, ds, false, 0, true⟩])
 | none => False
theorem alloc_ok {P : Program} {E : Env} (hc : Conc E) {t : TypeId} {K : DV → Store → Prop} (h : allocD P E.st t K) : Ends P E (Instr.alloc t true (.tuple #[])) K := by
 unfold allocD at h
 split at h
 ·rename_i ds hd
  obtain ⟨z, i, h1, h2, h3, h4, h5, rfl⟩ := zeroD_spec hd
  have hR := zero_reps E z.cells.toList
  obtain ⟨c1, c2⟩ := newBox hc z.cells t (z.cells.toList.map fun v => .d (.sc v)) false (by simp) (by simp) trivial
   (fun j d hj => by
     obtain ⟨u, e1, e2⟩ := hR.get _ _ j d hj
     exact ⟨u, by simpa using e1, oneL h4 e1, e2⟩) (fun j u hj => oneL h4 (by simpa using hj))
  refine ⟨.pointer (some ⟨E.w.heap.size, 0, none⟩), _, _, ?_, h, c1, c2, ?_⟩
  ·simp [Instr.alloc, zeroValue, typeInfo, h1, h2, run_newVar]
  ·exact ref_new E _ _ _ _ ⟨t, _, false, 0, true⟩ hc.len
 ·exact h.elim
def splice (cs : List DV) (o : Nat) (ds : List DV) : List DV := cs.take o ++ ds ++ cs.drop (o + ds.length)
theorem splice_length (cs : List DV) (o : Nat) (ds : List DV) (h : o + ds.length ≤ cs.length) : (splice cs o ds).length = cs.length := by simp [splice]; omega
theorem splice_get {α : Type} (cs ds : List α) (o : Nat) (h : o + ds.length ≤ cs.length) (j : Nat) : (cs.take o ++ ds ++ cs.drop (o + ds.length))[j]? = if o ≤ j ∧ j < o + ds.length then ds[j - o]? else cs[j]? := by
 simp only [List.getElem?_append, List.length_append, List.length_take, List.getElem?_take, List.getElem?_drop]
 by_cases h1 : j < o
 ·simp [h1, show j < min o cs.length + ds.length by omega, show j < min o cs.length by omega, show ¬ o ≤ j by omega]
 ·by_cases h2 : j < o + ds.length
  ·rw [if_pos (by omega), if_neg (by omega), if_pos (by omega), show min o cs.length = o by omega]
  ·simp [h2, show ¬ j < min o cs.length + ds.length by omega, show o + ds.length + (j - (min o cs.length + ds.length)) = j by omega]
theorem write_ok {E : Env} (hc : Conc E) {b g z : Nat} {bx : Box} (hb : E.st[b]? = some bx) (hg : E.σ[b]? = some (g, z)) (hl : bx.live = true) {o : Nat} {ds : List DV} {vs : List Value} (hR : Reps E ds vs) (hone : ∀ u ∈ vs, u.oneCell' = true)
  (hfit : o + ds.length ≤ bx.cells.length) (P : Program) :
  ∃ E' : Env, (storeCells ⟨g, o, none⟩ vs).run P E.w = .ok () E'.w ∧ E'.st = E.st.set b { bx with cells := splice bx.cells o ds } ∧ E'.S = E.S ∧ E'.σ = E.σ ∧ Conc E' ∧ Ext E E' := by
 obtain ⟨cur, a1, a2, a3, a4, a5, a6, a7, a8⟩ := hc.box b bx g z hb hg hl
 have hlen := hR.length
 have hst := run_storeCells_at P g o bx.ty vs 0 cur E.w a1 (by omega) hone
 simp only [Nat.add_zero] at hst
 have hset : E.σ.set b (g, z) = E.σ := by
  apply List.ext_getElem?
  intro j
  by_cases hj : b = j
  ·subst hj; rw [hg]; simp [(List.getElem?_eq_some_iff.1 hg).1]
  ·simp [hj]
 have key := turnBox hc hb hg (E.w.setRow g (cur.toList.take o ++ vs ++ cur.toList.drop (o + vs.length)).toArray) g z (cur.toList.take o ++ vs ++ cur.toList.drop (o + vs.length)).toArray { bx with cells := splice bx.cells o ds }
  (by simp) rfl rfl rfl (fun k _ hk => setRow_other E.w g k _ hk) hl (setRow_heap E.w g cur _ bx.ty _ a1) (by simp; omega) (Nat.le_refl _) (fun _ => rfl) (.inl rfl)
  (by rw [splice_length _ _ _ hfit]; exact a3) (fun he => by rw [splice_length _ _ _ hfit]; exact a4 he) trivial
  (fun j d hj => by
    have h2 := splice_get cur.toList vs o (by simp; omega) j
    rw [splice, splice_get _ _ _ hfit] at hj
    simp only [List.getElem?_toArray]
    rw [h2]
    split at hj
    ·rename_i hq
     rw [if_pos (by omega)]
     obtain ⟨u, e1, e2⟩ := hR.get _ _ _ _ hj
     exact ⟨u, e1, oneL hone e1, e2⟩
    ·rename_i hq
     rw [if_neg (by omega)]
     simpa using a7 j d hj)
  (fun j u hj => by
    have h2 := splice_get cur.toList vs o (by simp; omega) j
    simp only [List.getElem?_toArray] at hj
    rw [h2] at hj
    split at hj
    ·exact oneL hone hj
    ·exact a8 j u (by simpa using hj))
 rw [hset] at key
 exact ⟨⟨E.w.setRow g (cur.toList.take o ++ vs ++ cur.toList.drop (o + vs.length)).toArray, E.S, E.σ, E.st.set b { bx with cells := splice bx.cells o ds }⟩, hst, rfl, rfl, rfl, key.1, key.2⟩
def storeD (P : Program) (st : Store) (t : TypeId) (a x : DV) (K : Store → Prop) : Prop :=
 match tyD P t, a, cellsD x with
 | some (sz, _), .ref b ver o, some ds => match st[b]? with
   | some bx => bx.live = true ∧ ver = bx.ver ∧ ds.length = sz ∧ o + sz ≤ bx.cells.length ∧ K (st.set b { bx with cells := splice bx.cells o ds })
   | none => False
 | _, _, _ => False
theorem store_ok {P : Program} {E : Env} (hc : Conc E) {t : TypeId} {x y : DV} {a v : Value} (ha : Rep E y a) (hx : Rep E x v) {K : Store → Prop} (h : storeD P E.st t y x K) :
  ∃ E', (Instr.storeAt t a v).run P E.w = .ok () E'.w ∧ K E'.st ∧ Conc E' ∧ Ext E E' := by
 unfold storeD at h
 split at h
 ·rename_i sz ag b ver o ds ht hd
  split at h
  ·rename_i bx hb'
   obtain ⟨hl, rfl, hds, hfit, h⟩ := h
   obtain ⟨bx', gz, hb, hg, hone, hle, hv⟩ := ha
   rw [hb] at hb'
   cases hb'
   rw [hv rfl]
   obtain ⟨vs, h1, h2, h3⟩ := cellsD_spec hx hd
   obtain ⟨E', r1, r2, r3, r4, r5, r6⟩ := write_ok hc hb hg hl h2 h3 (o := o) (by omega) P
   obtain ⟨q1, _⟩ := tyD_run ht E.w
   have hlen := h2.length
   refine ⟨E', ?_, by rw [r2]; exact h, r5, r6⟩
   simp [Instr.storeAt, Instr.sureAddr, storeVar, q1, h1, show vs.length = sz by omega, r1]
  ·exact h.elim
 ·exact h.elim
def placeD (P : Program) (t : TypeId) (i : Nat) : Option (Nat × Nat) :=
 match P.underlying t with
 | some (.array _ e) => match P.info? e with
   | some ie => some (i * ie.size, ie.size)
   | none => none
 | some (.struct fs) => match fs.toList.mapM (fun f => (P.info? f.type).map fun i => (f.offset, i.size)) with
   | some places => places[i]?
   | none => none
 | _ => none
def fillD (place : Nat → Option (Nat × Nat)) (cells : List DV) : List (Nat × DV) → Option (List DV)
 | [] => some cells
 | (i, x) :: rest => match place i, cellsD x with
   | some (off, size), some ds => if ds.length = size ∧ off + size ≤ cells.length then fillD place (splice cells off ds) rest else none
   | _, _ => none
theorem foldl_fill (off : Nat) : ∀ (l : List Value) (k : Nat) (cs : Array Value), off + k + l.length ≤ cs.size →
  ((l.zipIdx k).foldl (fun cs (c : Value × Nat) => cs.setIfInBounds (off + c.2) c.1) cs).toList = cs.toList.take (off + k) ++ l ++ cs.toList.drop (off + k + l.length)
 | [], k, cs, _ => by simp
 | v :: l, k, cs, h => by
     simp only [List.length_cons] at h
     simp only [List.zipIdx_cons, List.foldl_cons]
     rw [foldl_fill off l (k + 1) _ (by simp; omega)]
     have e := list_seg_step cs.toList (off + k) v l (by simp; omega)
     simpa [Array.toList_setIfInBounds, Nat.add_assoc] using e
theorem foldl_fill' (off : Nat) (c : Array Value) (cs : Array Value) (h : off + c.size ≤ cs.size) :
  c.zipIdx.foldl (fun cs (p : Value × Nat) => cs.setIfInBounds (off + p.2) p.1) cs = (cs.toList.take off ++ c.toList ++ cs.toList.drop (off + c.size)).toArray := by
 apply Array.ext'
 rw [← Array.foldl_toList, Array.toList_zipIdx]
 have := foldl_fill off c.toList 0 cs (by simpa using h)
 simpa using this
theorem fill_ok {E : Env} (place : Nat → Option (Nat × Nat)) : ∀ (parts : List (Nat × DV)) (vparts : List (Nat × Value)), parts.length = vparts.length →
  (∀ (j : Nat) (p : Nat × DV) (q : Nat × Value), parts[j]? = some p → vparts[j]? = some q → p.1 = q.1 ∧ Rep E p.2 q.2) → ∀ (cells : List DV) (vs : Array Value), Reps E cells vs.toList → (∀ u ∈ vs.toList, u.oneCell' = true) → ∀ out, fillD place cells parts = some out →
  ∃ vout : Array Value, Instr.fill place vs vparts = some vout ∧ Reps E out vout.toList ∧ ∀ u ∈ vout.toList, u.oneCell' = true
 | [], [], _, _, cells, vs, hR, h1, out, h => by
     cases h
     exact ⟨vs, rfl, hR, h1⟩
 | (i, x) :: parts, (i', v) :: vparts, hl, hp, cells, vs, hR, h1, out, h => by
     obtain ⟨rfl, hx⟩ := hp 0 _ _ rfl rfl
     simp only [fillD] at h
     split at h
     ·rename_i off size ds hpl hd
      split at h
      ·rename_i hq
       obtain ⟨hq1, hq2⟩ := hq
       obtain ⟨us, e1, e2, e3⟩ := cellsD_spec hx hd
       have hlen := e2.length
       have hvl := hR.length
       have hsz : vs.size = cells.length := by rw [hvl]; simp
       have hus : v.cells.size = us.length := by rw [e1]; simp
       have hfit : off + us.length ≤ vs.toList.length := by simp; omega
       obtain ⟨vout, k1, k2, k3⟩ := fill_ok place parts vparts (by simpa using hl) (fun j p q hp' hq' => hp (j + 1) p q (by simpa using hp') (by simpa using hq')) (splice cells off ds) (vs.toList.take off ++ us ++ vs.toList.drop (off + us.length)).toArray
        (Reps.of_get _ _ (by rw [splice_length _ _ _ (by omega)]; simp; omega) (fun j d u hj hu => by
          rw [splice, splice_get _ _ _ (by omega)] at hj
          simp only at hu
          rw [splice_get _ _ _ hfit] at hu
          split at hj
          ·rw [if_pos (by omega)] at hu
           obtain ⟨u', g1, g2⟩ := e2.get _ _ _ _ hj
           rw [g1] at hu; cases hu; exact g2
          ·rw [if_neg (by omega)] at hu
           obtain ⟨u', g1, g2⟩ := hR.get _ _ _ _ hj
           rw [g1] at hu; cases hu; exact g2))
        (fun u hu => by
          simp only [List.mem_append] at hu
          rcases hu with (hu | hu) | hu
          ·exact h1 u (List.mem_of_mem_take hu)
          ·exact e3 u hu
          ·exact h1 u (List.mem_of_mem_drop hu)) out h
       refine ⟨vout, ?_, k2, k3⟩
       unfold Instr.fill
       have hno : ¬ ((v.cells.size ≠ size) || decide (off + v.cells.size > vs.size)) = true := by simp; omega
       simp only [hpl]
       rw [if_neg (by simpa using hno)]
       have hf := foldl_fill' off v.cells vs (by rw [hus]; simpa using hfit)
       rw [e1] at hf ⊢
       simp only [List.size_toArray] at hf
       rw [← k1]
       exact congrArg (fun c => Instr.fill place c vparts) hf
      ·cases h
     ·cases h
 | [], _ :: _, hl, _, _, _, _, _, _, _ => by simp at hl
 | _ :: _, [], hl, _, _, _, _, _, _, _ => by simp at hl
def buildOk (P : Program) (t : TypeId) : Bool := match P.underlying t with
 | some (.array _ e) => (P.info? e).isSome
 | some (.struct fs) => (fs.toList.mapM (fun f => (P.info? f.type).map fun i => (f.offset, i.size))).isSome
 | _ => false
def buildD (P : Program) (t : TypeId) (parts : List (Nat × DV)) (K : DV → Prop) : Prop :=
 buildOk P t = true ∧ match zeroD P t with
 | some z => match fillD (placeD P t) z parts with
   | some cs => K (.agg cs)
   | none => False
 | none => False
theorem build_ok {P : Program} {E : Env} {t : TypeId} {parts : List (Nat × DV)} {vparts : List (Nat × Value)} (hl : parts.length = vparts.length)
  (hp : ∀ (j : Nat) (p : Nat × DV) (q : Nat × Value), parts[j]? = some p → vparts[j]? = some q → p.1 = q.1 ∧ Rep E p.2 q.2) {K : DV → Prop} (h : buildD P t parts K) :
  ∃ u d, (Instr.build t vparts.toArray).run P E.w = .ok u E.w ∧ K d ∧ Rep E d u := by
 unfold buildD at h
 obtain ⟨hag, h⟩ := h
 split at h
 ·rename_i z hz
  split at h
  ·rename_i cs hcs
   obtain ⟨zv, i, h1, h2, h3, h4, h5, rfl⟩ := zeroD_spec hz
   obtain ⟨vout, k1, k2, k3⟩ := fill_ok (E := E) (placeD P t) parts vparts hl hp _ zv.cells (zero_reps E _) h4 cs hcs
   refine ⟨.agg vout, .agg cs, run_build E.w t vparts.toArray vout ?_, h, vout.toList, by simp, k3, k2⟩
   unfold Program.built
   cases hu : P.underlying t with
   | none => simp [buildOk, hu] at hag
   | some u =>
     cases u <;> try (simp [buildOk, hu] at hag; done)
     ·rename_i n e
      simp only [h1, h2]
      cases hi : P.info? e with
      | none => simp [buildOk, hu, hi] at hag
      | some ie =>
        simp only
        rw [← k1]
        congr 1
        funext j
        simp [placeD, hu, hi]
     ·rename_i fs
      simp only [h1, h2]
      cases hm : fs.toList.mapM (fun f => (P.info? f.type).map fun i => (f.offset, i.size)) with
      | none => simp [buildOk, hu, hm] at hag
      | some places =>
        simp only
        rw [← k1]
        congr 1
        funext j
        simp [placeD, hu, hm]
  ·exact h.elim
 ·exact h.elim
def buildSliceD (P : Program) (st : Store) (t : TypeId) (len : Nat) (parts : List (Nat × DV)) (K : DV → Store → Prop) : Prop :=
 match slD P t with
 | some (e, sz) => len * sz ≤ 100000 ∧ match zeroD P e with
   | some z => z.length = sz ∧ 0 < sz ∧ match fillD (fun i => some (i * sz, sz)) (List.replicate len z).flatten parts with
     | some cs => K (.view sz st.length 0 0 len) (st ++ [⟨e, cs, false, 0, true⟩])
     | none => False
   | none => False
 | none => False
theorem flat_rep {α : Type} (z : List α) : ∀ (n j : Nat), j < n * z.length → (List.replicate n z).flatten[j]? = z[j % z.length]?
 | 0, j, h => by simp at h
 | n + 1, j, h => by
     rw [List.replicate_succ, List.flatten_cons, List.getElem?_append]
     split
     ·rename_i hj
      rw [Nat.mod_eq_of_lt hj]
     ·rename_i hj
      rw [Nat.add_mul, Nat.one_mul] at h
      rw [flat_rep z n (j - z.length) (by omega), ← Nat.mod_eq_sub_mod (by omega)]
theorem zeros_eq (z : Array Value) (n : Nat) (hz : 0 < z.size) : ((Array.range (n * z.size)).map (z[· % z.size]!)).toList = (List.replicate n z.toList).flatten := by
 apply List.ext_getElem?
 intro j
 by_cases hj : j < n * z.size
 ·rw [flat_rep z.toList n j (by simpa using hj)]
  have hm : j % z.size < z.size := Nat.mod_lt _ hz
  simp [hj, hm]
 ·rw [List.getElem?_eq_none (by simp; omega), List.getElem?_eq_none (by simp; omega)]
theorem reps_flat {E : Env} (ds : List DV) (vs : List Value) (h : Reps E ds vs) : ∀ n, Reps E (List.replicate n ds).flatten (List.replicate n vs).flatten
 | 0 => trivial
 | n + 1 => by
     rw [List.replicate_succ, List.replicate_succ, List.flatten_cons, List.flatten_cons]
     exact Reps.append _ _ _ _ h (reps_flat ds vs h n)
theorem view_new (E : Env) (w' : World) (S' : Nat → Prop) (g z sz n c : Nat) (bx : Box) (hl : E.σ.length = E.st.length) (hz : c * sz = z) (hn : n ≤ c) (hm : c ≤ maxLen) :
  Rep ⟨w', S', E.σ ++ [(g, z)], E.st ++ [bx]⟩ (.view sz E.st.length bx.ver 0 n) (.slice (some ⟨g, 0, none⟩) n c) := by
 refine ⟨bx, (g, z), by simp, ?_, rfl, Nat.le_refl _, fun _ => ⟨c, rfl, hn, hm, by simpa using hz⟩⟩
 simp only
 rw [← hl]
 simp
theorem buildSlice_run {P : Program} {E : Env} {t e : TypeId} {len sz : Nat} {parts : List (Nat × DV)} {vparts : List (Nat × Value)} {z cs : List DV} (hl : parts.length = vparts.length)
  (hp : ∀ (j : Nat) (p : Nat × DV) (q : Nat × Value), parts[j]? = some p → vparts[j]? = some q → p.1 = q.1 ∧ Rep E p.2 q.2) (hs : slD P t = some (e, sz)) (hlim : len * sz ≤ 100000) (hz : zeroD P e = some z) (hzl : z.length = sz) (hpos : 0 < sz)
  (hcs : fillD (fun i => some (i * sz, sz)) (List.replicate len z).flatten parts = some cs) :
  ∃ vout : Array Value, (Instr.buildSlice t len vparts.toArray).run P E.w = .ok (.slice (some ⟨E.w.heap.size, 0, none⟩) len len) (E.w.alloc (.cells vout e)) ∧ vout.size = len * sz ∧ Reps E cs vout.toList ∧ ∀ u ∈ vout.toList, u.oneCell' = true := by
 obtain ⟨zv, i, h1, h2, h3, h4, h5, rfl⟩ := zeroD_spec hz
 simp only [List.length_map, Array.length_toList] at hzl
 subst hzl
 obtain ⟨hu, _, hsz⟩ := slD_spec hs
 have hze := zeros_eq zv.cells len hpos
 obtain ⟨vout, k1, k2, k3⟩ := fill_ok (E := E) (fun i => some (i * zv.cells.size, zv.cells.size)) parts vparts hl hp _ ((Array.range (len * zv.cells.size)).map (zv.cells[· % zv.cells.size]!))
  (by rw [hze]; exact reps_flat _ _ (zero_reps E _) len)
  (by rw [hze]; intro u hu'; simp only [List.mem_flatten, List.mem_replicate] at hu'; obtain ⟨l, ⟨_, rfl⟩, hm⟩ := hu'; exact h4 u hm) cs hcs
 have hsize : vout.size = len * zv.cells.size := by
  have : ∀ (parts : List (Nat × Value)) (c o : Array Value), Instr.fill (fun i => some (i * zv.cells.size, zv.cells.size)) c parts = some o → o.size = c.size := by
   intro parts
   induction parts with
   | nil => intro c o h; simp [Instr.fill] at h; rw [h]
   | cons p parts ih =>
     intro c o h
     obtain ⟨i, v⟩ := p
     simp only [Instr.fill] at h
     split at h
     ·cases h
     ·have h' := ih _ _ h
      rw [h']
      have : ∀ (l : List (Value × Nat)) (f : Nat → Nat) (c : Array Value), (l.foldl (fun cs (x : Value × Nat) => cs.setIfInBounds (f x.2) x.1) c).size = c.size := by
       intro l f
       induction l with
       | nil => intro c; rfl
       | cons x l ih => intro c; simp [ih]
      rw [← Array.foldl_toList]
      exact this _ (fun j => i * zv.cells.size + j) _
  have := this _ _ _ k1
  simpa using this
 refine ⟨vout, ?_, hsize, k2, k3⟩
 ·have hn1 : ¬ (len * zv.cells.size > 2 ^ 24) := by omega
  simp only [Instr.buildSlice, Sem.run_bind, run_underlying hu, Result.andThen_ok, hsz, hn1, ↓reduceIte]
  by_cases h0 : len * zv.cells.size = 0
  ·have hl0 : len = 0 := by
    rcases Nat.mul_eq_zero.1 h0 with h | h
    ·exact h
    ·omega
   subst hl0
   have k1' : Instr.fill (fun i => some (i * zv.cells.size, zv.cells.size)) #[] vparts = some vout := by simpa [Array.range_zero'] using k1
   simp [Array.range_zero', k1', run_newRow]
  ·have hzv : (zeroValue e).run P E.w = .ok zv E.w := by simp [zeroValue, typeInfo, h1, h2]
   simp only [h0, ↓reduceIte, Sem.run_bind, hzv, Sem.run_pure, Result.andThen_ok]
   rw [k1]
   simp [run_newRow]
theorem buildSlice_ok {P : Program} {E : Env} (hc : Conc E) {t : TypeId} {len : Nat} {parts : List (Nat × DV)} {vparts : List (Nat × Value)} (hl : parts.length = vparts.length)
  (hp : ∀ (j : Nat) (p : Nat × DV) (q : Nat × Value), parts[j]? = some p → vparts[j]? = some q → p.1 = q.1 ∧ Rep E p.2 q.2) {K : DV → Store → Prop} (h : buildSliceD P E.st t len parts K) :
  Ends P E (Instr.buildSlice t len vparts.toArray) K := by
 unfold buildSliceD at h
 split at h
 ·rename_i e sz hs
  obtain ⟨hlim, h⟩ := h
  split at h
  ·rename_i z hz
   obtain ⟨hzl, hpos, h⟩ := h
   split at h
   ·rename_i cs hcs
    obtain ⟨vout, hrun, hsize, k2, k3⟩ := buildSlice_run (P := P) hl hp hs hlim hz hzl hpos hcs
    have hout := k2.length
    obtain ⟨c1, c2⟩ := newBox hc vout e cs false (by rw [hout]; simp) (fun _ => by rw [hout]; simp) trivial
     (fun j d hj => by
       obtain ⟨u, e1, e2⟩ := k2.get _ _ j d hj
       exact ⟨u, by simpa using e1, oneL k3 e1, e2⟩) (fun j u hj => oneL k3 (by simpa using hj))
    refine ⟨.slice (some ⟨E.w.heap.size, 0, none⟩) len len, _, _, hrun, h, c1, c2, ?_⟩
    exact view_new E _ _ _ _ _ len len ⟨e, cs, false, 0, true⟩ hc.len (by rw [hsize]) (Nat.le_refl _) (by
     have : len * 1 ≤ len * sz := Nat.mul_le_mul_left _ hpos
     simp only [maxLen]; omega)
   ·exact h.elim
  ·exact h.elim
 ·exact h.elim
def makeD (P : Program) (st : Store) (t : TypeId) (l c : DV) (K : DV → Store → Prop) : Prop :=
 match slD P t, intOfD l, intOfD c with
 | some (e, sz), some l, some c => match zeroD P e, P.info? e with
   | some z, some i => z.length = sz ∧ 0 < sz ∧ (0 ≤ l ∧ l ≤ c ∧ c ≤ 281474976710656 ∧ i.bytes * c ≤ 281474976710656 ∧ c * sz ≤ 9223372036854775807) ∧
      (l = c → K (.view sz st.length 0 0 l.toNat) (st ++ [⟨e, (List.replicate l.toNat z).flatten, false, 0, true⟩])) ∧
      (l < c → K (.view sz st.length 0 0 l.toNat) (st ++ [⟨e, (List.replicate l.toNat z).flatten, true, 0, true⟩]))
   | _, _ => False
 | _, _, _ => False
theorem rep_prefix {α : Type} (z : List α) (m n : Nat) (h : m ≤ n) (j : Nat) (x : α) (hx : (List.replicate m z).flatten[j]? = some x) : (List.replicate n z).flatten[j]? = some x := by
 obtain ⟨k, rfl⟩ : ∃ k, n = m + k := ⟨n - m, by omega⟩
 rw [← List.replicate_append_replicate, List.flatten_append, List.getElem?_append_left (List.getElem?_eq_some_iff.1 hx).1]
 exact hx
theorem make_ok {P : Program} {E : Env} (hc : Conc E) {t : TypeId} {x y : DV} {vl vc : Value} (hx : Rep E x vl) (hy : Rep E y vc) {K : DV → Store → Prop} (h : makeD P E.st t x y K) :
  Ends P E (Instr.makeSlice t vl vc) K := by
 unfold makeD at h
 split at h
 ·rename_i e sz l c hs hl hcc
  obtain ⟨kl, rfl⟩ := intOfD_spec hl
  obtain ⟨kc, rfl⟩ := intOfD_spec hcc
  simp only [Rep, RepP] at hx hy
  subst hx; subst hy
  split at h
  ·rename_i z i hz hi
   obtain ⟨hzl, hpos, ⟨b0, b1, b2, b3, b4⟩, h1, h2⟩ := h
   obtain ⟨zv, i', e1, e2, e3, e4, e5, rfl⟩ := zeroD_spec hz
   rw [hi] at e1
   cases e1
   simp only [List.length_map, Array.length_toList] at hzl
   subst hzl
   obtain ⟨hu, _, hsz⟩ := slD_spec hs
   have hr := run_make (P := P) E.w t e i zv hu hi e2 kl kc l c b0 b1 b3 (by omega)
   have hmc : madeCells zv.cells (c.toNat * i.size) = (Array.range (c.toNat * zv.cells.size)).map (zv.cells[· % zv.cells.size]!) := by rw [← e3]; rfl
   have hze := zeros_eq zv.cells c.toNat hpos
   have hsize : (madeCells zv.cells (c.toNat * i.size)).size = c.toNat * zv.cells.size := by rw [size_madeCells, e3]
   have hle : l.toNat * zv.cells.size ≤ c.toNat * zv.cells.size := Nat.mul_le_mul_right _ (by omega)
   have hR := reps_flat (E := E) _ _ (zero_reps E zv.cells.toList) c.toNat
   have key : ∀ ext : Bool, (ext = false → l = c) → Conc ⟨E.w.alloc (.cells (madeCells zv.cells (c.toNat * i.size)) e), E.S, E.σ ++ [(E.w.heap.size, (madeCells zv.cells (c.toNat * i.size)).size)], E.st ++ [⟨e, (List.replicate l.toNat (zv.cells.toList.map fun v => DV.d (.sc v))).flatten, ext, 0, true⟩]⟩ ∧
     Ext E ⟨E.w.alloc (.cells (madeCells zv.cells (c.toNat * i.size)) e), E.S, E.σ ++ [(E.w.heap.size, (madeCells zv.cells (c.toNat * i.size)).size)], E.st ++ [⟨e, (List.replicate l.toNat (zv.cells.toList.map fun v => DV.d (.sc v))).flatten, ext, 0, true⟩]⟩ := fun ext hext =>
    newBox hc _ e _ ext (by rw [hsize]; simpa using hle) (fun he => by rw [hsize, hext he]; simp) trivial
     (fun j d hj => by
       obtain ⟨u, g1, g2⟩ := hR.get _ _ j d (rep_prefix _ l.toNat c.toNat (by omega) j d hj)
       refine ⟨u, ?_, ?_, g2⟩
       ·rw [hmc, ← Array.getElem?_toList, hze]; exact g1
       ·have := List.mem_of_getElem? g1
        simp only [List.mem_flatten, List.mem_replicate] at this
        obtain ⟨l, ⟨_, rfl⟩, hm⟩ := this
        exact e4 u hm)
     (fun j u hj => by
       rw [hmc, ← Array.getElem?_toList, hze] at hj
       have := List.mem_of_getElem? hj
       simp only [List.mem_flatten, List.mem_replicate] at this
       obtain ⟨l, ⟨_, rfl⟩, hm⟩ := this
       exact e4 u hm)
   have hcm : c.toNat ≤ maxLen := by simp only [maxLen]; omega
   by_cases hlc : l = c
   ·obtain ⟨c1, c2⟩ := key false (fun _ => hlc)
    exact ⟨_, _, _, hr, h1 hlc, c1, c2, view_new E _ _ _ _ _ l.toNat c.toNat ⟨e, _, false, 0, true⟩ hc.len (by rw [hsize]) (by omega) hcm⟩
   ·obtain ⟨c1, c2⟩ := key true (fun h => by cases h)
    exact ⟨_, _, _, hr, h2 (by omega), c1, c2, view_new E _ _ _ _ _ l.toNat c.toNat ⟨e, _, true, 0, true⟩ hc.len (by rw [hsize]) (by omega) hcm⟩
  ·exact h.elim
 ·exact h.elim
end Go.Proofs.Ytadnpgkddgbhkaa
namespace Go.Proofs.Ytadnpgkddgbhkaa
open Go.RowKit
set_option linter.all false
def isStrD (P : Program) (t : TypeId) : Bool := match P.underlying t with
 | some .string => true
 | _ => false
def rowsD (xs : List (List PD)) : List DV := xs.flatten.map .d
theorem rowsD_append (xs ys : List (List PD)) : rowsD (xs ++ ys) = rowsD xs ++ rowsD ys := by simp only [rowsD, List.flatten_append, List.map_append]
theorem rowsD_get (xs : List (List PD)) (j : Nat) : (rowsD xs)[j]? = xs.flatten[j]?.map .d := by simp only [rowsD, List.getElem?_map]
theorem isStrD_spec {P : Program} {t : TypeId} (h : isStrD P t = true) : P.underlying t = some .string := by
 unfold isStrD at h
 split at h
 ·assumption
 ·cases h
def srcD (P : Program) (st : Store) (sz : Nat) (t : TypeId) (x : DV) : Option (List DV × Nat) :=
 match x with
 | .d (.slc sz' xs) => if sz' = sz ∧ (slD P t).isSome = true then some (rowsD xs, xs.length) else none
 | .d (.sc (.slice none 0 0)) => if (slD P t).isSome = true then some ([], 0) else none
 | .d (.sc (.string s)) => if sz = 1 ∧ isStrD P t = true then some (rowsD (bytesP s.data.toList), s.size) else none
 | .view sz' b ver o n => match st[b]? with
   | some bx => if sz' = sz ∧ ver = bx.ver ∧ bx.live = true ∧ (slD P t).isSome = true ∧ o + n * sz ≤ bx.cells.length then some ((bx.cells.drop o).take (n * sz), n) else none
   | none => none
 | _ => none
def srcVals (w : World) (sz : Nat) (v : Value) (n : Nat) (vs : List Value) : Prop :=
 vs.length = n * sz ∧ (∀ u ∈ vs, u.oneCell' = true) ∧
 ((∃ a c, v = .slice (some a) n c ∧ ∀ (j : Nat) (u : Value), vs[j]? = some u → w.cell? (a.add j) = some u) ∨ (v = .slice none 0 0 ∧ n = 0) ∨ (∃ s : ByteArray, v = .string s ∧ n = s.size ∧ sz = 1 ∧ vs = Go.Lib.strCells s))
theorem srcD_spec {P : Program} {E : Env} (hc : Conc E) {sz : Nat} {t : TypeId} {x : DV} {v : Value} (hx : Rep E x v) {ds : List DV} {n : Nat} (h : srcD P E.st sz t x = some (ds, n)) :
  ∃ vs, srcVals E.w sz v n vs ∧ Reps E ds vs ∧ ((∃ s, v = .string s ∧ P.underlying t = some .string) ∨ (∃ e, P.underlying t = some (.slice e) ∧ ∀ s, v ≠ .string s)) := by
 unfold srcD at h
 split at h
 ·split at h
  ·rename_i sz' xs hq
   cases h
   obtain ⟨rfl, hs⟩ := hq
   obtain ⟨e, hu⟩ := slD_some hs
   rcases hx with ⟨rfl, rfl⟩ | ⟨a, c, rfl, h1, h2, h3, h4⟩
   ·exact ⟨[], ⟨by simp, by simp, .inr (.inl ⟨rfl, rfl⟩)⟩, trivial, .inr ⟨e, hu, fun s hs => by cases hs⟩⟩
   obtain ⟨f1, f2⟩ := RowsP.flat _ _ h4
   obtain ⟨vs, g1, g2, g3, g4⟩ := f1.vals
   exact ⟨vs, ⟨by rw [g1, f2], g2, .inl ⟨a, c, rfl, g3⟩⟩, Reps.of_cells g1 g4, .inr ⟨e, hu, fun s hs => by cases hs⟩⟩
  ·cases h
 ·split at h
  ·rename_i hs
   cases h
   simp only [Rep, RepP] at hx; subst hx
   obtain ⟨e, hu⟩ := slD_some hs
   exact ⟨[], ⟨by simp, by simp, .inr (.inl ⟨rfl, rfl⟩)⟩, trivial, .inr ⟨e, hu, fun s hs => by cases hs⟩⟩
  ·cases h
 ·split at h
  ·rename_i s hq
   cases h
   obtain ⟨rfl, hu⟩ := hq
   have hu := isStrD_spec hu
   simp only [Rep, RepP] at hx; subst hx
   refine ⟨Go.Lib.strCells s, ⟨by simp [Go.Lib.strCells_length], Go.Lib.strCells_oneCell s, .inr (.inr ⟨s, rfl, rfl, rfl, rfl⟩)⟩, ?_, .inl ⟨s, rfl, hu⟩⟩
   rw [rowsD, bytesP_flat]
   refine Reps.of_cells (by simp [Go.Lib.strCells]) fun j p v hp hv => ?_
   simp only [Go.Lib.strCells, List.getElem?_map] at hp hv
   cases hb : s.data.toList[j]? with
   | none => simp [hb] at hp
   | some b =>
     rw [hb] at hp hv
     simp only [Option.map_some, Option.some.injEq] at hp hv
     subst hp; subst hv
     rfl
  ·cases h
 ·split at h
  ·rename_i sz' b ver o n bx hb'
   split at h
   ·rename_i hq
    cases h
    obtain ⟨rfl, rfl, hl, hs, hfit⟩ := hq
    obtain ⟨bx', gz, hb, hg, hone, hle, hv⟩ := hx
    rw [hb] at hb'
    cases hb'
    obtain ⟨c, rfl, hc1, hc2, hc3⟩ := hv rfl
    obtain ⟨vs, g1, g2, g3, g4⟩ := hc.cells hb hg hl hfit
    obtain ⟨e, hu⟩ := slD_some hs
    exact ⟨vs, ⟨g1, g3, .inl ⟨_, c, rfl, g4⟩⟩, g2, .inr ⟨e, hu, fun s hs => by cases hs⟩⟩
   ·cases h
  ·cases h
 ·cases h
theorem zeroCells_mem {z : Array Value} (hz : 0 < z.size) {n : Nat} {u : Value} (h : u ∈ (Builtin.zeroCells z n).toList) : u ∈ z.toList := by
 simp only [Builtin.zeroCells, Array.toList_map, List.mem_map] at h
 obtain ⟨k, _, rfl⟩ := h
 have hlt : k % z.size < z.size := Nat.mod_lt _ hz
 rw [getElem!_pos z (k % z.size) hlt]
 simp
theorem run_append_all {P : Program} (w : World) {t u ty e : TypeId} {i : TypeInfo} {z : Value} (ht : P.underlying t = some (.slice e)) (hi : P.info? e = some i) (hz : i.zero = some z) (hzs : z.cells.size = i.size) (hsz : 0 < i.size) (hzo : ∀ u ∈ z.cells.toList, u.oneCell' = true)
  {v : Value} {n : Nat} {xs : List Value} (hown : w.ownsRow 0 e i.size v n xs) {x : Value} {m : Nat} {news : List Value} (hsrc : srcVals w i.size x m news) (hty : (∃ s, x = .string s ∧ P.underlying u = some .string) ∨ (u = t ∧ ∀ s, x ≠ .string s))
  (h63 : n + m ≤ maxLen) (hbytes : (n + m) * i.bytes ≤ 140737488355328) :
  ∃ v' w', (Builtin.append_ #[t, u] ty #[v, x]).run P w = .ok v' w' ∧
    ((v = .slice none 0 0 ∧ m = 0 ∧ v' = .slice none 0 0 ∧ w' = w) ∨
     (∃ g cap cur, v = .slice (some ⟨g, 0, none⟩) n cap ∧ w.heap[g]? = some (.cells cur e (0, 0)) ∧ cur.size = cap * i.size ∧ n + m ≤ cap ∧ cap ≤ maxLen ∧ cur.toList.take (n * i.size) = xs ∧ v' = .slice (some ⟨g, 0, none⟩) (n + m) cap ∧
       w' = w.setRow g (cur.toList.take (n * i.size) ++ news ++ cur.toList.drop (n * i.size + news.length)).toArray) ∨
     (∃ cap zs, (∀ a c, v = .slice (some a) n c → c < n + m) ∧ 0 < n + m ∧ v' = .slice (some ⟨w.heap.size, 0, none⟩) (n + m) cap ∧ n + m ≤ cap ∧ cap ≤ maxLen ∧ w.grownBy w' none ∧
       w'.heap[w.heap.size]? = some (.cells (xs ++ news ++ zs).toArray e (0, 0)) ∧ (xs ++ news ++ zs).length = cap * i.size ∧ ∀ u ∈ zs, u.oneCell' = true)) := by
 obtain ⟨hl, h1, hsrc⟩ := hsrc
 have hxl : xs.length = n * i.size := hown.1
 have hsmall : n + m ≤ 9223372036854775807 := by simp only [maxLen] at h63; omega
 have hlen : (xs ++ news).length = (n + m) * i.size := by rw [List.length_append, hxl, hl, Nat.add_mul]
 have grown : ∀ (old : Nat) (v' : Value) (w' : World), old < n + m → v' = .slice (some ⟨w.heap.size, 0, none⟩) (n + m) (grownCap w (n + m) old e) →
   w' = w.drew.alloc (.cells (xs.toArray ++ news.toArray ++ Builtin.zeroCells z.cells (grownCap w (n + m) old e - (n + m))) e) →
   ∃ cap zs, 0 < n + m ∧ v' = .slice (some ⟨w.heap.size, 0, none⟩) (n + m) cap ∧ n + m ≤ cap ∧ cap ≤ maxLen ∧ w.grownBy w' none ∧
      w'.heap[w.heap.size]? = some (.cells (xs ++ news ++ zs).toArray e (0, 0)) ∧ (xs ++ news ++ zs).length = cap * i.size ∧ ∀ u ∈ zs, u.oneCell' = true := by
  intro old v' w' ho hv hw
  subst hw
  have hge := grownCap_ge w (n + m) old e
  have hcm : grownCap w (n + m) old e ≤ maxLen := grownCap_le_maxLen w (n + m) old e h63
  refine ⟨_, (Builtin.zeroCells z.cells (grownCap w (n + m) old e - (n + m))).toList, by omega, hv, hge, hcm, ⟨rfl, rfl, rfl, by simp, fun k hk _ => heap_alloc_old w.drew _ hk⟩, ?_, ?_, fun u hu => hzo u (zeroCells_mem (by omega) hu)⟩
  ·rw [show w.heap.size = w.drew.heap.size from rfl, heap_alloc_new w.drew _]
   congr 2
   apply Array.ext'
   simp
  ·rw [List.length_append, hlen, Array.length_toList, size_zeroCells, hzs, ← Nat.add_mul]
   congr 1
   omega
 have h63' : ((n + m : Nat) : Int) ≤ 9223372036854775807 := by omega
 rcases hsrc with ⟨a, c, rfl, hcell⟩ | ⟨rfl, rfl⟩ | ⟨s, rfl, rfl, hs1, rfl⟩
 ·rcases hty with ⟨s, hs, _⟩ | ⟨rfl, _⟩
  ·cases hs
  ·rcases hown.2 with ⟨rfl, rfl⟩ | ⟨g, cap, cur, rfl, hbg, hg, hnc, hcm, hcs, htake⟩
   ·have hx : xs = [] := List.eq_nil_of_length_eq_zero (by simpa using hxl)
    subst hx
    by_cases hm : m = 0
    ·subst hm
     have hn : news = [] := List.eq_nil_of_length_eq_zero (by simpa using hl)
     subst hn
     refine ⟨.slice none 0 0, w, ?_, .inl ⟨rfl, rfl, rfl, rfl⟩⟩
     simp [Builtin.append_, run_underlying ht, sizeOf, typeInfo, hi, Builtin.lenOf, Builtin.firstCells, loadCells, loadCellsFrom]
    ·have hr := run_append_nil (P := P) w u ty e i z ht hi hz a m c news hl hcell (by omega) (by omega) (by have hb := hbytes; simp only [Nat.zero_add] at hb; omega)
     obtain ⟨cap, zs, q⟩ := grown 0 _ _ (by omega) rfl rfl
     simp only [Nat.zero_add, List.nil_append, Array.empty_append] at hr q ⊢
     exact ⟨_, _, hr, .inr (.inr ⟨cap, zs, fun _ _ h => (by cases h), q⟩)⟩
   ·by_cases hroom : n + m ≤ cap
    ·have hfit : n * i.size + news.length ≤ cur.size := by rw [hl, hcs, ← Nat.add_mul]; exact Nat.mul_le_mul_right _ hroom
     have hr := run_append_room (P := P) w u ty e i ht hi g n cap cur hg a m c news hl hcell h1 hroom hfit
     exact ⟨_, _, hr, .inr (.inl ⟨g, cap, cur, rfl, hg, hcs, hroom, hcm, htake, rfl, rfl⟩)⟩
    ·have holds : ∀ j u, xs[j]? = some u → w.cell? ((⟨g, 0, none⟩ : Addr).add j) = some u := hown.cells (g := g) rfl
     have hr := run_append_grow (P := P) w u ty e i z ht hi hz ⟨g, 0, none⟩ n cap xs hown.1 holds a m c news hl hcell (by omega) (by omega) (growslice_fits (by omega) hbytes)
     obtain ⟨cap', zs, q⟩ := grown cap _ _ (by omega) rfl rfl
     exact ⟨_, _, hr, .inr (.inr ⟨cap', zs, fun _ _ h => (by cases h; omega), q⟩)⟩
 ·rcases hty with ⟨s, hs, _⟩ | ⟨rfl, _⟩
  ·cases hs
  ·have hn : news = [] := List.eq_nil_of_length_eq_zero (by simpa using hl)
   subst hn
   rcases hown.2 with ⟨rfl, rfl⟩ | ⟨g, cap, cur, rfl, hbg, hg, hnc, hcm, hcs, htake⟩
   ·refine ⟨.slice none 0 0, w, ?_, .inl ⟨rfl, rfl, rfl, rfl⟩⟩
    simp [Builtin.append_, run_underlying ht, sizeOf, typeInfo, hi, Builtin.lenOf, Builtin.firstCells]
   ·refine ⟨.slice (some ⟨g, 0, none⟩) n cap, w, ?_, .inr (.inl ⟨g, cap, cur, rfl, hg, hcs, by omega, hcm, htake, rfl, ?_⟩)⟩
    ·simp [Builtin.append_, run_underlying ht, sizeOf, typeInfo, hi, Builtin.lenOf, Builtin.firstCells, hnc, storeCells]
    ·have e1 : (cur.toList.take (n * i.size) ++ ([] : List Value) ++ cur.toList.drop (n * i.size + ([] : List Value).length)).toArray = cur := by simp
     rw [e1]
     exact (setRow_self w g cur e (0, 0) hg).symm
 ·rcases hty with ⟨s', hs, hu⟩ | ⟨_, hno⟩
  ·cases hs
   rcases hown.2 with ⟨rfl, rfl⟩ | ⟨g, cap, cur, rfl, hbg, hg, hnc, hcm, hcs, htake⟩
   ·have hx : xs = [] := List.eq_nil_of_length_eq_zero (by simpa using hown.1)
    subst hx
    by_cases hm : s.size = 0
    ·refine ⟨.slice none 0 0, w, ?_, .inl ⟨rfl, hm, rfl, rfl⟩⟩
     simp [Builtin.append_, run_underlying ht, run_underlying hu, sizeOf, typeInfo, hi, Builtin.lenOf, Builtin.firstCells, hm]
    ·have hr := run_append_nil_string (P := P) w t u ty e i z ht hu hi hz s (by omega) (by omega) (by have hb := hbytes; simp only [Nat.zero_add] at hb; omega)
     obtain ⟨cap, zs, q⟩ := grown 0 _ _ (by omega) rfl rfl
     simp only [Nat.zero_add, List.nil_append, Array.empty_append] at q ⊢
     refine ⟨_, _, ?_, .inr (.inr ⟨cap, zs, fun _ _ h => (by cases h), q⟩)⟩
     rw [hr]
     congr 4
     apply Array.ext'
     simp [Go.Lib.strCells]
   ·by_cases hroom : n + s.size ≤ cap
    ·have hr := Go.Lib.run_append_room_string (P := P) w t u ty e i ht hu hi hs1 g n cap cur hg s hroom (by rw [hcs, hs1]; omega)
     refine ⟨_, _, hr, .inr (.inl ⟨g, cap, cur, rfl, hg, hcs, hroom, hcm, htake, rfl, ?_⟩)⟩
     rw [Go.Lib.strCells_length, hs1, Nat.mul_one]
    ·have holds : ∀ j u, xs[j]? = some u → w.cell? ((⟨g, 0, none⟩ : Addr).add j) = some u := hown.cells (g := g) rfl
     have hr := Go.Lib.run_append_grow_string (P := P) w t u ty e i z ht hu hi hz ⟨g, 0, none⟩ n cap xs hown.1 holds s (by omega) (by omega) (growslice_fits (by omega) hbytes)
     obtain ⟨cap', zs, q⟩ := grown cap _ _ (by omega) rfl rfl
     exact ⟨_, _, hr, .inr (.inr ⟨cap', zs, fun _ _ h => (by cases h; omega), q⟩)⟩
  ·exact absurd rfl (hno s)
theorem appendTy {P : Program} {t u : TypeId} {vx : Value} (htu : isStrD P u = true ∨ u = t) (g3 : (∃ s, vx = .string s ∧ P.underlying u = some .string) ∨ ∃ e', P.underlying u = some (.slice e') ∧ ∀ s, vx ≠ .string s) : (∃ s, vx = .string s ∧ P.underlying u = some .string) ∨ (u = t ∧ ∀ s, vx ≠ .string s) := by
 rcases g3 with g3 | ⟨e', g3, g4⟩
 ·exact .inl g3
 ·refine .inr ⟨?_, g4⟩
  rcases htu with htu | htu
  ·rw [isStrD_spec htu] at g3; cases g3
  ·exact htu
def appendD (P : Program) (st : Store) (t u : TypeId) (s x : DV) (K : DV → Store → Prop) : Prop :=
 match slD P t with
 | some (e, sz) => match zeroD P e, P.info? e, srcD P st sz u x with
   | some z, some i, some (ds, m) => z.length = sz ∧ 0 < sz ∧ (isStrD P u = true ∨ u = t) ∧ match s with
     | .d (.sc (.slice none 0 0)) => (m ≤ 9007199254740992 ∧ m * i.bytes ≤ 140737488355328) ∧ (m = 0 → K nilS st) ∧ (0 < m → K (.view sz st.length 0 0 m) (st ++ [⟨e, ds, true, 0, true⟩]))
     | .view sz' b ver o n => match st[b]? with
       | some bx => (sz' = sz ∧ o = 0 ∧ ver = bx.ver ∧ bx.live = true ∧ bx.ty = e ∧ bx.cells.length = n * sz) ∧ (n + m ≤ 9007199254740992 ∧ (n + m) * i.bytes ≤ 140737488355328) ∧
          K (.view sz b (ver + 1) 0 (n + m)) (st.set b ⟨e, bx.cells ++ ds, true, ver + 1, true⟩)
       | none => False
     | _ => False
   | _, _, _ => False
 | none => False
theorem append_ok {P : Program} {E : Env} (hc : Conc E) {t u ty : TypeId} {s x : DV} {v vx : Value} (hs : Rep E s v) (hx : Rep E x vx) {K : DV → Store → Prop} (h : appendD P E.st t u s x K) :
  Ends P E (Builtin.append_ #[t, u] ty #[v, vx]) K := by
 unfold appendD at h
 split at h
 ·rename_i e sz hsl
  split at h
  ·rename_i z i ds m hz hi hsrc
   obtain ⟨hzl, hpos, htu, h⟩ := h
   obtain ⟨zv, i', e1, e2, e3, e4, e5, rfl⟩ := zeroD_spec hz
   rw [hi] at e1
   cases e1
   obtain ⟨hu, ⟨i2, hi2, hisz⟩, hsz⟩ := slD_spec hsl
   rw [hi] at hi2
   cases hi2
   subst hisz
   obtain ⟨vs, g1, g2, g3⟩ := srcD_spec hc hx hsrc
   have hty := appendTy htu g3
   have hone := g1.2.1
   have hlen := g2.length
   have hvl := g1.1
   split at h
   ·obtain ⟨⟨hm1, hm2⟩, h0, h1⟩ := h
    simp only [Rep, RepP] at hs; subst hs
    obtain ⟨v', w', r1, r2⟩ := run_append_all (P := P) E.w hu hi e2 e3 hpos e4 (World.ownsRow_nil E.w 0 e i.size) g1 hty (by simp only [maxLen]; omega) (by simpa using hm2)
    rcases r2 with ⟨_, hm, rfl, rfl⟩ | ⟨_, _, _, hv, _⟩ | ⟨cap, zs, _, hm, rfl, hnc, hcm, r3, hg, hcs, hzs⟩
    ·exact ⟨.slice none 0 0, E, nilS, r1, h0 hm, hc, Ext.refl E, rfl⟩
    ·cases hv
    ·simp only [Nat.zero_add, List.nil_append] at hm hnc hg hcs
     have hmono : m * i.size ≤ cap * i.size := Nat.mul_le_mul_right _ hnc
     obtain ⟨c1, c2⟩ := newBoxAt hc w' E.w.heap.size (Nat.le_refl _) r3.size r3.os r3.tape r3.output (fun k hk => r3.block k hk (by simp)) (vs ++ zs).toArray e ds true hg (by simp; omega) (fun h => by cases h) trivial
      (fun j d hj => by
        obtain ⟨u, q1, q2⟩ := g2.get _ _ j d hj
        exact ⟨u, by rw [List.getElem?_toArray, List.getElem?_append_left (List.getElem?_eq_some_iff.1 q1).1]; exact q1, oneL hone q1, q2⟩)
      (fun j u hj => by
        rw [List.getElem?_toArray] at hj
        rcases List.mem_append.1 (List.mem_of_getElem? hj) with hh | hh
        ·exact hone u hh
        ·exact hzs u hh)
     refine ⟨_, _, .view i.size E.st.length 0 0 m, r1, h1 (by omega), c1, c2, ?_⟩
     have := view_new E w' E.S E.w.heap.size (vs ++ zs).toArray.size i.size m cap ⟨e, ds, true, 0, true⟩ hc.len (by simpa using hcs.symm) (by omega) hcm
     simpa using this
   ·rename_i sz' b ver o n
    split at h
    ·rename_i bx hb'
     obtain ⟨⟨rfl, rfl, rfl, hl, hty', hcl⟩, ⟨hn1, hn2⟩, h⟩ := h
     obtain ⟨bx', gz, hb, hg, hone', hle, hv⟩ := hs
     rw [hb] at hb'
     cases hb'
     obtain ⟨c, rfl, hc1, hc2, hc3⟩ := hv rfl
     obtain ⟨cur, a1, a2, a3, a4, a5, a6, a7, a8⟩ := hc.box b bx gz.1 gz.2 hb hg hl
     have hown : E.w.ownsRow 0 e i.size (.slice (some ⟨gz.1, 0, none⟩) n c) n (cur.toList.take (n * i.size)) :=
      ⟨by simp; omega, .inr ⟨gz.1, c, cur, rfl, Nat.zero_le _, by rw [← hty']; exact a1, hc1, hc2, by omega, rfl⟩⟩
     obtain ⟨v', w', r1, r2⟩ := run_append_all (P := P) E.w hu hi e2 e3 hpos e4 hown g1 hty (by simp only [maxLen]; omega) hn2
     have hbl := (List.getElem?_eq_some_iff.1 hb).1
     have hgl := (List.getElem?_eq_some_iff.1 hg).1
     have htk : (cur.toList.take (n * i.size)).length = bx.cells.length := by simp; omega
     rcases r2 with ⟨hv, _⟩ | ⟨g, cap, cur0, hv, hg0, hcs, hnc, hcm, _, rfl, rfl⟩ | ⟨cap, zs, _, hm, rfl, hnc, hcm, r3, hg3, hcs, hzs⟩
     ·cases hv
     ·cases hv
      rw [← hty'] at hg0
      rw [a1] at hg0
      cases hg0
      have hsz' : (cur.toList.take (n * i.size) ++ vs ++ cur.toList.drop (n * i.size + vs.length)).toArray.size = gz.2 := by
       have : n * i.size + vs.length ≤ cur.size := by rw [hvl, hcs, ← Nat.add_mul]; exact Nat.mul_le_mul_right _ hnc
       simp; omega
      obtain ⟨c1, c2⟩ := turnBox hc hb hg (E.w.setRow gz.1 (cur.toList.take (n * i.size) ++ vs ++ cur.toList.drop (n * i.size + vs.length)).toArray) gz.1 gz.2 (cur.toList.take (n * i.size) ++ vs ++ cur.toList.drop (n * i.size + vs.length)).toArray ⟨e, bx.cells ++ ds, true, bx.ver + 1, true⟩
       (by simp) rfl rfl rfl (fun k _ hk => setRow_other E.w gz.1 k _ hk) hl (setRow_heap E.w gz.1 cur _ e _ (by rw [← hty']; exact a1)) hsz' (by simp) (fun h => by simp at h) (.inl rfl)
       (by simp only [List.length_append]; rw [hcl, hlen, hvl, ← Nat.add_mul, ← a2, hcs]; exact Nat.mul_le_mul_right _ hnc) (fun h => by cases h) trivial
       (fun j d hj => by
         simp only at hj
         rw [List.getElem?_toArray, List.append_assoc]
         rw [List.getElem?_append] at hj
         split at hj
         ·rename_i hjl
          obtain ⟨u, q1, q2, q3⟩ := a7 j d hj
          refine ⟨u, ?_, q2, q3⟩
          rw [List.getElem?_append_left (by omega), List.getElem?_take, if_pos (by omega)]
          simpa using q1
         ·rename_i hjl
          obtain ⟨u, q1, q2⟩ := g2.get _ _ _ d hj
          refine ⟨u, ?_, oneL hone q1, q2⟩
          rw [List.getElem?_append_right (by omega), htk, List.getElem?_append_left (List.getElem?_eq_some_iff.1 q1).1]
          exact q1)
       (fun j u hj => by
         rw [List.getElem?_toArray] at hj
         rcases List.mem_append.1 (List.mem_of_getElem? hj) with hh | hh
         ·rcases List.mem_append.1 hh with hh | hh
          ·obtain ⟨k, hk⟩ := List.mem_iff_getElem?.1 (List.mem_of_mem_take hh)
           exact a8 k u (by simpa using hk)
          ·exact hone u hh
         ·obtain ⟨k, hk⟩ := List.mem_iff_getElem?.1 (List.mem_of_mem_drop hh)
          exact a8 k u (by simpa using hk))
      refine ⟨_, _, .view i.size b (bx.ver + 1) 0 (n + m), r1, h, c1, c2, ?_⟩
      exact ⟨⟨e, bx.cells ++ ds, true, bx.ver + 1, true⟩, (gz.1, gz.2), by simp [hbl], by simp [hgl], rfl, Nat.le_refl _, fun _ => ⟨c, rfl, hnc, hcm, by omega⟩⟩
     ·have hmono : (n + m) * i.size ≤ cap * i.size := Nat.mul_le_mul_right _ hnc
      obtain ⟨c1, c2⟩ := turnBox hc hb hg w' E.w.heap.size (cur.toList.take (n * i.size) ++ vs ++ zs).toArray.size (cur.toList.take (n * i.size) ++ vs ++ zs).toArray ⟨e, bx.cells ++ ds, true, bx.ver + 1, true⟩ r3.size r3.os r3.tape r3.output (fun k hk hne => r3.block k hk (by simp)) hl hg3 rfl (by simp) (fun h => by simp at h)
       (.inr (Nat.le_refl _)) (by simp only [List.size_toArray, List.length_append] at hcs ⊢; rw [hlen]; omega) (fun h => by cases h) trivial
       (fun j d hj => by
         simp only at hj
         rw [List.getElem?_toArray, List.append_assoc]
         rw [List.getElem?_append] at hj
         split at hj
         ·rename_i hjl
          obtain ⟨u, q1, q2, q3⟩ := a7 j d hj
          refine ⟨u, ?_, q2, q3⟩
          rw [List.getElem?_append_left (by omega), List.getElem?_take, if_pos (by omega)]
          simpa using q1
         ·rename_i hjl
          obtain ⟨u, q1, q2⟩ := g2.get _ _ _ d hj
          refine ⟨u, ?_, oneL hone q1, q2⟩
          rw [List.getElem?_append_right (by omega), htk, List.getElem?_append_left (List.getElem?_eq_some_iff.1 q1).1]
          exact q1)
       (fun j u hj => by
         rw [List.getElem?_toArray] at hj
         rcases List.mem_append.1 (List.mem_of_getElem? hj) with hh | hh
         ·rcases List.mem_append.1 hh with hh | hh
          ·obtain ⟨k, hk⟩ := List.mem_iff_getElem?.1 (List.mem_of_mem_take hh)
           exact a8 k u (by simpa using hk)
          ·exact hone u hh
         ·exact hzs u hh)
      refine ⟨_, _, .view i.size b (bx.ver + 1) 0 (n + m), r1, h, c1, c2, ?_⟩
      exact ⟨⟨e, bx.cells ++ ds, true, bx.ver + 1, true⟩, (E.w.heap.size, (cur.toList.take (n * i.size) ++ vs ++ zs).toArray.size), by simp [hbl], by simp [hgl], rfl, Nat.le_refl _, fun _ => ⟨cap, rfl, hnc, hcm, by simpa using hcs.symm⟩⟩
    ·exact h.elim
   ·exact h.elim
  ·exact h.elim
 ·exact h.elim
def append2D (P : Program) (st : Store) (t u : TypeId) (s x : DV) (K : DV → Store → Prop) : Prop :=
 match slD P t with
 | some (e, sz) => match zeroD P e, P.info? e, srcD P st sz u x with
   | some z, some i, some (ds, m) => z.length = sz ∧ 0 < sz ∧ (isStrD P u = true ∨ u = t) ∧ match s with
     | .view sz' b ver o n => match st[b]? with
       | some bx => (sz' = sz ∧ o = 0 ∧ ver = bx.ver ∧ bx.live = true ∧ bx.ty = e ∧ bx.ext = false ∧ n * sz ≤ bx.cells.length) ∧ (n + m ≤ 9007199254740992 ∧ (n + m) * i.bytes ≤ 140737488355328) ∧
          ((n + m) * sz ≤ bx.cells.length → K (.view sz b ver 0 (n + m)) (st.set b { bx with cells := splice bx.cells (n * sz) ds })) ∧
          (bx.cells.length < (n + m) * sz → K (.view sz st.length 0 0 (n + m)) (st ++ [⟨e, bx.cells.take (n * sz) ++ ds, true, 0, true⟩]))
       | none => False
     | _ => False
   | _, _, _ => False
 | none => False
theorem append2_ok {P : Program} {E : Env} (hc : Conc E) {t u ty : TypeId} {s x : DV} {v vx : Value} (hs : Rep E s v) (hx : Rep E x vx) {K : DV → Store → Prop} (h : append2D P E.st t u s x K) :
  Ends P E (Builtin.append_ #[t, u] ty #[v, vx]) K := by
 unfold append2D at h
 split at h
 ·rename_i e sz hsl
  split at h
  ·rename_i z i ds m hz hi hsrc
   obtain ⟨hzl, hpos, htu, h⟩ := h
   obtain ⟨zv, i', e1, e2, e3, e4, e5, rfl⟩ := zeroD_spec hz
   rw [hi] at e1
   cases e1
   obtain ⟨hu, ⟨i2, hi2, hisz⟩, hsz⟩ := slD_spec hsl
   rw [hi] at hi2
   cases hi2
   subst hisz
   obtain ⟨vs, g1, g2, g3⟩ := srcD_spec hc hx hsrc
   have hty := appendTy htu g3
   have hone := g1.2.1
   have hlen := g2.length
   have hvl := g1.1
   split at h
   ·rename_i sz' b ver o n
    split at h
    ·rename_i bx hb'
     obtain ⟨⟨rfl, rfl, rfl, hl, hty', hext, hcl⟩, ⟨hn1, hn2⟩, hroom, hgrow⟩ := h
     obtain ⟨bx', gz, hb, hg, hone', hle, hv⟩ := hs
     rw [hb] at hb'
     cases hb'
     obtain ⟨c, rfl, hc1, hc2, hc3⟩ := hv rfl
     obtain ⟨cur, a1, a2, a3, a4, a5, a6, a7, a8⟩ := hc.box b bx gz.1 gz.2 hb hg hl
     have hexact := a4 hext
     have hown : E.w.ownsRow 0 e i.size (.slice (some ⟨gz.1, 0, none⟩) n c) n (cur.toList.take (n * i.size)) :=
      ⟨by simp; omega, .inr ⟨gz.1, c, cur, rfl, Nat.zero_le _, by rw [← hty']; exact a1, hc1, hc2, by omega, rfl⟩⟩
     obtain ⟨v', w', r1, r2⟩ := run_append_all (P := P) E.w hu hi e2 e3 hpos e4 hown g1 hty (by simp only [maxLen]; omega) hn2
     have hbl := (List.getElem?_eq_some_iff.1 hb).1
     have hgl := (List.getElem?_eq_some_iff.1 hg).1
     rcases r2 with ⟨hv, _⟩ | ⟨g, cap, cur0, hv, hg0, hcs, hnc, hcm, _, rfl, rfl⟩ | ⟨cap, zs, hgr, hm, rfl, hnc, hcm, r3, hg3, hcs, hzs⟩
     ·cases hv
     ·cases hv
      rw [← hty'] at hg0
      rw [a1] at hg0
      cases hg0
      have hfit : n * i.size + ds.length ≤ bx.cells.length := by
       rw [hlen, hvl, ← Nat.add_mul, hexact, ← a2, hcs]; exact Nat.mul_le_mul_right _ hnc
      obtain ⟨E', w1, w2, w3, w4, w5, w6⟩ := write_ok hc hb hg hl g2 hone (o := n * i.size) hfit P
      have hE' : E'.w = E.w.setRow gz.1 (cur.toList.take (n * i.size) ++ vs ++ cur.toList.drop (n * i.size + vs.length)).toArray := by
       have hst := run_storeCells_at P gz.1 (n * i.size) bx.ty vs 0 cur E.w a1 (by omega) hone
       simp only [Nat.add_zero] at hst
       rw [hst] at w1
       injection w1 with _ w1
       exact w1.symm
      refine ⟨_, E', .view i.size b bx.ver 0 (n + m), by rw [r1, hE'], ?_, w5, w6, ?_⟩
      ·rw [w2]
       exact hroom (by rw [hexact, ← a2, hcs]; exact Nat.mul_le_mul_right _ hnc)
      ·exact ⟨{ bx with cells := splice bx.cells (n * i.size) ds }, gz, by rw [w2]; simp [hbl], by rw [w4]; exact hg, rfl, Nat.le_refl _, fun _ => ⟨c, rfl, hnc, hcm, hc3⟩⟩
     ·have hlt : c < n + m := hgr _ c rfl
      have hmono : (n + m) * i.size ≤ cap * i.size := Nat.mul_le_mul_right _ hnc
      have htk : (cur.toList.take (n * i.size)).length = n * i.size := by simp; omega
      have htk2 : (bx.cells.take (n * i.size)).length = n * i.size := by simp; omega
      obtain ⟨c1, c2⟩ := newBoxAt hc w' E.w.heap.size (Nat.le_refl _) r3.size r3.os r3.tape r3.output (fun k hk => r3.block k hk (by simp)) (cur.toList.take (n * i.size) ++ vs ++ zs).toArray e (bx.cells.take (n * i.size) ++ ds) true hg3 (by simp only [List.size_toArray, List.length_append] at hcs ⊢; omega) (fun h => by cases h) trivial
       (fun j d hj => by
         rw [List.getElem?_toArray, List.append_assoc]
         rw [List.getElem?_append] at hj
         split at hj
         ·rename_i hjl
          rw [List.getElem?_take] at hj
          rw [if_pos (by omega)] at hj
          obtain ⟨u, q1, q2, q3⟩ := a7 j d hj
          refine ⟨u, ?_, q2, q3⟩
          rw [List.getElem?_append_left (by omega), List.getElem?_take, if_pos (by omega)]
          simpa using q1
         ·rename_i hjl
          obtain ⟨u, q1, q2⟩ := g2.get _ _ _ d hj
          refine ⟨u, ?_, oneL hone q1, q2⟩
          rw [List.getElem?_append_right (by omega), htk, ← htk2, List.getElem?_append_left (List.getElem?_eq_some_iff.1 q1).1]
          exact q1)
       (fun j u hj => by
         rw [List.getElem?_toArray] at hj
         rcases List.mem_append.1 (List.mem_of_getElem? hj) with hh | hh
         ·rcases List.mem_append.1 hh with hh | hh
          ·obtain ⟨k, hk⟩ := List.mem_iff_getElem?.1 (List.mem_of_mem_take hh)
           exact a8 k u (by simpa using hk)
          ·exact hone u hh
         ·exact hzs u hh)
      refine ⟨_, _, .view i.size E.st.length 0 0 (n + m), r1, hgrow ?_, c1, c2, ?_⟩
      ·rw [hexact, ← hc3, Nat.zero_add]
       exact Nat.mul_lt_mul_of_pos_right hlt hpos
      ·have := view_new E w' E.S E.w.heap.size (cur.toList.take (n * i.size) ++ vs ++ zs).toArray.size i.size (n + m) cap ⟨e, bx.cells.take (n * i.size) ++ ds, true, 0, true⟩ hc.len (by simpa using hcs.symm) (by omega) hcm
       simpa using this
    ·exact h.elim
   ·exact h.elim
  ·exact h.elim
 ·exact h.elim
theorem CellsP.of_get {w : World} {S : Nat → Prop} : ∀ (ps : List PD) (a : Addr), (∀ (j : Nat) (p : PD), ps[j]? = some p → ∃ u, w.cell? (a.add j) = some u ∧ u.oneCell' = true ∧ RepP w S p u) → CellsP w S ps a
 | [], _, _ => trivial
 | p :: ps, a, h => ⟨by simpa [Addr.add] using h 0 p rfl, CellsP.of_get ps (a.add 1) fun j p' hj => by
     have := h (j + 1) p' (by simpa using hj)
     rwa [add_add', Nat.add_comm 1 j]⟩
theorem RowsP.of_flat {w : World} {S : Nat → Prop} {sz : Nat} : ∀ (xs : List (List PD)) (a : Addr), (∀ x ∈ xs, x.length = sz) → CellsP w S xs.flatten a → RowsP w S sz xs a
 | [], _, _, _ => trivial
 | x :: xs, a, hl, h => by
     have hx := hl x (by simp)
     have hget : ∀ (j : Nat) (p : PD), (x ++ xs.flatten)[j]? = some p → _ := fun j p hj => CellsP.get _ _ (by simpa using h) j p hj
     refine ⟨hx, CellsP.of_get x a fun j p hj => hget j p (by rw [List.getElem?_append_left (List.getElem?_eq_some_iff.1 hj).1]; exact hj), RowsP.of_flat xs (a.add sz) (fun y hy => hl y (by simp [hy])) (CellsP.of_get _ _ fun j p hj => ?_)⟩
     have := hget (sz + j) p (by rw [List.getElem?_append_right (by omega)]; rw [hx, Nat.add_sub_cancel_left]; exact hj)
     rwa [add_add']
def buildSetD (P : Program) (t : TypeId) (len : Nat) (parts : List (Nat × DV)) (K : DV → Prop) : Prop :=
 match slD P t with
 | some (e, sz) => len * sz ≤ 100000 ∧ match zeroD P e with
   | some z => z.length = sz ∧ 0 < sz ∧ match fillD (fun i => some (i * sz, sz)) (List.replicate len z).flatten parts with
     | some cs => ∃ xs, cs = rowsD xs ∧ xs.length = len ∧ (∀ x ∈ xs, x.length = sz) ∧ K (.d (.slc sz xs))
     | none => False
   | none => False
 | none => False
theorem buildSet_ok {P : Program} {E : Env} (hc : Conc E) {t : TypeId} {len : Nat} {parts : List (Nat × DV)} {vparts : List (Nat × Value)} (hl : parts.length = vparts.length)
  (hp : ∀ (j : Nat) (p : Nat × DV) (q : Nat × Value), parts[j]? = some p → vparts[j]? = some q → p.1 = q.1 ∧ Rep E p.2 q.2) {K : DV → Store → Prop} (h : buildSetD P t len parts fun d => K d E.st) :
  Ends P E (Instr.buildSlice t len vparts.toArray) K := by
 unfold buildSetD at h
 split at h
 ·rename_i e sz hs
  obtain ⟨hlim, h⟩ := h
  split at h
  ·rename_i z hz
   obtain ⟨hzl, hpos, h⟩ := h
   split at h
   ·rename_i cs hcs
    obtain ⟨xs, rfl, hxl, hxs, hk⟩ := h
    obtain ⟨vout, hrun, hsize, k2, k3⟩ := buildSlice_run (P := P) hl hp hs hlim hz hzl hpos hcs
    obtain ⟨c1, c2⟩ := newSet hc (.cells vout e) (E.w.alloc (.cells vout e)) rfl rfl rfl rfl
    refine ⟨.slice (some ⟨E.w.heap.size, 0, none⟩) len len, ⟨E.w.alloc (.cells vout e), fun g => E.S g ∨ g = E.w.heap.size, E.σ, E.st⟩, _, hrun, hk, c1, c2, ?_⟩
    have hr2 := Reps.ext hc c2 _ _ k2
    have hg : (E.w.alloc (.cells vout e)).heap[E.w.heap.size]? = some (.cells vout e (0, 0)) := heap_alloc_new _ _
    refine .inr ⟨⟨E.w.heap.size, 0, none⟩, len, by rw [hxl], by omega, ?_, fun _ => .inr rfl, ?_⟩
    ·have : len * 1 ≤ len * sz := Nat.mul_le_mul_left _ hpos
     simp only [maxLen]; omega
    ·refine RowsP.of_flat xs _ hxs (CellsP.of_get _ _ fun j p hj => ?_)
     obtain ⟨u, e1, e2⟩ := hr2.get _ _ j (.d p) (by rw [rowsD_get, hj]; rfl)
     refine ⟨u, ?_, oneL k3 e1, e2⟩
     have hadd : (⟨E.w.heap.size, 0, none⟩ : Addr).add j = ⟨E.w.heap.size, j, none⟩ := by unfold Addr.add; split <;> simp_all
     rw [hadd]
     simp only [World.cell?, hg]
     simpa using e1
   ·exact h.elim
  ·exact h.elim
 ·exact h.elim
end Go.Proofs.Ytadnpgkddgbhkaa
namespace Go.Proofs.Ytadnpgkddgbhkaa
open Go.RowKit
set_option linter.all false
def mmD (mx : Bool) (x y : DV) (K : DV → Prop) : Prop :=
 match x, y with
 | .d (.sc (.int k a)), .d (.sc (.int k' b)) => k = k' ∧ K (.d (.sc (.int k (if mx = true then max a b else min a b))))
 | .d (.sc (.string a)), .d (.sc (.string b)) => K (.d (.sc (.string (if mx = true then (if ltb a b = true then b else a) else (if (ltb a b || decide (a = b)) = true then a else b)))))
 | _, _ => False
theorem max_ok {P : Program} {E : Env} {x y : DV} {v u : Value} (hx : Rep E x v) (hy : Rep E y u) {ts : Array TypeId} {ty : TypeId} {K : DV → Prop} (h : mmD true x y K) : ∃ r d, (Builtin.max_ ts ty #[v, u]).run P E.w = .ok r E.w ∧ K d ∧ Rep E d r := by
 unfold mmD at h
 split at h
 ·obtain ⟨rfl, h⟩ := h
  simp only [Rep, RepP] at hx hy; subst hx; subst hy
  rename_i k a b
  refine ⟨_, _, by simp only [Builtin.max_, List.foldlM_cons, List.foldlM_nil, Builtin.max2, bind_pure]; rfl, h, ?_⟩
  simp only [Rep, RepP, ↓reduceIte]
  congr 1
  simp only [Int.max_def]
  split <;> split <;> omega
 ·simp only [Rep, RepP] at hx hy; subst hx; subst hy
  rename_i a b
  refine ⟨_, _, by simp only [Builtin.max_, List.foldlM_cons, List.foldlM_nil, Builtin.max2, Op.stringOp, pure_bind, asBool, bind_pure]; rfl, h, ?_⟩
  simp only [Rep, RepP, ltb, ↓reduceIte]
  by_cases hl : Op.bytesLess a.toList b.toList = true <;> simp [hl]
 ·exact h.elim
theorem min_ok {P : Program} {E : Env} {x y : DV} {v u : Value} (hx : Rep E x v) (hy : Rep E y u) {ts : Array TypeId} {ty : TypeId} {K : DV → Prop} (h : mmD false x y K) : ∃ r d, (Builtin.min_ ts ty #[v, u]).run P E.w = .ok r E.w ∧ K d ∧ Rep E d r := by
 unfold mmD at h
 split at h
 ·obtain ⟨rfl, h⟩ := h
  simp only [Rep, RepP] at hx hy; subst hx; subst hy
  rename_i k a b
  refine ⟨_, _, by simp only [Builtin.min_, List.foldlM_cons, List.foldlM_nil, Builtin.min2, bind_pure]; rfl, h, ?_⟩
  simp only [Rep, RepP, Bool.false_eq_true, ↓reduceIte]
  congr 1
  simp only [Int.min_def]
  split <;> split <;> omega
 ·simp only [Rep, RepP] at hx hy; subst hx; subst hy
  rename_i a b
  refine ⟨_, _, by simp only [Builtin.min_, List.foldlM_cons, List.foldlM_nil, Builtin.min2, Op.stringOp, pure_bind, asBool, bind_pure]; rfl, h, ?_⟩
  simp only [Rep, RepP, ltb, Bool.false_eq_true, ↓reduceIte, toList_bytes]
  by_cases hl : (Op.bytesLess a.toList b.toList || decide (a = b)) = true <;> simp only [hl, ↓reduceIte]
 ·exact h.elim
def pickD (c a b : DV) (K : DV → Prop) : Prop :=
 match c with
 | .d (.sc (.bool t)) => match a, b with
   | .d (.sc (.bool p)), .d (.sc (.bool q)) => K (.d (.sc (.bool (bif t then p else q))))
   | a, b => (t = true → K a) ∧ (t = false → K b)
 | _ => False
theorem pick_ok {P : Program} {E : Env} {x y z : DV} {v u r : Value} (hx : Rep E x v) (hy : Rep E y u) (hz : Rep E z r) {K : DV → Prop} (h : pickD x y z K) :
  ∃ q d, (do pure (.value (if ← asBool v then u else r)) : Sem Next).run P E.w = .ok (.value q) E.w ∧ K d ∧ Rep E d q := by
 unfold pickD at h
 split at h
 ·rename_i t
  simp only [Rep, RepP] at hx; subst hx
  split at h
  ·simp only [Rep, RepP] at hy hz; subst hy; subst hz
   exact ⟨_, _, by simp only [asBool, pure_bind]; rfl, h, by cases t <;> rfl⟩
  ·cases t
   ·exact ⟨_, _, by simp only [asBool, pure_bind]; rfl, h.2 rfl, hz⟩
   ·exact ⟨_, _, by simp only [asBool, pure_bind]; rfl, h.1 rfl, hy⟩
 ·exact h.elim
def isRefD (st : Store) : DV → Bool
 | .ref b ver _ => match st[b]? with
   | some bx => bx.ver == ver
   | none => false
 | .cref _ => true
 | .fn _ _ => true
 | _ => false
def extractD (x : DV) (i : Nat) (K : DV → Prop) : Prop :=
 match x with
 | .tup vs => match vs[i]? with
   | some d => K d
   | none => False
 | _ => False
def fieldVD (P : Program) (t : TypeId) (x : DV) (f : Nat) (K : DV → Prop) : Prop :=
 match P.underlying t, x with
 | some (.struct fs), .agg cs => match fs[f]? with
   | some fl => partD P fl.type cs fl.offset K
   | none => False
 | _, _ => False
mutual
def renD (φ : Nat → Nat) : DV → DV
 | .any => .any
 | .d p => .d p
 | .agg cs => .agg (renL φ cs)
 | .tup cs => .tup (renL φ cs)
 | .ref b ver o => .ref (φ b) ver o
 | .cref cs => .cref cs
 | .view sz b ver o n => .view sz (φ b) ver o n
 | .fn f cs => .fn f (renL φ cs)
def renL (φ : Nat → Nat) : List DV → List DV
 | [] => []
 | d :: ds => renD φ d :: renL φ ds
end
theorem renL_eq (φ : Nat → Nat) : ∀ ds : List DV, renL φ ds = ds.map (renD φ)
 | [] => rfl
 | d :: ds => by simp [renL, renL_eq φ ds]
def FnD (P : Program) (f : FuncId) (args : List DV) (st : Store) (R : DV → Store → Prop) : Prop :=
 ∀ (E : Env) (vs : List Value), Conc E → E.st = st → Reps E args vs → Calls P f vs.toArray E.w fun e w' => ∃ (v : Value) (E' : Env) (r : DV), e = .returned v ∧ E'.w = w' ∧ R r E'.st ∧ Conc E' ∧ Ext E E' ∧ Rep E' r v
theorem FnD.mono {P : Program} {f : FuncId} {args : List DV} {st : Store} {R R' : DV → Store → Prop} (h : FnD P f args st R) (hr : ∀ r st', R r st' → R' r st') : FnD P f args st R' :=
 fun E vs h1 h2 h3 => (h E vs h1 h2 h3).mono fun _ _ ⟨v, E', r, a, b, c, d⟩ => ⟨v, E', r, a, b, hr _ _ c, d⟩
def Box.ren (φ : Nat → Nat) (bx : Box) : Box := { bx with cells := bx.cells.map (renD φ) }
structure Under (E F : Env) (φ : Nat → Nat) : Prop where
 w : F.w = E.w
 S : F.S = E.S
 st : ∀ (b : Nat) (bx : Box), E.st[b]? = some bx → ∃ bx' : Box, F.st[φ b]? = some bx' ∧ bx'.ver = bx.ver
 σ : ∀ (b : Nat) (gz : Nat × Nat), E.σ[b]? = some gz → F.σ[φ b]? = some gz
mutual
theorem Rep.ren {E F : Env} {φ : Nat → Nat} (h : Under E F φ) : ∀ (d : DV) (u : Value), Rep E d u → Rep F (renD φ d) u
 | .any, _, _ => trivial
 | .d p, u, hr => by simp only [renD, Rep] at hr ⊢; rw [h.w, h.S]; exact hr
 | .agg cs, _, ⟨vs, h1, h3, h2⟩ => ⟨vs, h1, h3, Reps.ren h cs vs h2⟩
 | .tup cs, _, ⟨vs, h1, h2⟩ => ⟨vs, h1, Reps.ren h cs vs h2⟩
 | .fn _ cs, _, ⟨vs, h1, h2⟩ => ⟨vs, h1, Reps.ren h cs vs h2⟩
 | .ref b ver o, u, ⟨bx, gz, h1, h2, h0, h3, h4⟩ => by
    obtain ⟨bx', a1, a2⟩ := h.st b bx h1
    exact ⟨bx', gz, a1, h.σ b gz h2, h0, by omega, fun e => h4 (by omega)⟩
 | .cref cs, u, hr => by simp only [renD, Rep] at hr ⊢; rw [h.w, h.S]; exact hr
 | .view sz b ver o n, u, ⟨bx, gz, h1, h2, h0, h3, h4⟩ => by
    obtain ⟨bx', a1, a2⟩ := h.st b bx h1
    exact ⟨bx', gz, a1, h.σ b gz h2, h0, by omega, fun e => h4 (by omega)⟩
theorem Reps.ren {E F : Env} {φ : Nat → Nat} (h : Under E F φ) : ∀ (ds : List DV) (vs : List Value), Reps E ds vs → Reps F (renL φ ds) vs
 | [], [], _ => trivial
 | d :: ds, v :: vs, ⟨h1, h2⟩ => ⟨Rep.ren h d v h1, Reps.ren h ds vs h2⟩
 | [], _ :: _, h => h.elim
 | _ :: _, [], h => h.elim
end
structure Back (E F : Env) (φ : Nat → Nat) (n : Nat) : Prop where
 w : F.w = E.w
 S : F.S = E.S
 st : ∀ (b : Nat) (bx : Box), b < n → E.st[φ b]? = some bx → ∃ bx' : Box, F.st[b]? = some bx' ∧ bx'.ver = bx.ver
 σ : ∀ (b : Nat) (gz : Nat × Nat), b < n → E.σ[φ b]? = some gz → F.σ[b]? = some gz
mutual
def closedD (n : Nat) : DV → Bool
 | .any => true
 | .d _ => true
 | .agg cs => closedL n cs
 | .tup cs => closedL n cs
 | .ref b _ _ => b < n
 | .cref _ => true
 | .view _ b _ _ _ => b < n
 | .fn _ cs => closedL n cs
def closedL (n : Nat) : List DV → Bool
 | [] => true
 | d :: ds => closedD n d && closedL n ds
end
mutual
theorem Rep.back {E F : Env} {φ : Nat → Nat} {n : Nat} (h : Back E F φ n) : ∀ (d : DV) (u : Value), closedD n d = true → Rep E (renD φ d) u → Rep F d u
 | .any, _, _, _ => trivial
 | .d p, u, _, hr => by simp only [renD, Rep] at hr ⊢; rw [h.w, h.S]; exact hr
 | .agg cs, _, hcl, ⟨vs, h1, h3, h2⟩ => ⟨vs, h1, h3, Reps.back h cs vs hcl h2⟩
 | .tup cs, _, hcl, ⟨vs, h1, h2⟩ => ⟨vs, h1, Reps.back h cs vs hcl h2⟩
 | .fn _ cs, _, hcl, ⟨vs, h1, h2⟩ => ⟨vs, h1, Reps.back h cs vs hcl h2⟩
 | .ref b ver o, u, hcl, ⟨bx, gz, h1, h2, h0, h3, h4⟩ => by
    have hb : b < n := by simpa [closedD] using hcl
    obtain ⟨bx', a1, a2⟩ := h.st b bx hb h1
    exact ⟨bx', gz, a1, h.σ b gz hb h2, h0, by omega, fun e => h4 (by omega)⟩
 | .cref cs, u, _, hr => by simp only [renD, Rep] at hr ⊢; rw [h.w, h.S]; exact hr
 | .view sz b ver o k, u, hcl, ⟨bx, gz, h1, h2, h0, h3, h4⟩ => by
    have hb : b < n := by simpa [closedD] using hcl
    obtain ⟨bx', a1, a2⟩ := h.st b bx hb h1
    exact ⟨bx', gz, a1, h.σ b gz hb h2, h0, by omega, fun e => h4 (by omega)⟩
theorem Reps.back {E F : Env} {φ : Nat → Nat} {n : Nat} (h : Back E F φ n) : ∀ (ds : List DV) (vs : List Value), closedL n ds = true → Reps E (renL φ ds) vs → Reps F ds vs
 | [], [], _, _ => trivial
 | d :: ds, v :: vs, hcl, ⟨h1, h2⟩ => by
     simp only [closedL, Bool.and_eq_true] at hcl
     exact ⟨Rep.back h d v hcl.1 h1, Reps.back h ds vs hcl.2 h2⟩
 | [], _ :: _, _, h => h.elim
 | _ :: _, [], _, h => h.elim
end
mutual
theorem ren_id (φ : Nat → Nat) (h : ∀ b, φ b = b) : ∀ d : DV, renD φ d = d
 | .any => rfl
 | .d _ => rfl
 | .agg cs => by simp only [renD, renL_id φ h cs]
 | .tup cs => by simp only [renD, renL_id φ h cs]
 | .fn _ cs => by simp only [renD, renL_id φ h cs]
 | .ref b _ _ => by simp only [renD, h]
 | .cref _ => rfl
 | .view _ b _ _ _ => by simp only [renD, h]
theorem renL_id (φ : Nat → Nat) (h : ∀ b, φ b = b) : ∀ ds : List DV, renL φ ds = ds
 | [] => rfl
 | d :: ds => by simp only [renL, ren_id φ h d, renL_id φ h ds]
end
def place (ρ : List Nat) (n : Nat) (b : Nat) : Nat := match ρ[b]? with
 | some r => r
 | none => n + (b - ρ.length)
def mergeL {α : Type} (l : List α) (ρ : List Nat) (lc : List α) : List α :=
 (l.mapIdx fun i a => match ρ.idxOf? i with
   | some k => lc.getD k a
   | none => a) ++ lc.drop ρ.length
theorem mergeL_length {α : Type} (l : List α) (ρ : List Nat) (lc : List α) : (mergeL l ρ lc).length = l.length + (lc.length - ρ.length) := by simp [mergeL]
theorem mergeL_off {α : Type} (l : List α) (ρ : List Nat) (lc : List α) {i : Nat} (h : i < l.length) (hi : i ∉ ρ) : (mergeL l ρ lc)[i]? = l[i]? := by
 rw [mergeL, List.getElem?_append_left (by simpa using h), List.getElem?_mapIdx]
 rw [List.idxOf?_eq_none_iff.2 hi]
 simp
theorem mergeL_at {α : Type} (l : List α) (ρ : List Nat) (lc : List α) (hn : ρ.Nodup) (hv : ∀ r ∈ ρ, r < l.length) (hl : ρ.length ≤ lc.length) (k : Nat) : (mergeL l ρ lc)[place ρ l.length k]? = lc[k]? := by
 unfold place
 cases hk : ρ[k]? with
 | some r =>
   have hkl := (List.getElem?_eq_some_iff.1 hk).1
   have hr := hv r (List.mem_of_getElem? hk)
   simp only
   rw [mergeL, List.getElem?_append_left (by simpa using hr), List.getElem?_mapIdx]
   have hidx : ρ.idxOf? r = some k := by
    rw [List.idxOf?_eq_some_iff]
    refine ⟨hkl, by simpa using (List.getElem?_eq_some_iff.1 hk).2, fun j hj => ?_⟩
    have h1 := (List.getElem?_eq_some_iff.1 hk).2
    intro e
    have e2 : ρ[j] = ρ[k] := by rw [h1]; simpa using e
    exact List.pairwise_iff_getElem.1 hn j k (by omega) hkl hj e2
   rw [hidx]
   simp only [List.getElem?_eq_getElem hr, Option.map_some, List.getD_eq_getElem?_getD, List.getElem?_eq_getElem (show k < lc.length by omega), Option.getD_some]
 | none =>
   have hkl := List.getElem?_eq_none_iff.1 hk
   simp only
   rw [mergeL, List.getElem?_append_right (by simp)]
   simp only [List.length_mapIdx, List.getElem?_drop]
   congr 1
   omega
theorem mergeL_cases {α : Type} (l : List α) (ρ : List Nat) (lc : List α) {i : Nat} {x : α} (h : (mergeL l ρ lc)[i]? = some x) : (i < l.length ∧ i ∉ ρ) ∨ ∃ k, i = place ρ l.length k := by
 by_cases hi : i < l.length
 ·by_cases hm : i ∈ ρ
  ·obtain ⟨k, hk⟩ := List.getElem?_of_mem hm
   exact .inr ⟨k, by simp [place, hk]⟩
  ·exact .inl ⟨hi, hm⟩
 ·refine .inr ⟨ρ.length + (i - l.length), ?_⟩
  simp only [place]
  rw [List.getElem?_eq_none (by omega)]
  simp only
  omega
theorem closedL_get {n : Nat} : ∀ {ds : List DV} {j : Nat} {d : DV}, closedL n ds = true → ds[j]? = some d → closedD n d = true
 | d :: ds, 0, d', h, hj => by
     simp only [closedL, Bool.and_eq_true] at h
     simp at hj; subst hj; exact h.1
 | d :: ds, j + 1, d', h, hj => by
     simp only [closedL, Bool.and_eq_true] at h
     exact closedL_get h.2 (by simpa using hj)
 | [], _, _, _, hj => by simp at hj
theorem FnD.frame {P : Program} {f : FuncId} {args' : List DV} {R : DV → Store → Prop} {st sts : Store} (h : FnD P f args' sts R) (ρ : List Nat) (hn : ρ.Nodup) (hv : ∀ r ∈ ρ, r < st.length) (hlen0 : sts.length = ρ.length)
  (hsts : ∀ (k r : Nat) (bx : Box), ρ[k]? = some r → sts[k]? = some bx → st[r]? = some (Box.ren (place ρ st.length) bx) ∧ closedL ρ.length bx.cells = true) (hcl : closedL ρ.length args' = true) :
  FnD P f (renL (place ρ st.length) args') st fun r st' => ∃ r0 stc, R r0 stc ∧ ρ.length ≤ stc.length ∧ r = renD (place ρ st.length) r0 ∧ st' = mergeL st ρ (stc.map (Box.ren (place ρ st.length))) := by
 intro E vs hc hst hargs
 subst hst
 have hlen := hc.len
 let σ0 := ρ.map fun r => E.σ.getD r (0, 0)
 let E0 : Env := ⟨E.w, E.S, σ0, sts⟩
 have hρ : ∀ (k r : Nat), ρ[k]? = some r → ∃ gz bx, E.σ[r]? = some gz ∧ E.st[r]? = some (Box.ren (place ρ E.st.length) bx) ∧ E0.σ[k]? = some gz ∧ E0.st[k]? = some bx := by
  intro k r hk
  have hr := hv r (List.mem_of_getElem? hk)
  have hkl := (List.getElem?_eq_some_iff.1 hk).1
  refine ⟨E.σ[r]'(by omega), sts[k]'(by omega), List.getElem?_eq_getElem _, (hsts k r _ hk (List.getElem?_eq_getElem _)).1, ?_, List.getElem?_eq_getElem _⟩
  simp only [E0, σ0, List.getElem?_map, hk, Option.map_some, List.getD_eq_getElem?_getD, List.getElem?_eq_getElem (show r < E.σ.length by omega), Option.getD_some]
 have hk0 : ∀ (k : Nat) (gz : Nat × Nat), E0.σ[k]? = some gz → ∃ r, ρ[k]? = some r ∧ E.σ[r]? = some gz := by
  intro k gz hk
  have hkl : k < ρ.length := by
   have := (List.getElem?_eq_some_iff.1 hk).1
   simpa [E0, σ0] using this
  obtain ⟨gz', bx, h1, _, h3, _⟩ := hρ k _ (List.getElem?_eq_getElem hkl)
  rw [h3] at hk
  cases hk
  exact ⟨_, List.getElem?_eq_getElem hkl, h1⟩
 have hs0 : ∀ (k : Nat) (bx : Box), E0.st[k]? = some bx → ∃ r, ρ[k]? = some r ∧ E.st[r]? = some (Box.ren (place ρ E.st.length) bx) ∧ closedL ρ.length bx.cells = true := by
  intro k bx hk
  have hkl : k < ρ.length := by
   have := (List.getElem?_eq_some_iff.1 hk).1
   simp only [E0] at this
   omega
  have := hsts k _ bx (List.getElem?_eq_getElem hkl) hk
  exact ⟨_, List.getElem?_eq_getElem hkl, this.1, this.2⟩
 have hinj : ∀ (k k' r : Nat), ρ[k]? = some r → ρ[k']? = some r → k = k' := by
  intro k k' r h1 h2
  obtain ⟨l1, e1⟩ := List.getElem?_eq_some_iff.1 h1
  obtain ⟨l2, e2⟩ := List.getElem?_eq_some_iff.1 h2
  rcases Nat.lt_trichotomy k k' with hlt | heq | hgt
  ·exact absurd (e1.trans e2.symm) (List.pairwise_iff_getElem.1 hn k k' l1 l2 hlt)
  ·exact heq
  ·exact absurd (e2.trans e1.symm) (List.pairwise_iff_getElem.1 hn k' k l2 l1 hgt)
 have hback : Back E E0 (place ρ E.st.length) ρ.length := by
  refine ⟨rfl, rfl, fun b bx hb hbx => ?_, fun b gz hb hgz => ?_⟩
  ·obtain ⟨gz', bx', _, h2, _, h4⟩ := hρ b _ (List.getElem?_eq_getElem hb)
   rw [place, List.getElem?_eq_getElem hb] at hbx
   simp only at hbx
   rw [h2] at hbx
   cases hbx
   exact ⟨_, h4, rfl⟩
  ·obtain ⟨gz', bx', h1, _, h3, _⟩ := hρ b _ (List.getElem?_eq_getElem hb)
   rw [place, List.getElem?_eq_getElem hb] at hgz
   simp only at hgz
   rw [h1] at hgz
   cases hgz
   exact h3
 have hc0 : Conc E0 := by
  refine ⟨by simp [E0, σ0, hlen0], fun k bx g z h1 h2 hl => ?_, fun k k' g z g' z' h1 h2 he => ?_, hc.old, fun k g z h1 => ?_⟩
  ·obtain ⟨r, e1, e2, ecl⟩ := hs0 k bx h1
   obtain ⟨r', e3, e4⟩ := hk0 k _ h2
   rw [e1] at e3
   cases e3
   obtain ⟨cur, a1, a2, a3, a4, a5, a6, a7, a8⟩ := hc.box r _ g z e2 e4 hl
   refine ⟨cur, a1, a2, by simpa [Box.ren] using a3, fun he => by simpa [Box.ren] using a4 he, a5, a6, fun j d hj => ?_, a8⟩
   obtain ⟨u, c1, c2, c3⟩ := a7 j (renD (place ρ E.st.length) d) (by simp [Box.ren, hj])
   exact ⟨u, c1, c2, Rep.back hback d u (closedL_get ecl hj) c3⟩
  ·obtain ⟨r, e1, e2⟩ := hk0 k _ h1
   obtain ⟨r', e3, e4⟩ := hk0 k' _ h2
   have := hc.inj r r' g z g' z' e2 e4 he
   subst this
   exact hinj k k' r e1 e3
  ·obtain ⟨r, e1, e2⟩ := hk0 k _ h1
   exact hc.lt r g z e2
 refine (h E0 vs hc0 rfl (Reps.back hback args' vs hcl hargs)).mono ?_
 rintro e w' ⟨v, E1, r, rfl, rfl, hR, hc1, hx1, hr⟩
 have hl1 : ρ.length ≤ E1.st.length := by
  rcases Nat.lt_or_ge E1.st.length ρ.length with hlt | hge
  ·obtain ⟨gz, bx, _, _, h3, h4⟩ := hρ E1.st.length _ (List.getElem?_eq_getElem hlt)
   obtain ⟨bx', gz', q1, _⟩ := hx1.box _ _ _ h4 h3
   have := (List.getElem?_eq_some_iff.1 q1).1
   omega
  ·exact hge
 have hl2 : ρ.length ≤ E1.σ.length := by rw [hc1.len]; exact hl1
 have hvσ : ∀ r ∈ ρ, r < E.σ.length := fun r hr => by rw [hlen]; exact hv r hr
 let φ := place ρ E.st.length
 let E' : Env := ⟨E1.w, E1.S, mergeL E.σ ρ E1.σ, mergeL E.st ρ (E1.st.map (Box.ren φ))⟩
 have hst' : ∀ k, E'.st[φ k]? = (E1.st[k]?).map (Box.ren φ) := fun k => by
  have := mergeL_at E.st ρ (E1.st.map (Box.ren φ)) hn hv (by simpa using hl1) k
  simpa [E', φ] using this
 have hσ' : ∀ k, E'.σ[φ k]? = E1.σ[k]? := fun k => by
  have := mergeL_at E.σ ρ E1.σ hn hvσ hl2 k
  rw [hlen] at this
  exact this
 have hunder : Under E1 E' φ := ⟨rfl, rfl, fun b bx hb => ⟨Box.ren φ bx, by rw [hst', hb]; rfl, rfl⟩, fun b gz hb => by rw [hσ', hb]⟩
 have hoff : ∀ i, i < E.st.length → i ∉ ρ → E'.st[i]? = E.st[i]? ∧ E'.σ[i]? = E.σ[i]? := fun i hi hm => ⟨mergeL_off E.st ρ _ hi hm, mergeL_off E.σ ρ _ (by omega) hm⟩
 have hφ : ∀ k r, ρ[k]? = some r → φ k = r := fun k r hk => by simp [φ, place, hk]
 have hφn : ∀ k, ρ.length ≤ k → φ k = E.st.length + (k - ρ.length) := fun k hk => by simp [φ, place, List.getElem?_eq_none hk]
 have hold : ∀ (i g z : Nat), E.σ[i]? = some (g, z) → i ∉ ρ → E1.w.heap[g]? = E.w.heap[g]? := by
  intro i g z hi hm
  refine hx1.heap g (hc.lt i g z hi) fun b z' bx hb hbx => ?_
  obtain ⟨r, e1, e2⟩ := hk0 b _ hb
  have := hc.inj i r g z g z' hi e2 rfl
  subst this
  exact absurd (List.mem_of_getElem? e1) hm
 have hx : Ext E E' := by
  refine ⟨hx1.size, hx1.os, hx1.tape, hx1.output, hx1.set, fun g hg => ?_, fun g hg hd => ?_, fun b bx gz h1 h2 => ?_, fun b gz h1 h2 => ?_⟩
  ·rcases hx1.fresh g hg with q | q | ⟨b, z, q⟩
   ·exact .inl q
   ·exact .inr (.inl q)
   ·obtain ⟨r, _, e2⟩ := hk0 b _ q
    exact .inr (.inr ⟨r, z, e2⟩)
  ·refine hx1.heap g hg fun b z bx hb hbx => ?_
   obtain ⟨r, e1, e2⟩ := hk0 b _ hb
   obtain ⟨r', e3, e4, _⟩ := hs0 b _ hbx
   rw [e1] at e3
   cases e3
   exact hd r z (Box.ren (place ρ E.st.length) bx) e2 e4
  ·by_cases hm : b ∈ ρ
   ·obtain ⟨k, hk⟩ := List.getElem?_of_mem hm
    obtain ⟨gz', bx', e1, e2, e3, e4⟩ := hρ k b hk
    rw [h1] at e2
    rw [h2] at e1
    cases e1; cases e2
    obtain ⟨bx2, gz2, q1, q2, q3, q4, q5, q6⟩ := hx1.box k bx' gz e4 e3
    refine ⟨Box.ren φ bx2, gz2, ?_, ?_, q3, q4, q5, q6⟩
    ·rw [← hφ k b hk, hst', q1]; rfl
    ·rw [← hφ k b hk, hσ', q2]
   ·have hb := (List.getElem?_eq_some_iff.1 h1).1
    obtain ⟨o1, o2⟩ := hoff b hb hm
    exact ⟨bx, gz, o1.trans h1, o2.trans h2, Nat.le_refl _, fun _ => rfl, id, .inl rfl⟩
  ·have hb := List.getElem?_eq_none_iff.1 h1
   rcases mergeL_cases E.σ ρ E1.σ h2 with ⟨q, _⟩ | ⟨k, q⟩
   ·omega
   ·rw [hlen] at q
    have h3 : E1.σ[k]? = some gz := by rw [← hσ' k]; rw [q] at h2; exact h2
    refine hx1.new k gz ?_ h3
    simp only [E0, σ0]
    rw [List.getElem?_eq_none_iff, List.length_map]
    rcases Nat.lt_or_ge k ρ.length with hlt | hge
    ·have := hφ k _ (List.getElem?_eq_getElem hlt)
     have h4 := hv ρ[k] (List.getElem_mem hlt)
     simp only [φ] at this
     omega
    ·exact hge
 have hcE : Conc E' := by
  refine ⟨?_, fun b bx g z h1 h2 hl => ?_, fun b b' g z g' z' h1 h2 he => ?_, hc1.old, fun b g z h1 => ?_⟩
  ·simp only [E', mergeL_length, List.length_map, hc1.len, hlen]
  ·rcases mergeL_cases E.st ρ _ h1 with ⟨q1, q2⟩ | ⟨k, rfl⟩
   ·obtain ⟨o1, o2⟩ := hoff b q1 q2
    rw [o1] at h1
    rw [o2] at h2
    obtain ⟨cur, a1, a2, a3, a4, a5, a6, a7, a8⟩ := hc.box b bx g z h1 h2 hl
    refine ⟨cur, (hold b g z h2 q2).trans a1, a2, a3, a4, a5, fun hS => ?_, fun j d hj => ?_, a8⟩
    ·rcases hx1.fresh g hS with q | q | ⟨b', z', q⟩
     ·exact a6 q
     ·have := hc.lt b g z h2
      simp only [E0] at q
      omega
     ·obtain ⟨r', e1, e2⟩ := hk0 b' _ q
      have := hc.inj b r' g z g z' h2 e2 rfl
      subst this
      exact q2 (List.mem_of_getElem? e1)
    ·obtain ⟨u, c1, c2, c3⟩ := a7 j d hj
     exact ⟨u, c1, c2, Rep.ext hc hx d u c3⟩
   ·have h1' : E'.st[φ k]? = some bx := h1
    have h2' : E'.σ[φ k]? = some (g, z) := h2
    rw [hst'] at h1'
    rw [hσ'] at h2'
    cases hb0 : E1.st[k]? with
    | none => rw [hb0] at h1'; cases h1'
    | some bx1 =>
      rw [hb0] at h1'
      simp only [Option.map_some, Option.some.injEq] at h1'
      subst h1'
      obtain ⟨cur, a1, a2, a3, a4, a5, a6, a7, a8⟩ := hc1.box k bx1 g z hb0 h2' hl
      refine ⟨cur, a1, a2, by simpa [Box.ren] using a3, fun he => by simpa [Box.ren] using a4 he, a5, a6, fun j d hj => ?_, a8⟩
      simp only [Box.ren, List.getElem?_map] at hj
      cases hd : bx1.cells[j]? with
      | none => rw [hd] at hj; cases hj
      | some d1 =>
        rw [hd] at hj
        simp only [Option.map_some, Option.some.injEq] at hj
        subst hj
        obtain ⟨u, c1, c2, c3⟩ := a7 j d1 hd
        exact ⟨u, c1, c2, Rep.ren hunder d1 u c3⟩
  ·subst he
   have split : ∀ (b z : Nat), E'.σ[b]? = some (g, z) → (E.σ[b]? = some (g, z) ∧ b ∉ ρ) ∨ ∃ k, b = φ k ∧ E1.σ[k]? = some (g, z) := by
    intro b z hb
    rcases mergeL_cases E.σ ρ E1.σ hb with ⟨q1, q2⟩ | ⟨k, q⟩
    ·exact .inl ⟨by rw [← (hoff b (by omega) q2).2]; exact hb, q2⟩
    ·rw [hlen] at q
     exact .inr ⟨k, q, by rw [← hσ' k]; rw [q] at hb; exact hb⟩
   have mixed : ∀ (b k z z' : Nat), E.σ[b]? = some (g, z) → b ∉ ρ → E1.σ[k]? = some (g, z') → False := by
    intro b k z z' q1 q2 q3
    have hlt := hc.lt b g z q1
    cases hk : E0.σ[k]? with
    | none => have := hx1.new k _ hk q3; simp only [E0] at this; omega
    | some gz =>
      obtain ⟨r, e1, e2⟩ := hk0 k gz hk
      have hkl := (List.getElem?_eq_some_iff.1 hk).1
      have hkl' : k < E0.st.length := by
       simp only [E0, σ0, List.length_map] at hkl ⊢
       omega
      obtain ⟨bx2, gz2, p1, p2, _, _, _, p6⟩ := hx1.box k _ gz (List.getElem?_eq_getElem hkl') hk
      rw [q3] at p2
      cases p2
      rcases p6 with p6 | p6
      ·simp only at p6
       have := hc.inj b r g z g gz.2 q1 (by rw [e2, p6]) rfl
       subst this
       exact q2 (List.mem_of_getElem? e1)
      ·simp only [E0] at p6; omega
   rcases split b z h1 with ⟨p1, p2⟩ | ⟨k, rfl, p2⟩ <;> rcases split b' z' h2 with ⟨q1, q2⟩ | ⟨k', rfl, q2⟩
   ·exact hc.inj b b' g z g z' p1 q1 rfl
   ·exact (mixed b k' z z' p1 p2 q2).elim
   ·exact (mixed b' k z' z q1 q2 p2).elim
   ·rw [hc1.inj k k' g z g z' p2 q2 rfl]
  ·rcases mergeL_cases E.σ ρ E1.σ h1 with ⟨q1, q2⟩ | ⟨k, q⟩
   ·have := (hoff b (by omega) q2).2
    rw [this] at h1
    exact Nat.lt_of_lt_of_le (hc.lt b g z h1) hx1.size
   ·rw [hlen] at q
    have h3 : E1.σ[k]? = some (g, z) := by rw [← hσ' k]; rw [q] at h1; exact h1
    exact hc1.lt k g z h3
 exact ⟨v, E', renD φ r, rfl, rfl, ⟨r, E1.st, hR, hl1, rfl, rfl⟩, hcE, hx, Rep.ren hunder r v hr⟩
end Go.Proofs.Ytadnpgkddgbhkaa
