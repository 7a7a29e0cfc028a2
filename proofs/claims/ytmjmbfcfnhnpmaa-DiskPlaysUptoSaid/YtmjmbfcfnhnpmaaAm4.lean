/- The program logic, fourth part: equality of plain values. No condition: lemmas of any program. -/
import Derived.Test.YtmjmbfcfnhnpmaaAm3
import Derived.ChangeKeysEq
namespace Go.Proofs.Ytmjmbfcfnhnpmaa
open Go.RowKit
set_option linter.all false
theorem beq_bytes (a b : ByteArray) : (a == b) = decide (a = b) := by
  rw [Bool.eq_iff_iff, beq_toListBytes, ByteArray.toList_eq, ByteArray.toList_eq]
  simp only [beq_iff_eq, decide_eq_true_eq]
  obtain ⟨⟨x⟩⟩ := a
  obtain ⟨⟨y⟩⟩ := b
  simp
theorem toList_bytes (a b : ByteArray) : (a.toList == b.toList) = decide (a = b) := by rw [← beq_toListBytes, beq_bytes]
/-- What a cell may hold: a number, a flag, a text. -/
def scEq : Nat → Value → Value → Option Bool
  | 0, .int k a, .int k' b => if k = k' then some (decide (a = b)) else none
  | 1, .bool a, .bool b => some (decide (a = b))
  | 2, .string a, .string b => some (decide (a = b))
  | _, _, _ => none
def eqV : List Nat → List Value → List Value → Option Bool
  | [], [], [] => some true
  | k :: ks, x :: xs, y :: ys => match scEq k x y, eqV ks xs ys with
    | some a, some b => some (a && b)
    | _, _ => none
  | _, _, _ => none
theorem eqV_length : ∀ (ks : List Nat) (xs ys : List Value) (b : Bool), eqV ks xs ys = some b → xs.length = ks.length ∧ ys.length = ks.length
  | [], [], [], _, _ => ⟨rfl, rfl⟩
  | k :: ks, x :: xs, y :: ys, b, h => by
      simp only [eqV] at h
      cases h1 : scEq k x y with
      | none => simp [h1] at h
      | some a =>
        cases h2 : eqV ks xs ys with
        | none => simp [h1, h2] at h
        | some c => simp [eqV_length ks xs ys c h2]
  | [], [], _ :: _, _, h => by simp [eqV] at h
  | [], _ :: _, _, _, h => by simp [eqV] at h
  | _ :: _, [], _, _, h => by simp [eqV] at h
  | _ :: _, _ :: _, [], _, h => by simp [eqV] at h
theorem eqV_split : ∀ (ks ks' : List Nat) (xs ys : List Value) (b : Bool), eqV (ks ++ ks') xs ys = some b →
    ∃ b1 b2, eqV ks (xs.take ks.length) (ys.take ks.length) = some b1 ∧ eqV ks' (xs.drop ks.length) (ys.drop ks.length) = some b2 ∧ b = (b1 && b2)
  | [], ks', xs, ys, b, h => ⟨true, b, by simp [eqV], by simpa using h, by simp⟩
  | k :: ks, ks', x :: xs, y :: ys, b, h => by
      simp only [List.cons_append, eqV] at h
      cases h1 : scEq k x y with
      | none => simp [h1] at h
      | some a =>
        cases h2 : eqV (ks ++ ks') xs ys with
        | none => simp [h1, h2] at h
        | some c =>
          simp [h1, h2] at h
          obtain ⟨b1, b2, i1, i2, i3⟩ := eqV_split ks ks' xs ys c h2
          exact ⟨a && b1, b2, by simp [eqV, h1, i1], by simpa using i2, by rw [← h, i3, Bool.and_assoc]⟩
  | _ :: _, _, [], _, _, h => by simp [eqV] at h
  | _ :: _, _, _ :: _, [], _, h => by simp [eqV] at h
def kindsF (kinds : TypeId → Option (List Nat)) (sz : Nat) : Nat → List Field → Option (List Nat)
  | off, [] => if off = sz then some [] else none
  | off, f :: fs => if f.name ≠ "_" ∧ f.offset = off then match kinds f.type with
      | some ks => match kindsF kinds sz (off + ks.length) fs with
        | some r => some (ks ++ r)
        | none => none
      | none => none
    else none
/-- The cells of a type of numbers, texts, flags, and structs and arrays of them. -/
def kindsT (P : Program) : Nat → TypeId → Option (List Nat)
  | 0, _ => none
  | n + 1, t => match tyD P t, P.underlying t with
    | some (1, false), some (.int _) => some [0]
    | some (1, false), some .bool => some [1]
    | some (1, false), some .string => some [2]
    | some (sz, true), some (.struct fs) => if P.stoodInHeld t = true then none else kindsF (kindsT P n) sz 0 fs.toList
    | some (sz, true), some (.array len e) => match kindsT P n e with
      | some ks => if sz = len * ks.length then some (List.replicate len ks).flatten else none
      | none => none
    | _, _ => none
theorem kindsF_length {kinds : TypeId → Option (List Nat)} {sz : Nat} : ∀ (fs : List Field) (off : Nat) (r : List Nat), kindsF kinds sz off fs = some r → off + r.length = sz
  | [], off, r, h => by
      simp only [kindsF] at h
      split at h
      · cases h; simpa
      · cases h
  | f :: fs, off, r, h => by
      simp only [kindsF] at h
      split at h
      · cases hk : kinds f.type with
        | none => simp [hk] at h
        | some ks =>
          simp only [hk] at h
          cases hr : kindsF kinds sz (off + ks.length) fs with
          | none => simp [hr] at h
          | some r' =>
            simp [hr] at h
            subst h
            have := kindsF_length fs _ _ hr
            simp; omega
      · cases h
theorem kindsT_ty {P : Program} {n : Nat} {t : TypeId} {ks : List Nat} (h : kindsT P n t = some ks) : ∃ ag, tyD P t = some (ks.length, ag) ∧ (ag = false → ks.length = 1) := by
  cases n with
  | zero => simp [kindsT] at h
  | succ n =>
    unfold kindsT at h
    split at h
    · rename_i h1 _; cases h; exact ⟨false, h1, fun _ => rfl⟩
    · rename_i h1 _; cases h; exact ⟨false, h1, fun _ => rfl⟩
    · rename_i h1 _; cases h; exact ⟨false, h1, fun _ => rfl⟩
    · rename_i sz fs h1 _
      split at h
      · cases h
      · have := kindsF_length _ _ _ h
        exact ⟨true, by rw [h1]; simp; omega, by simp⟩
    · rename_i sz len e h1 _
      split at h
      · rename_i ks' hk
        split at h
        · rename_i hs
          cases h
          refine ⟨true, by rw [h1, hs]; simp, by simp⟩
        · cases h
      · cases h
    · cases h
/-- The value of so many cells. -/
def valOf (ag : Bool) (xs : List Value) : Value := if ag then .agg xs.toArray else xs.headD undef
theorem run_part {P : Program} {t : TypeId} {sz : Nat} {ag : Bool} (ht : tyD P t = some (sz, ag)) (hone : ag = false → sz = 1) (xs : List Value) (off : Nat) (hl : off + sz ≤ xs.length) (w : World) :
    (part t xs.toArray off).run P w = .ok (valOf ag ((xs.drop off).take sz)) w := by
  obtain ⟨r1, r2⟩ := tyD_run ht w
  cases ag with
  | true => simp only [part, Sem.run_bind, r1, r2, Result.andThen_ok, Sem.run_pure, ↓reduceIte, List.extract_toArray, List.extract_eq_take_drop, Nat.add_sub_cancel_left, valOf]
  | false =>
    have := hone rfl
    subst this
    have hx : xs[off]? = some (xs[off]'(by omega)) := List.getElem?_eq_getElem (by omega)
    simp only [part, Sem.run_bind, r2, Result.andThen_ok, Bool.false_eq_true, ↓reduceIte, List.getElem?_toArray, hx, Sem.run_pure, valOf]
    congr 1
    rw [List.drop_eq_getElem_cons (by omega)]
    rfl
/-- '==' between two values of such a type. -/
theorem run_equalIn_kinds {P : Program} (w : World) : ∀ (n d : Nat), n ≤ d → ∀ (t : TypeId) (ks : List Nat) (ag : Bool), kindsT P n t = some ks → tyD P t = some (ks.length, ag) → ∀ (xs ys : List Value) (b : Bool), eqV ks xs ys = some b →
    (Op.equalIn d t (valOf ag xs) (valOf ag ys)).run P w = .ok b w
  | 0, _, _, t, _, _, h, _, _, _, _, _ => by simp [kindsT] at h
  | n + 1, 0, hd, _, _, _, _, _, _, _, _, _ => by omega
  | n + 1, d + 1, hd, t, ks, ag, h, ht, xs, ys, b, he => by
      obtain ⟨hxl, hyl⟩ := eqV_length _ _ _ _ he
      have one : ∀ (k : Nat), ks = [k] → ∃ x y, xs = [x] ∧ ys = [y] ∧ scEq k x y = some b := by
        intro k hk
        subst hk
        match xs, ys, hxl, hyl with
        | [x], [y], _, _ =>
          simp only [eqV] at he
          cases h1 : scEq k x y with
          | none => simp [h1] at he
          | some a => simp [h1] at he; subst he; exact ⟨x, y, rfl, rfl, h1⟩
      have IH : ∀ (e : TypeId) (kse : List Nat), kindsT P n e = some kse → ∀ (off : Nat) (b1 : Bool), eqV kse ((xs.drop off).take kse.length) ((ys.drop off).take kse.length) = some b1 → off + kse.length ≤ xs.length → off + kse.length ≤ ys.length →
          ∃ x y, (part e xs.toArray off).run P w = .ok x w ∧ (part e ys.toArray off).run P w = .ok y w ∧ (Op.equalIn d e x y).run P w = .ok b1 w := by
        intro e kse hk off b1 hb hx hy
        obtain ⟨age, hte, honee⟩ := kindsT_ty hk
        exact ⟨_, _, run_part hte honee xs off hx w, run_part hte honee ys off hy w, run_equalIn_kinds w n d (by omega) e kse age hk hte _ _ b1 hb⟩
      unfold kindsT at h
      split at h
      · rename_i k h1 hu
        cases h
        rw [h1] at ht; cases ht
        obtain ⟨x, y, rfl, rfl, hs⟩ := one 0 rfl
        simp only [valOf, Bool.false_eq_true, ↓reduceIte, List.headD_cons]
        unfold scEq at hs
        split at hs <;> try (simp_all; done)
        split at hs <;> cases hs
        rename_i _ hk
        subst hk
        simp [Op.equalIn, run_underlying hu]
        rfl
      · rename_i h1 hu
        cases h
        rw [h1] at ht; cases ht
        obtain ⟨x, y, rfl, rfl, hs⟩ := one 1 rfl
        simp only [valOf, Bool.false_eq_true, ↓reduceIte, List.headD_cons]
        unfold scEq at hs
        split at hs <;> try (simp_all; done)
        cases hs
        simp [Op.equalIn, run_underlying hu]
        rfl
      · rename_i h1 hu
        cases h
        rw [h1] at ht; cases ht
        obtain ⟨x, y, rfl, rfl, hs⟩ := one 2 rfl
        simp only [valOf, Bool.false_eq_true, ↓reduceIte, List.headD_cons]
        unfold scEq at hs
        split at hs <;> try (simp_all; done)
        cases hs
        simp only [Op.equalIn, Sem.run_bind, run_underlying hu, Result.andThen_ok, Sem.run_pure, beq_bytes]
      · rename_i sz fs h1 hu
        rw [h1] at ht; cases ht
        split at h
        · cases h
        · rename_i hp
          simp only [valOf, ↓reduceIte]
          rw [run_equalIn_struct w d t _ _ (by rw [hu]; simp [Program.fieldsOf, hu]) (by simpa using hp), show (P.fieldsOf t).toList = fs.toList by simp [Program.fieldsOf, hu]]
          have key : ∀ (fl : List Field) (off : Nat) (r : List Nat) (b1 : Bool), kindsF (kindsT P n) ks.length off fl = some r → eqV r (xs.drop off) (ys.drop off) = some b1 → (Op.eqFields d xs.toArray ys.toArray fl).run P w = .ok b1 w := by
            intro fl
            induction fl with
            | nil =>
              intro off r b1 hr hb
              simp only [kindsF] at hr
              split at hr
              · cases hr
                rename_i ho
                rw [List.drop_eq_nil_of_le (by omega), List.drop_eq_nil_of_le (by omega)] at hb
                simp [eqV] at hb
                simp [Op.eqFields, hb]
              · cases hr
            | cons f fl ih =>
              intro off r b1 hr hb
              have hrl := kindsF_length _ _ _ hr
              simp only [kindsF] at hr
              split at hr
              · rename_i hc
                obtain ⟨hname, hoff⟩ := hc
                cases hk : kindsT P n f.type with
                | none => simp [hk] at hr
                | some kse =>
                  simp only [hk] at hr
                  cases hr' : kindsF (kindsT P n) ks.length (off + kse.length) fl with
                  | none => simp [hr'] at hr
                  | some r' =>
                    simp [hr'] at hr
                    subst hr
                    simp only [List.length_append] at hrl
                    obtain ⟨c1, c2, e1, e2, e3⟩ := eqV_split _ _ _ _ _ hb
                    rw [List.drop_drop, List.drop_drop] at e2
                    obtain ⟨x, y, p1, p2, p3⟩ := IH f.type kse hk off c1 e1 (by omega) (by omega)
                    have ih' := ih _ _ _ hr' e2
                    rw [← hoff] at p1 p2
                    simp only [Op.eqFields, hname, ne_eq, not_false_eq_true, ↓reduceIte, Sem.run_bind, p1, p2, p3, Result.andThen_ok]
                    cases c1
                    · simp [e3]
                    · simp [ih', e3]
              · cases hr
          exact key _ 0 _ _ h (by simpa using he)
      · rename_i sz len e h1 hu
        rw [h1] at ht; cases ht
        split at h
        · rename_i kse hk
          split at h
          · rename_i hs
            cases h
            obtain ⟨age, hte, honee⟩ := kindsT_ty hk
            obtain ⟨i, hi⟩ : ∃ i, P.info? e = some i := by
              unfold tyD at hte
              cases hq : P.info? e with
              | none => simp [hq] at hte
              | some i => exact ⟨i, rfl⟩
            have hcells : P.cellsOf e = kse.length := by
              obtain ⟨r1, _⟩ := tyD_run hte w
              simp [sizeOf, typeInfo, hi] at r1
              simp [Program.cellsOf, hi, r1]
            simp only [valOf, ↓reduceIte]
            rw [run_equalIn_array w d _ _ hu hi, hcells]
            have key : ∀ (m j : Nat) (b1 : Bool), j + m = len → eqV (List.replicate m kse).flatten (xs.drop (j * kse.length)) (ys.drop (j * kse.length)) = some b1 → (Op.eqItems d e kse.length xs.toArray ys.toArray (List.range' j m)).run P w = .ok b1 w := by
              intro m
              induction m with
              | zero =>
                intro j b1 hj hb
                obtain ⟨l1, l2⟩ := eqV_length _ _ _ _ hb
                simp only [List.replicate_zero, List.flatten_nil, List.length_nil] at l1 l2 hb
                rw [List.eq_nil_of_length_eq_zero l1, List.eq_nil_of_length_eq_zero l2] at hb
                simp [eqV] at hb
                simp [Op.eqItems, hb]
              | succ m ih =>
                intro j b1 hj hb
                rw [List.replicate_succ, List.flatten_cons] at hb
                obtain ⟨l1, l2⟩ := eqV_length _ _ _ _ hb
                simp only [List.length_drop, List.length_append] at l1 l2
                obtain ⟨c1, c2, e1, e2, e3⟩ := eqV_split _ _ _ _ _ hb
                rw [List.drop_drop, List.drop_drop, show j * kse.length + kse.length = (j + 1) * kse.length by rw [Nat.add_mul]; omega] at e2
                have hkl : 0 < kse.length ∨ kse.length = 0 := by omega
                have hle : j * kse.length + kse.length ≤ len * kse.length := by
                  have : (j + 1) * kse.length ≤ len * kse.length := Nat.mul_le_mul_right _ (by omega)
                  rwa [Nat.add_mul, Nat.one_mul] at this
                have hx' : xs.length = len * kse.length := by simpa using hxl
                have hy' : ys.length = len * kse.length := by simpa using hyl
                obtain ⟨x, y, p1, p2, p3⟩ := IH e kse hk (j * kse.length) c1 e1 (by omega) (by omega)
                have ih' := ih (j + 1) _ (by omega) e2
                simp only [List.range'_succ, Op.eqItems, Sem.run_bind, p1, p2, p3, Result.andThen_ok]
                cases c1
                · simp [e3]
                · simp [ih', e3]
            have := key len 0 b (by omega) (by simpa using he)
            rwa [← List.range_eq_range'] at this
          · cases h
        · cases h
      · cases h
end Go.Proofs.Ytmjmbfcfnhnpmaa
