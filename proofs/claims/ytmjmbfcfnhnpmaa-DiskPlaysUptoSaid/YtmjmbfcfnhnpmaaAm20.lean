/- The program logic, twentieth part: operators, memory, reckoned from data to data. No condition: lemmas of any program. -/
import Derived.Test.YtmjmbfcfnhnpmaaAm19
namespace Go.Proofs.Ytmjmbfcfnhnpmaa
open Go.RowKit
set_option linter.all false
def eqL (A : Ar) : List Nat → List DV → List DV → Option Bool
  | [], [], [] => some true
  | k :: ks, .d (.sc x) :: xs, .d (.sc y) :: ys => match eqL A ks xs ys with
    | some b => match k, x, y with
      | 0, .int .i64 a, .int .i64 c => some (A.and (A.cmp .eql a c) b)
      | 1, .bool a, .bool c => some (A.and (A.beq a c) b)
      | 2, .string a, .string c => some (A.and (A.scmp .eql a c) b)
      | _, _, _ => none
    | none => none
  | _, _, _ => none
theorem eqL_D : ∀ (ks : List Nat) (xs ys : List DV) (b : Bool), eqL A0 ks xs ys = some b → eqD ks xs ys = some b
  | [], [], [], b, h => h
  | k :: ks, .d (.sc x) :: xs, .d (.sc y) :: ys, b, h => by
      unfold eqL at h
      unfold eqD
      split at h
      · rename_i b' hb
        have ih := eqL_D ks xs ys b' hb
        simp only [ih, scEqD]
        split at h <;> cases h <;> simp [scEq, A0]
      · cases h
  | [], [], _ :: _, _, h => by simp [eqL] at h
  | [], _ :: _, _, _, h => by simp [eqL] at h
  | _ :: _, [], _, _, h => by simp [eqL] at h
  | _ :: _, _ :: _, [], _, h => by simp [eqL] at h
  | _ :: _, .any :: _, _ :: _, _, h => by simp [eqL] at h
  | _ :: _, .agg _ :: _, _ :: _, _, h => by simp [eqL] at h
  | _ :: _, .tup _ :: _, _ :: _, _, h => by simp [eqL] at h
  | _ :: _, .ref _ _ _ :: _, _ :: _, _, h => by simp [eqL] at h
  | _ :: _, .cref _ :: _, _ :: _, _, h => by simp [eqL] at h
  | _ :: _, .view _ _ _ _ _ :: _, _ :: _, _, h => by simp [eqL] at h
  | _ :: _, .fn _ _ :: _, _ :: _, _, h => by simp [eqL] at h
  | _ :: _, .d (.slc _ _) :: _, _ :: _, _, h => by simp [eqL] at h
  | _ :: _, .d (.sc _) :: _, .any :: _, _, h => by simp [eqL] at h
  | _ :: _, .d (.sc _) :: _, .agg _ :: _, _, h => by simp [eqL] at h
  | _ :: _, .d (.sc _) :: _, .tup _ :: _, _, h => by simp [eqL] at h
  | _ :: _, .d (.sc _) :: _, .ref _ _ _ :: _, _, h => by simp [eqL] at h
  | _ :: _, .d (.sc _) :: _, .cref _ :: _, _, h => by simp [eqL] at h
  | _ :: _, .d (.sc _) :: _, .view _ _ _ _ _ :: _, _, h => by simp [eqL] at h
  | _ :: _, .d (.sc _) :: _, .fn _ _ :: _, _, h => by simp [eqL] at h
  | _ :: _, .d (.sc _) :: _, .d (.slc _ _) :: _, _, h => by simp [eqL] at h
/-- Two numbers; what is to be shown ahead of it. -/
def intV (A : Ar) (op : BinOp) (k k' : IntKind) (a b : Int) : RV :=
  match op with
  | .add => some ([k = k'], .d (.sc (.int k (A.bin .add k a b))))
  | .sub => some ([k = k'], .d (.sc (.int k (A.bin .sub k a b))))
  | .mul => some ([k = k'], .d (.sc (.int k (A.bin .mul k a b))))
  | .quo => some ([k = k', A.nz b], .d (.sc (.int k (A.bin .quo k a b))))
  | .rem => some ([k = k', A.nz b], .d (.sc (.int k (A.bin .rem k a b))))
  | .and => some ([k = k'], .d (.sc (.int k (A.bin .and k a b))))
  | .or => some ([k = k'], .d (.sc (.int k (A.bin .or k a b))))
  | .xor => some ([k = k'], .d (.sc (.int k (A.bin .xor k a b))))
  | .shl => some ([A.nn b], .d (.sc (.int k (A.bin .shl k a b))))
  | .shr => some ([A.nn b], .d (.sc (.int k (A.bin .shr k a b))))
  | .eql => some ([k = k'], .d (.sc (.bool (A.cmp .eql a b))))
  | .neq => some ([k = k'], .d (.sc (.bool (A.cmp .neq a b))))
  | .lss => some ([k = k'], .d (.sc (.bool (A.cmp .lss a b))))
  | .leq => some ([k = k'], .d (.sc (.bool (A.cmp .leq a b))))
  | .gtr => some ([k = k'], .d (.sc (.bool (A.cmp .gtr a b))))
  | .geq => some ([k = k'], .d (.sc (.bool (A.cmp .geq a b))))
  | _ => none
theorem intV_D {op : BinOp} {k k' : IntKind} {a b : Int} {cs : List Prop} {d : DV} (h : intV A0 op k k' a b = some (cs, d)) (hc : allP cs True) {K : DV → Prop} (hk : K d) : intBin op k k' a b K := by
  unfold intV at h
  unfold intBin
  split at h <;> cases h <;> first
    | exact ⟨hc.1, hk⟩
    | exact ⟨hc.1, hc.2.1, hk⟩
def strV (A : Ar) (op : BinOp) (a b : ByteArray) : RV :=
  match op with
  | .add => some ([A.fit a b], .d (.sc (.string (A.cat a b))))
  | .eql => some ([], .d (.sc (.bool (A.scmp .eql a b))))
  | .neq => some ([], .d (.sc (.bool (A.scmp .neq a b))))
  | .lss => some ([], .d (.sc (.bool (A.scmp .lss a b))))
  | .leq => some ([], .d (.sc (.bool (A.scmp .leq a b))))
  | .gtr => some ([], .d (.sc (.bool (A.scmp .gtr a b))))
  | .geq => some ([], .d (.sc (.bool (A.scmp .geq a b))))
  | _ => none
theorem strV_D {op : BinOp} {a b : ByteArray} {cs : List Prop} {d : DV} (h : strV A0 op a b = some (cs, d)) (hc : allP cs True) {K : DV → Prop} (hk : K d) : strBin op a b K := by
  unfold strV at h
  unfold strBin
  split at h <;> cases h <;> first
    | exact hk
    | exact ⟨hc.1, hk⟩
def eqV2 (A : Ar) (op : BinOp) (b : Bool) : RV :=
  match op with
  | .eql => some ([], .d (.sc (.bool b)))
  | .neq => some ([], .d (.sc (.bool (A.not b))))
  | _ => none
theorem eqV2_D {op : BinOp} {b : Bool} {cs : List Prop} {d : DV} (h : eqV2 A0 op b = some (cs, d)) {K : DV → Prop} (hk : K d) : eqK op b K := by
  unfold eqV2 at h
  unfold eqK
  split at h <;> cases h <;> exact hk
def binV (T : Unit → Tab) (A : Ar) (st : Store) (op : BinOp) (t : Nat) (x y : DV) : RV :=
  match x, y with
  | .d (.sc (.int k a)), .d (.sc (.int k' b)) => intV A op k k' a b
  | .d (.sc (.string a)), .d (.sc (.string b)) => strV A op a b
  | .d (.sc (.bool a)), .d (.sc (.bool b)) => bif (T ()).bool t then eqV2 A op (A.beq a b) else none
  | .agg cs, .agg ds => match (T ()).kinds t with
    | some ks => match eqL A ks cs ds with
      | some b => eqV2 A op b
      | none => none
    | none => none
  | .d (.sc (.slice none 0 0)), .d (.sc (.slice none 0 0)) => match (T ()).sl t with
    | some _ => eqV2 A op true
    | none => none
  | .view _ b ver _ _, .d (.sc (.slice none 0 0)) => match (T ()).sl t, st[b]?, eqV2 A op false with
    | some _, some bx, some (cs, d) => some (A.same bx.ver ver :: cs, d)
    | _, _, _ => none
  | .d (.slc _ (_ :: _)), .d (.sc (.slice none 0 0)) => match (T ()).sl t with
    | some _ => eqV2 A op false
    | none => none
  | .d (.sc (.pointer none)), .d (.sc (.pointer none)) => bif (T ()).ptr t then eqV2 A op true else none
  | .ref b ver _, .d (.sc (.pointer none)) => match st[b]? with
    | some bx => bif (bx.ver == ver) && (T ()).ptr t then eqV2 A op false else none
    | none => none
  | _, _ => none
theorem binV_D {P : Program} {T : Unit → Tab} (hT : TabOk P (T ())) {st : Store} {op : BinOp} {t : Nat} {x y : DV} {cs : List Prop} {d : DV} (h : binV T A0 st op t x y = some (cs, d)) (hc : allP cs True) {K : DV → Prop} (hk : K d) : binD P st op t x y K := by
  unfold binV at h
  split at h
  · exact intV_D h hc hk
  · exact strV_D h hc hk
  · cases hh : (T ()).bool t
    · rw [hh] at h; cases h
    · rw [hh] at h
      exact ⟨hT.bool _ hh, eqV2_D h hk⟩
  · split at h
    · rename_i ks hks
      obtain ⟨h1, h2, h3⟩ := hT.kinds _ _ hks
      split at h
      · rename_i b hb
        refine ⟨h1, h2, ?_⟩
        simp only [h3, eqL_D _ _ _ _ hb]
        exact eqV2_D h hk
      · cases h
    · cases h
  · split at h
    · rename_i ht
      exact ⟨by rw [hT.sl _ _ ht]; rfl, eqV2_D h hk⟩
    · cases h
  · rename_i sz b ver o n
    split at h
    · rename_i bx cs' d' ht hb h'
      cases h
      refine ⟨?_, by rw [hT.sl _ _ ht]; rfl, eqV2_D h' hk⟩
      have h1 : bx.ver = ver := hc.1
      simp only [notNil, hb]
      simpa using h1
    · cases h
  · split at h
    · rename_i ht
      exact ⟨rfl, by rw [hT.sl _ _ ht]; rfl, eqV2_D h hk⟩
    · cases h
  · cases hh : (T ()).ptr t
    · rw [hh] at h; cases h
    · rw [hh] at h
      obtain ⟨e, he⟩ := hT.ptr _ hh
      refine ⟨?_, eqV2_D h hk⟩
      simp only [he]
  · rename_i b ver o
    split at h
    · rename_i bx hb
      cases hh : ((bx.ver == ver) && (T ()).ptr t)
      · rw [hh] at h; cases h
      · rw [hh] at h
        simp only [Bool.and_eq_true] at hh
        obtain ⟨e, he⟩ := hT.ptr _ hh.2
        refine ⟨?_, ?_, eqV2_D h hk⟩
        · simp only [notNilP, hb]
          simpa using eqb hh.1
        · simp only [he]
    · cases h
  · cases h
end Go.Proofs.Ytmjmbfcfnhnpmaa
