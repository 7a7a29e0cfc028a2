/- Numbers, texts, flags as bytes: what the functions give. No condition. -/
import Derived.Test.YtikodmddomaneaaBook7
import Derived.Test.YtikodmddomaneaaAm40
import Derived.Test.YtikodmddomaneaaDp8
namespace Go.Proofs.Ytikodmddomaneaa
open Go.RowKit
set_option linter.all false

/-- The bytes of a number: sevens of bits, the lowest first. -/
def numF : Nat → Nat → List UInt8
  | 0, _ => []
  | f + 1, u => if u < 128 then [UInt8.ofNat u] else UInt8.ofNat (u % 128 + 128) :: numF f (u / 128)
def zig (n : Int) : Int := if n < 0 then -2 * n - 1 else 2 * n
def numB (n : Int) : List UInt8 := numF 10 (zig n).toNat
theorem zig_range {n : Int} (h : r64 n) : 0 ≤ zig n ∧ zig n < 18446744073709551616 := by unfold r64 at h; unfold zig; split <;> omega

structure FsP where
  zig : Int → Int
  r64 : Int → Prop
def FsP0 : FsP where
  zig := zig
  r64 := r64

theorem numF_step (f u : Nat) (h : ¬ u < 128) : numF (f + 1) u = UInt8.ofNat (u % 128 + 128) :: numF f (u / 128) := by rw [numF, if_neg h]
theorem numF_last (f u : Nat) (h : u < 128) : numF (f + 1) u = [UInt8.ofNat u] := by rw [numF, if_pos h]
theorem fdiv128 (u : Nat) : (u : Int).fdiv (2 ^ min (Int.toNat 7) (IntKind.bits .u64)) = ((u / 128 : Nat) : Int) := by
  rw [show (2 : Int) ^ min (Int.toNat 7) (IntKind.bits .u64) = 128 by decide, Int.fdiv_eq_ediv_of_nonneg _ (by omega)]
  rfl
theorem low8 (u : Nat) (h : u < 128) : IntKind.wrap .u8 (u : Int) = ((UInt8.ofNat u).toNat : Int) := by
  simp [IntKind.wrap, IntKind.bits, IntKind.signed]
theorem or128f : ∀ x : Fin 256, bitsV .u8 (· ||| ·) (x.val : Int) 128 = (((UInt8.ofNat (x.val % 128 + 128)).toNat : Nat) : Int) := by decide +kernel
theorem or128 (u : Nat) : bitsV .u8 (· ||| ·) (IntKind.wrap .u8 (u : Int)) 128 = (((UInt8.ofNat (u % 128 + 128)).toNat : Nat) : Int) := by
  have e : IntKind.wrap .u8 (u : Int) = ((u % 256 : Nat) : Int) := by
    simp [IntKind.wrap, IntKind.bits, IntKind.signed]
  rw [e]
  have := or128f ⟨u % 256, Nat.mod_lt _ (by decide)⟩
  simp only at this
  rw [this, show u % 256 % 128 = u % 128 by omega]
theorem wrap64_of {a : Int} (h0 : 0 ≤ a) (h : a < 18446744073709551616) : IntKind.wrap .u64 a = a := by
  simp [IntKind.wrap, IntKind.bits, IntKind.signed]
  omega
theorem xor_zero (a : Int) (h0 : 0 ≤ a) (h : a < 18446744073709551616) : bitsV .u64 (· ^^^ ·) a 0 = a := by
  obtain ⟨n, rfl⟩ := Int.eq_ofNat_of_zero_le h0
  have e : BitVec.ofInt 64 (n : Int) ^^^ BitVec.ofInt 64 0 = BitVec.ofNat 64 n := by
    rw [show BitVec.ofInt 64 0 = 0#64 from rfl, BitVec.xor_zero]
    simp
  show IntKind.wrap .u64 ((BitVec.ofInt 64 (n : Int) ^^^ BitVec.ofInt 64 0).toNat : Int) = n
  rw [e, BitVec.toNat_ofNat, Nat.mod_eq_of_lt (by omega)]
  exact wrap64_of h0 h
theorem xor_ones (a : Int) (h0 : 0 ≤ a) (h : a < 18446744073709551616) : bitsV .u64 (· ^^^ ·) a 18446744073709551615 = 18446744073709551615 - a := by
  obtain ⟨n, rfl⟩ := Int.eq_ofNat_of_zero_le h0
  have e : BitVec.ofInt 64 (n : Int) ^^^ BitVec.ofInt 64 18446744073709551615 = ~~~ (BitVec.ofNat 64 n) := by
    rw [show BitVec.ofInt 64 18446744073709551615 = BitVec.allOnes 64 from rfl, BitVec.xor_allOnes]
    simp
  show IntKind.wrap .u64 ((BitVec.ofInt 64 (n : Int) ^^^ BitVec.ofInt 64 18446744073709551615).toNat : Int) = _
  rw [e, BitVec.toNat_not, BitVec.toNat_ofNat, Nat.mod_eq_of_lt (show n < 2 ^ 64 by omega)]
  rw [wrap64_of (by omega) (by omega)]
  omega
theorem zig_bits (n : Int) (h : r64 n) : bitsV .u64 (· ^^^ ·) (IntKind.wrap .u64 (IntKind.wrap .u64 n * 2 ^ min (Int.toNat 1) (IntKind.bits .u64))) (IntKind.wrap .u64 (n.fdiv (2 ^ min (Int.toNat 63) (IntKind.bits .i64)))) = zig n := by
  have hr := zig_range h
  unfold r64 at h
  have e1 : (2 : Int) ^ min (Int.toNat 1) (IntKind.bits .u64) = 2 := by decide
  have e2 : (2 : Int) ^ min (Int.toNat 63) (IntKind.bits .i64) = 9223372036854775808 := by decide
  rw [e1, e2]
  have hf : n.fdiv 9223372036854775808 = if n < 0 then -1 else 0 := by
    rw [Int.fdiv_eq_ediv_of_nonneg _ (by omega)]
    split <;> omega
  rw [hf]
  unfold zig at hr ⊢
  by_cases hn : n < 0
  · rw [if_pos hn, if_pos hn]
    rw [show IntKind.wrap .u64 (-1) = 18446744073709551615 from by decide]
    have : IntKind.wrap .u64 (IntKind.wrap .u64 n * 2) = 18446744073709551616 + 2 * n := by
      simp [IntKind.wrap, IntKind.bits, IntKind.signed]
      omega
    rw [this, xor_ones _ (by omega) (by omega)]
    omega
  · rw [if_neg hn, if_neg hn]
    rw [show IntKind.wrap .u64 0 = 0 from by decide]
    have : IntKind.wrap .u64 (IntKind.wrap .u64 n * 2) = 2 * n := by
      simp [IntKind.wrap, IntKind.bits, IntKind.signed]
      omega
    rw [this, xor_zero _ (by omega) (by omega)]

set_option maxRecDepth 100000 in
theorem v_zig (n : Int) (hp0 : FsP0.r64 n) : FnV Try.prog 41 [intD n] (.d (.sc (.int .u64 ((zig n))))) := by
  refine FnD_cbv (T := fun _ => tabY [] []) (H := fun _ => []) (tabY_ok _ _) noK_ok follows_mixed Try.func41 rfl Try.ntmps41 (by simp) fun A X W hA hX hW => ?_
  cbv
  repeat' first
    | (refine part (fun h => ?_) (fun h => ?_) <;> try cbv)
    | (refine And.intro ?_ ?_)
  all_goals subst hA hX hW
  all_goals try (show Region.lexB _ _ = true; kernel_rfl)
  all_goals try (show turnsB _ = true; kernel_rfl)
  all_goals simp only [A0, FsP0, decide_eq_true_eq, decide_eq_false_iff_not, Bool.not_eq_true', Bool.not_eq_false'] at *
  all_goals first
    | (refine ret_v ?_ rfl
       rw [zig_bits n hp0])
    | decide
def kn_zig (F : FsP) : FuncId × (List DV → RV) := (41, fun args => match args with
  | [.d (.sc (.int .i64 n))] => some ([F.r64 n], .d (.sc (.int .u64 ((F.zig n)))))
  | _ => none)
theorem ok_zig (args : List DV) (cs : List Prop) (r : DV) (h : (kn_zig FsP0).2 args = some (cs, r)) (hc : allP cs True) : FnV Try.prog 41 args r ∧ closedL 0 args = true := by
  unfold kn_zig at h
  simp only at h
  split at h
  · cases h; exact ⟨v_zig _ hc.1, rfl⟩
  · cases h

theorem w_grown (bs : List UInt8) (xs : List (List PD)) (n : Int) (hxs : xs = bytesP bs) (h0 : 0 ≤ n) (hn : n ≤ 8388608) (hb : bs.length ≤ 8388608) : FnD Try.prog 35 [.d (.slc 1 xs), intD n] [] (fun r st' => ∃ cs m, cs = rowsD (bytesP bs) ∧ m = bs.length ∧ r = .view 1 0 1 0 m ∧ st' = [⟨5, cs, true, 1, true⟩]) := by
  refine FnD_cbv (T := fun _ => tabY [] []) (H := fun _ => []) (tabY_ok _ _) noK_ok follows_mixed Try.func35 rfl Try.ntmps35 (by simp) fun A X W hA hX hW => ?_
  cbv
  have hl : xs.length = bs.length := by rw [hxs]; exact bytesP_length bs
  repeat' first
    | (refine And.intro ?_ ?_)
  all_goals subst hA hX hW
  · simp only [A0]
    rw [hl]
    simp [IntKind.wrap, IntKind.bits, IntKind.signed]
    omega
  · rfl
  · simp [A0]
  · simp only [A0]
    omega
  · refine RetW.refl ⟨_, _, ?_, ?_, rfl, rfl⟩
    · simp [A0, hxs]
    · simp [A0, hl]

theorem w_num (bs : List UInt8) (cs : List DV) (m : Nat) (n : Int) (ver : Nat) (hcs : cs = rowsD (bytesP bs)) (hm : m = bs.length) (hn : r64 n) (hl : bs.length ≤ 8388608) : FnD Try.prog 38 [.view 1 0 ver 0 m, intD n] [⟨5, cs, true, ver, true⟩] (fun r st' => ∃ v cs' m', cs' = rowsD (bytesP (bs ++ numB n)) ∧ m' = (bs ++ numB n).length ∧ r = .view 1 0 v 0 m' ∧ st' = [⟨5, cs', true, v, true⟩]) := by
  obtain ⟨F, hF⟩ : ∃ F, F = FsP0 := ⟨_, rfl⟩
  have hH : SoundK Try.prog [kn_zig F] := by subst hF; exact orK_ok ok_zig noK_ok
  refine FnD_cbv (T := fun _ => tabY [] []) (H := fun _ => [kn_zig F]) (tabY_ok _ _) hH follows_mixed Try.func38 rfl Try.ntmps38 (by simp) fun A X W hA hX hW => ?_
  cbv
  refine And.intro (by subst hF; exact hn) ?_
  refine loopL (T := fun _ => tabY [] []) (H := fun _ => [kn_zig F]) (tabY_ok _ _) hH follows_mixed hA hX (fun x : List DV × Int × Nat × Nat => ∃ (bs1 : List UInt8) (f u : Nat), x.1 = rowsD (bytesP bs1) ∧ x.2.1 = u ∧ x.2.2.2 = bs1.length ∧ bs1 ++ numF (f + 1) u = bs ++ numB n ∧ u < 128 ^ (f + 1) ∧ u < 18446744073709551616 ∧ f + bs1.length ≤ 8388620)
    (fun x => [(0, .view 1 0 x.2.2.1 0 x.2.2.2), (5, .d (.sc (.int .u64 x.2.1)))]) (fun x => [⟨5, x.1, true, x.2.2.1, true⟩])
    (fun x => x.2.1.toNat) (cs, zig n, ver, m) ?_ ?_ ?_
  · have hz := zig_range hn
    have hz2 : ((zig n).toNat : Int) = zig n := Int.toNat_of_nonneg hz.1
    refine ⟨bs, 9, (zig n).toNat, hcs, hz2.symm, hm, rfl, ?_, ?_, ?_⟩
    all_goals omega
  · subst hF
    refine told_less ?_
    simp [toldP, getS, FsP0]
  rintro R ⟨cells, u, v, len⟩ hR ⟨bs1, f, u1, h1, h2, h3, e1, e2, e3, e4⟩
  replace h1 : cells = rowsD (bytesP bs1) := h1
  replace h3 : len = bs1.length := h3
  cbv
  refine part (fun h => ?_) (fun h => ?_)
  · cbv
    repeat' first
      | (refine And.intro ?_ ?_)
    all_goals subst hR hA hX hW hF
    all_goals simp only [A0, decide_eq_true_eq] at h ⊢
    all_goals try (first | rfl | (simp; done) | omega)
    · rw [h1, rowsB_length, h3, Nat.mul_one]
    · replace h2 : u = (u1 : Int) := h2
      subst h2
      have hf : (u1 : Int).fdiv (2 ^ min (Int.toNat 7) (IntKind.bits .u64)) = ((u1 / 128 : Nat) : Int) := fdiv128 u1
      obtain ⟨f1, rfl⟩ : ∃ f1, f = f1 + 1 := by
        cases f with
        | zero => omega
        | succ f1 => exact ⟨f1, rfl⟩
      have hu : u1 / 128 < 128 ^ (f1 + 1) := by
        rw [Nat.pow_succ] at e2
        exact Nat.div_lt_of_lt_mul (by rw [Nat.mul_comm]; exact e2)
      refine ⟨(cells ++ [.d (.sc (.int .u8 ((UInt8.ofNat (u1 % 128 + 128)).toNat : Int)))], ((u1 / 128 : Nat) : Int), v + 1, len + 1), ⟨bs1 ++ [UInt8.ofNat (u1 % 128 + 128)], f1, u1 / 128, ?_, rfl, ?_, ?_, hu, ?_, ?_⟩, ?_, told_keep [0] rfl ?_ ?_⟩
      · simp only [rowsB_append, rowsB_one, h1]
      · simp [h3]
      · rw [← e1, numF_step (f1 + 1) u1 (by omega)]
        simp only [List.append_assoc, List.singleton_append]
      · omega
      · simp only [List.length_append, List.length_singleton]; omega
      · simp only; omega
      · simp only [or128 u1]
        simp [keepSt, pullBox, pullL_eq, h1, pull_rows, pullD]
      · rw [hf]
        simp [toldP, getS, pullD]
  · cbv
    repeat' first
      | (refine And.intro ?_ ?_)
    all_goals subst hR hA hX hW hF
    all_goals simp only [A0, decide_eq_false_iff_not] at h ⊢
    all_goals try (first | rfl | (simp; done) | omega)
    · rw [h1, rowsB_length, h3, Nat.mul_one]
    · replace h2 : u = (u1 : Int) := h2
      subst h2
      have hb : numF (f + 1) u1 = [UInt8.ofNat u1] := by exact numF_last f u1 (by omega)
      rw [hb] at e1
      refine ret_keep [0] rfl ⟨v + 1, _, _, rfl, rfl, ?_, ?_⟩
      · simp [pullD, ← e1, h3]
      · rw [← e1, rowsB_append, rowsB_one, ← h1, low8 u1 (by omega)]
        simp [keepSt, pullBox, pullL_eq, h1, pull_rows, pullD]

theorem numF_length : ∀ (f u : Nat), (numF f u).length ≤ f
  | 0, _ => Nat.le_refl 0
  | f + 1, u => by
      unfold numF
      split
      · simp
      · have := numF_length f (u / 128)
        simp only [List.length_cons]
        omega
theorem numB_length (n : Int) : (numB n).length ≤ 10 := numF_length 10 _
/-- Plain bytes, not too many. -/
def isB (xs : List (List PD)) : Prop := ∃ bs, xs = bytesP bs ∧ bs.length ≤ 8000000
noncomputable def numX (xs : List (List PD)) (n : Int) : List (List PD) := xs ++ bytesP (numB n)
def textB (s : ByteArray) : List UInt8 := numB s.size ++ s.data.toList
noncomputable def textX (xs : List (List PD)) (s : ByteArray) : List (List PD) := xs ++ bytesP (textB s)
noncomputable def flagX (xs : List (List PD)) (b : Bool) : List (List PD) := xs ++ bytesP [if b then 1 else 0]
def szT (s : ByteArray) : Prop := s.size ≤ 4194304
theorem ret_bytes {r : DV} {st : Store} {b ver n ty : Nat} {e : Bool} {cs : List DV} {bs : List UInt8} (hb : st[b]? = some ⟨ty, cs, e, ver, true⟩) (hn : n = bs.length) (hcells : cs = rowsD (bytesP bs)) (hr : r = .d (.slc 1 (bytesP bs))) :
    RetW 0 (fun x st => st = [] ∧ pureD x = true ∧ x = r) (.view 1 b ver 0 n) st :=
  ret_slice hb rfl rfl (by rw [bytesP_length]; exact hn) hcells (by intro x hx; simp only [bytesP, List.mem_map] at hx; obtain ⟨_, _, rfl⟩ := hx; rfl) hr

noncomputable def sameX (xs ys : List (List PD)) : Bool := @decide (xs = ys) (Classical.propDecidable _)
theorem rowB {bs : List UInt8} {xs : List (List PD)} (hxs : xs = bytesP bs) {i : Int} (h0 : 0 ≤ i) (h1 : i < bs.length) : xs.getD i.toNat [] = [.sc (.int .u8 ((bs[i.toNat]'(by omega)).toNat : Int))] := by
  subst hxs
  have : i.toNat < bs.length := by omega
  simp [bytesP, List.getD_eq_getElem?_getD, this]

structure FsPk where
  num : List (List PD) → Int → List (List PD)
  text : List (List PD) → ByteArray → List (List PD)
  flag : List (List PD) → Bool → List (List PD)
  same : List (List PD) → List (List PD) → Bool
  within3 : Int → Int → Int → Int
  isB : List (List PD) → Prop
  r64 : Int → Prop
  sz : ByteArray → Prop
  span3 : Int → Int → Prop
noncomputable def FsPk0 : FsPk where
  num := numX
  text := textX
  flag := flagX
  same := sameX
  within3 := within3
  isB := isB
  r64 := r64
  sz := szT
  span3 := span3
set_option maxRecDepth 100000 in
theorem v_num (xs : List (List PD)) (n : Int) (hp0 : FsPk0.isB xs) (hp1 : FsPk0.r64 n) : FnV Try.prog 34 [.d (.slc 1 xs), intD n] (.d (.slc 1 (numX xs n))) := by
  obtain ⟨bs, hxs, hb⟩ := hp0
  refine FnD_cbv (T := fun _ => tabY [] []) (H := fun _ => []) (tabY_ok _ _) noK_ok follows_mixed Try.func34 rfl Try.ntmps34 (by simp) fun A X W hA hX hW => ?_
  cbv
  refine callL hX ((w_grown bs xs 10 hxs (by decide) (by decide) (by omega)).mono ?_)
  rintro r st ⟨cs, m, hcs, hm, rfl, rfl⟩
  cbv
  refine callL hX ((w_num bs cs m n 1 hcs hm hp1 (by omega)).mono ?_)
  rintro r st ⟨v, cs2, m2, hcs2, hm2, rfl, rfl⟩
  cbv
  subst hA hX hW
  exact ret_bytes rfl hm2 hcs2 (by simp [numX, hxs, bytesP_append])
def kn_num (F : FsPk) : FuncId × (List DV → RV) := (34, fun args => match args with
  | [.d (.slc 1 xs), .d (.sc (.int .i64 n))] => some ([F.isB xs, F.r64 n], .d (.slc 1 (F.num xs n)))
  | [.d (.sc (.slice none 0 0)), .d (.sc (.int .i64 n))] => some ([F.isB [], F.r64 n], .d (.slc 1 (F.num [] n)))
  | _ => none)
theorem ok_num (args : List DV) (cs : List Prop) (r : DV) (h : (kn_num FsPk0).2 args = some (cs, r)) (hc : allP cs True) : FnV Try.prog 34 args r ∧ closedL 0 args = true := by
  unfold kn_num at h
  simp only at h
  split at h
  · cases h; exact ⟨v_num _ _ hc.1 hc.2.1, rfl⟩
  · cases h; exact ⟨FnP.nils (v_num [] _ hc.1 hc.2.1) ⟨.inr ⟨rfl, _, rfl⟩, ⟨.inl rfl, trivial⟩⟩, rfl⟩
  · cases h
end Go.Proofs.Ytikodmddomaneaa
namespace Go.Proofs.Ytikodmddomaneaa
open Go.RowKit
set_option linter.all false

/-- What the bytes from a place on tell as a number. -/
inductive Got where
  | short
  | form
  | num (u k : Nat)
def sev : Nat → Nat → List UInt8 → Got
  | _, _, [] => .short
  | i, u, c :: l => if (0 < i ∧ c.toNat = 0) ∨ (i = 9 ∧ 1 < c.toNat) then .form else if c.toNat < 128 then .num (u + c.toNat % 128 * 2 ^ (7 * i)) (i + 1) else sev (i + 1) (u + c.toNat % 128 * 2 ^ (7 * i)) l
def zagI (u : Int) : Int := if u % 2 = 1 then -(u / 2) - 1 else u / 2
def u64 (u : Int) : Prop := 0 ≤ u ∧ u < 18446744073709551616
/-- A number, read: the answer, the place behind, the error. -/
def numL (bs : List UInt8) (a w : Int) : Int × Int × Int :=
  if w ≠ 0 then (0, a, w) else match sev 0 0 (bs.drop a.toNat) with
    | .short => (0, a, 3)
    | .form => (0, a, 4)
    | .num u k => (zagI u, a + k, 0)
def numR (xs : List (List PD)) (a w : Int) : Int × Int × Int := numL (bytesOf xs) a w
def cntL (bs : List UInt8) (a w most : Int) : Int × Int × Int :=
  if (numL bs a w).2.2 = 0 ∧ ((numL bs a w).1 < 0 ∨ most < (numL bs a w).1) then (0, a, 2) else numL bs a w
def cntR (xs : List (List PD)) (a w most : Int) : Int × Int × Int := cntL (bytesOf xs) a w most
def textL (bs : List UInt8) (a w most : Int) : ByteArray × Int × Int :=
  if (cntL bs a w most).2.2 ≠ 0 then (.empty, (cntL bs a w most).2.1, (cntL bs a w most).2.2) else
    if (bs.length : Int) - (cntL bs a w most).2.1 < (cntL bs a w most).1 then (.empty, a, 3) else
      (⟨((bs.drop (cntL bs a w most).2.1.toNat).take (cntL bs a w most).1.toNat).toArray⟩, (cntL bs a w most).2.1 + (cntL bs a w most).1, 0)
def textR (xs : List (List PD)) (a w most : Int) : ByteArray × Int × Int := textL (bytesOf xs) a w most
def flagL (bs : List UInt8) (a w : Int) : Bool × Int × Int :=
  if w ≠ 0 then (false, a, w) else match bs[a.toNat]? with
    | none => (false, a, 3)
    | some c => if 1 < (c.toNat : Int) then (false, a, 4) else (decide ((c.toNat : Int) = 1), a + 1, 0)
def flagR (xs : List (List PD)) (a w : Int) : Bool × Int × Int := flagL (bytesOf xs) a w
def endR (xs : List (List PD)) (a w : Int) : Int := if w = 0 ∧ a < xs.length then 5 else w
def errR (w e : Int) : Int := if w = 0 then e else w
theorem err0 (e : Int) : errR 0 e = e := by simp [errR]
def failR (w : Int) : Int := if w = 0 then 4 else w
/-- A reader's cells are right: bytes, a place in them, an error. -/
def isRd (xs : List (List PD)) (a w : Int) : Prop := (∃ bs, xs = bytesP bs ∧ bs.length ≤ 8000000) ∧ 0 ≤ a ∧ a ≤ xs.length ∧ 0 ≤ w ∧ w ≤ 100
abbrev rdB (t : Nat) (xs : List (List PD)) (a w : Int) : Box := ⟨t, [.d (.slc 1 xs), .d (.sc (.int .i64 a)), .d (.sc (.int .i64 w))], false, 0, true⟩
theorem and127f : ∀ x : Fin 256, bitsV .u8 (· &&& ·) (x.val : Int) 127 = ((x.val % 128 : Nat) : Int) := by decide +kernel
theorem ofInt_nat (n : Nat) : BitVec.ofInt 64 (n : Int) = BitVec.ofNat 64 n := by simp
theorem and1 (u : Int) (h : u64 u) : bitsV .u64 (· &&& ·) u 1 = u % 2 := by
  obtain ⟨n, rfl⟩ := Int.eq_ofNat_of_zero_le h.1
  have hn : n < 18446744073709551616 := by have := h.2; omega
  show IntKind.wrap .u64 ((BitVec.ofInt 64 (n : Int) &&& BitVec.ofInt 64 1).toNat : Int) = _
  rw [ofInt_nat, show (BitVec.ofInt 64 1 : BitVec 64) = BitVec.ofNat 64 1 from rfl, BitVec.toNat_and, BitVec.toNat_ofNat, BitVec.toNat_ofNat, Nat.mod_eq_of_lt (show n < 2 ^ 64 by omega), show 1 % 2 ^ 64 = 1 from rfl, Nat.and_one_is_mod]
  rw [wrap64_of (by omega) (by omega)]
  omega
theorem or_add (u w k : Nat) (hu : u < 2 ^ k) (hw : u + w * 2 ^ k < 18446744073709551616) : bitsV .u64 (· ||| ·) (u : Int) ((w * 2 ^ k : Nat) : Int) = ((u + w * 2 ^ k : Nat) : Int) := by
  show IntKind.wrap .u64 ((BitVec.ofInt 64 (u : Int) ||| BitVec.ofInt 64 ((w * 2 ^ k : Nat) : Int)).toNat : Int) = _
  rw [ofInt_nat, ofInt_nat, BitVec.toNat_or, BitVec.toNat_ofNat, BitVec.toNat_ofNat, Nat.mod_eq_of_lt (show u < 2 ^ 64 by omega), Nat.mod_eq_of_lt (show w * 2 ^ k < 2 ^ 64 by omega)]
  have := Nat.shiftLeft_add_eq_or_of_lt hu w
  rw [Nat.shiftLeft_eq] at this
  rw [Nat.or_comm, ← this, wrap64_of (by omega) (by omega)]
  omega
theorem xor_i64 (a : Int) (h : r64 a) : bitsV .i64 (· ^^^ ·) a 0 = a ∧ bitsV .i64 (· ^^^ ·) a (-1) = -a - 1 ∧ bitsV .i64 (· ^^^ ·) (-1) a = -a - 1 := by
  have hb : ((BitVec.ofInt 64 a).toNat : Int) = a % 18446744073709551616 := by
    rw [BitVec.toNat_ofInt]
    omega
  have hx : (BitVec.ofInt 64 (-1) : BitVec 64) = BitVec.allOnes 64 := by decide
  unfold r64 at h
  have hn : IntKind.wrap .i64 ((~~~ BitVec.ofInt 64 a).toNat : Int) = -a - 1 := by
    rw [BitVec.toNat_not]
    simp only [IntKind.wrap, IntKind.bits, IntKind.signed]
    simp
    omega
  refine ⟨?_, ?_, ?_⟩
  · show IntKind.wrap .i64 ((BitVec.ofInt 64 a ^^^ BitVec.ofInt 64 0).toNat : Int) = a
    rw [show BitVec.ofInt 64 0 = 0#64 from rfl, BitVec.xor_zero, hb]
    simp only [IntKind.wrap, IntKind.bits, IntKind.signed]
    simp
    omega
  · show IntKind.wrap .i64 ((BitVec.ofInt 64 a ^^^ BitVec.ofInt 64 (-1)).toNat : Int) = _
    rw [hx, BitVec.xor_allOnes, hn]
  · show IntKind.wrap .i64 ((BitVec.ofInt 64 (-1) ^^^ BitVec.ofInt 64 a).toNat : Int) = _
    rw [hx, BitVec.allOnes_xor, hn]
theorem zag_range (u : Int) (h : u64 u) : r64 (zagI u) := by
  unfold u64 at h
  unfold zagI r64
  split <;> omega
theorem zag_zig (n : Int) (h : r64 n) : zagI (zig n) = n := by
  unfold r64 at h
  unfold zagI zig
  split <;> split <;> omega
theorem half (u : Int) (h : u64 u) : u.fdiv (2 ^ min (Int.toNat 1) (IntKind.bits .u64)) = u / 2 ∧ r64 (u / 2) := by
  unfold u64 at h
  refine ⟨?_, by unfold r64; omega⟩
  rw [show (2 : Int) ^ min (Int.toNat 1) (IntKind.bits .u64) = 2 by decide, Int.fdiv_eq_ediv_of_nonneg _ (by omega)]
theorem zag_bits (u : Int) (h : u64 u) : bitsV .i64 (· ^^^ ·) (IntKind.wrap .i64 (u.fdiv (2 ^ min (Int.toNat 1) (IntKind.bits .u64)))) (IntKind.wrap .i64 (0 - IntKind.wrap .i64 (bitsV .u64 (· &&& ·) u 1))) = zagI u := by
  rw [(half u h).1, and1 u h, wrap_i64 (half u h).2]
  have hx := xor_i64 _ (half u h).2
  unfold zagI
  rcases (show u % 2 = 0 ∨ u % 2 = 1 by omega) with e | e
  · rw [e, if_neg (by decide), show IntKind.wrap .i64 (0 - IntKind.wrap .i64 0) = 0 by decide, hx.1]
  · rw [e, if_pos rfl, show IntKind.wrap .i64 (0 - IntKind.wrap .i64 1) = -1 by decide, hx.2.1]

structure FsRr where
  zag : Int → Int
  zag2 : Int → Int
  u64 : Int → Prop
  zig : Int → Int
  r64 : Int → Prop
  rd : List (List PD) → Int → Int → Prop
  num : List (List PD) → Int → Int → Int × Int × Int
  cnt : List (List PD) → Int → Int → Int → Int × Int × Int
  text : List (List PD) → Int → Int → Int → ByteArray × Int × Int
  flag : List (List PD) → Int → Int → Bool × Int × Int
  fin : List (List PD) → Int → Int → Int
  fail : Int → Int
  err : Int → Int → Int
def FsRr0 : FsRr where
  zag := zagI
  zag2 := zagI
  u64 := u64
  zig := zig
  r64 := r64
  rd := isRd
  num := numR
  cnt := cntR
  text := textR
  flag := flagR
  fin := endR
  fail := failR
  err := errR
set_option maxRecDepth 100000 in
theorem v_zag (u : Int) (hp0 : FsRr0.u64 u) : FnV Try.prog 40 [.d (.sc (.int .u64 u))] (intD ((zagI u))) := by
  refine FnD_cbv (T := fun _ => tabY [] []) (H := fun _ => []) (tabY_ok _ _) noK_ok follows_mixed Try.func40 rfl Try.ntmps40 (by simp) fun A X W hA hX hW => ?_
  cbv
  repeat' first
    | (refine part (fun h => ?_) (fun h => ?_) <;> try cbv)
    | (refine And.intro ?_ ?_)
  all_goals subst hA hX hW
  all_goals try (show Region.lexB _ _ = true; kernel_rfl)
  all_goals try (show turnsB _ = true; kernel_rfl)
  all_goals simp only [A0, FsRr0, decide_eq_true_eq, decide_eq_false_iff_not, Bool.not_eq_true', Bool.not_eq_false'] at *
  all_goals first
    | decide
    | (refine ret_v ?_ rfl
       rw [zag_bits u hp0]
       rfl)
def kn_zag (F : FsRr) : FuncId × (List DV → RV) := (40, fun args => match args with
  | [.d (.sc (.int .u64 u))] => some ([F.u64 u], intD ((F.zag u)))
  | _ => none)
theorem ok_zag (args : List DV) (cs : List Prop) (r : DV) (h : (kn_zag FsRr0).2 args = some (cs, r)) (hc : allP cs True) : FnV Try.prog 40 args r ∧ closedL 0 args = true := by
  unfold kn_zag at h
  simp only at h
  split at h
  · cases h; exact ⟨v_zag _ hc.1, rfl⟩
  · cases h
theorem RetW.ofEq {k : Nat} {r res : DV} {st st2 : Store} (h1 : r = res) (h2 : st = st2) : RetW k (fun r st' => r = res ∧ st' = st2) r st := RetW.refl ⟨h1, h2⟩
set_option maxRecDepth 100000 in
theorem v_pfail (xs : List (List PD)) (a w : Int) (a2 : Int) (e : Int) (hp0 : FsRr0.rd xs a w) : FnD Try.prog 39 [.ref 0 0 0, .d (.sc (.int .i64 a2)), .d (.sc (.int .i64 e))] [rdB 65 xs a w] (fun r st' => r = .tup [] ∧ st' = [rdB 65 xs a2 e]) := by
  obtain ⟨F, hF⟩ : ∃ F, F = FsRr0 := ⟨_, rfl⟩
  refine FnD_cbv (T := fun _ => tabY [] []) (H := fun _ => []) (tabY_ok _ _) noK_ok follows_mixed Try.func39 rfl Try.ntmps39 (by simp) fun A X W hA hX hW => ?_
  cbv
  subst hA hX hW
  exact RetW.refl ⟨rfl, rfl⟩
def kb_pfail (F : FsRr) : FuncId × (List DV → Store → SV) := (39, fun args st => match args with
  | [.ref b ver o, .d (.sc (.int .i64 a2)), .d (.sc (.int .i64 e))] => (match st[b]? with
    | some ⟨t, [.d (.slc 1 xs), .d (.sc (.int .i64 a)), .d (.sc (.int .i64 w))], false, v, true⟩ => (bif (ver == 0) && (o == 0) && (v == 0) && (t == 65) then some ([F.rd xs a w], .tup [], st.set b (rdB 65 xs a2 e)) else none)
    | _ => none)
  | _ => none)
theorem okb_pfail (args : List DV) (st : Store) (cs : List Prop) (r : DV) (st' : Store) (h : (kb_pfail FsRr0).2 args st = some (cs, r, st')) (hc : allP cs True) (K : DV → Store → Prop) (hk : K r st') : FnD Try.prog 39 args st K := by
  unfold kb_pfail at h
  simp only at h
  split at h
  · split at h
    · rename_i hb
      simp only [cond_eq_ite, Bool.and_eq_true, beq_iff_eq, Option.ite_none_right_eq_some] at h
      obtain ⟨⟨⟨⟨rfl, rfl⟩, rfl⟩, rfl⟩, h⟩ := h
      cases h
      exact FnD.one _ (v_pfail _ _ _ _ _ hc.1) hb rfl rfl rfl rfl hk
    · cases h
  · cases h
set_option maxRecDepth 100000 in
theorem v_pwrong (xs : List (List PD)) (a w : Int) (hp0 : FsRr0.rd xs a w) : FnD Try.prog 29 [.ref 0 0 0] [rdB 65 xs a w] (fun r st' => r = .d (.sc (.int .i64 w)) ∧ st' = [rdB 65 xs a w]) := by
  obtain ⟨F, hF⟩ : ∃ F, F = FsRr0 := ⟨_, rfl⟩
  refine FnD_cbv (T := fun _ => tabY [] []) (H := fun _ => []) (tabY_ok _ _) noK_ok follows_mixed Try.func29 rfl Try.ntmps29 (by simp) fun A X W hA hX hW => ?_
  cbv
  subst hA hX hW
  exact RetW.refl ⟨rfl, rfl⟩
def kb_pwrong (F : FsRr) : FuncId × (List DV → Store → SV) := (29, fun args st => match args with
  | [.ref b ver o] => (match st[b]? with
    | some ⟨t, [.d (.slc 1 xs), .d (.sc (.int .i64 a)), .d (.sc (.int .i64 w))], false, v, true⟩ => (bif (ver == 0) && (o == 0) && (v == 0) && (t == 65) then some ([F.rd xs a w], .d (.sc (.int .i64 w)), st.set b (rdB 65 xs a w)) else none)
    | _ => none)
  | _ => none)
theorem okb_pwrong (args : List DV) (st : Store) (cs : List Prop) (r : DV) (st' : Store) (h : (kb_pwrong FsRr0).2 args st = some (cs, r, st')) (hc : allP cs True) (K : DV → Store → Prop) (hk : K r st') : FnD Try.prog 29 args st K := by
  unfold kb_pwrong at h
  simp only at h
  split at h
  · split at h
    · rename_i hb
      simp only [cond_eq_ite, Bool.and_eq_true, beq_iff_eq, Option.ite_none_right_eq_some] at h
      obtain ⟨⟨⟨⟨rfl, rfl⟩, rfl⟩, rfl⟩, h⟩ := h
      cases h
      exact FnD.one _ (v_pwrong _ _ _ hc.1) hb rfl rfl rfl rfl hk
    · cases h
  · cases h
set_option maxRecDepth 100000 in
theorem v_pFail (xs : List (List PD)) (a w : Int) (hp0 : FsRr0.rd xs a w) : FnD Try.prog 37 [.ref 0 0 0] [rdB 65 xs a w] (fun r st' => r = .tup [] ∧ st' = [rdB 65 xs a (FsRr0.fail w)]) := by
  obtain ⟨F, hF⟩ : ∃ F, F = FsRr0 := ⟨_, rfl⟩
  refine FnD_cbv (T := fun _ => tabY [] []) (H := fun _ => []) (tabY_ok _ _) noK_ok follows_mixed Try.func37 rfl Try.ntmps37 (by simp) fun A X W hA hX hW => ?_
  cbv
  refine part (fun h => ?_) (fun h => ?_)
  all_goals
    cbv
    subst hA hX hW hF
    simp only [A0, decide_eq_true_eq, decide_eq_false_iff_not] at h
    refine RetW.refl ⟨rfl, ?_⟩
    simp [FsRr0, failR, h]
def kb_pFail (F : FsRr) : FuncId × (List DV → Store → SV) := (37, fun args st => match args with
  | [.ref b ver o] => (match st[b]? with
    | some ⟨t, [.d (.slc 1 xs), .d (.sc (.int .i64 a)), .d (.sc (.int .i64 w))], false, v, true⟩ => (bif (ver == 0) && (o == 0) && (v == 0) && (t == 65) then some ([F.rd xs a w], .tup [], st.set b (rdB 65 xs a (F.fail w))) else none)
    | _ => none)
  | _ => none)
theorem okb_pFail (args : List DV) (st : Store) (cs : List Prop) (r : DV) (st' : Store) (h : (kb_pFail FsRr0).2 args st = some (cs, r, st')) (hc : allP cs True) (K : DV → Store → Prop) (hk : K r st') : FnD Try.prog 37 args st K := by
  unfold kb_pFail at h
  simp only at h
  split at h
  · split at h
    · rename_i hb
      simp only [cond_eq_ite, Bool.and_eq_true, beq_iff_eq, Option.ite_none_right_eq_some] at h
      obtain ⟨⟨⟨⟨rfl, rfl⟩, rfl⟩, rfl⟩, h⟩ := h
      cases h
      exact FnD.one _ (v_pFail _ _ _ hc.1) hb rfl rfl rfl rfl hk
    · cases h
  · cases h
theorem isRd_len {xs : List (List PD)} {a w : Int} (h : isRd xs a w) : ∃ bs, xs = bytesP bs ∧ bytesOf xs = bs ∧ xs.length = bs.length ∧ bs.length ≤ 8000000 ∧ 0 ≤ a ∧ a ≤ bs.length ∧ 0 ≤ w ∧ w ≤ 100 := by
  obtain ⟨⟨bs, rfl, hb⟩, h1, h2, h3, h4⟩ := h
  rw [bytesP_length] at h2
  exact ⟨bs, rfl, bytesOf_bytesP bs, bytesP_length bs, hb, h1, h2, h3, h4⟩
theorem isRd_row {xs : List (List PD)} {a w : Int} (h : isRd xs a w) : (a = xs.length ∧ (bytesOf xs)[a.toNat]? = none) ∨ ∃ (b : UInt8) (c : Nat), b.toNat = c ∧ c < 256 ∧ a < xs.length ∧ (bytesOf xs)[a.toNat]? = some b ∧ xs.getD a.toNat [] = [.sc (.int .u8 (c : Int))] := by
  obtain ⟨bs, rfl, hby, hl, hb, h0, h1, _⟩ := isRd_len h
  rw [hby, hl]
  rcases Int.lt_or_eq_of_le h1 with h2 | h2
  · have hj : a.toNat < bs.length := by omega
    exact .inr ⟨bs[a.toNat], _, rfl, UInt8.toNat_lt _, h2, List.getElem?_eq_getElem hj, rowB rfl h0 h2⟩
  · exact .inl ⟨h2, List.getElem?_eq_none (by omega)⟩
set_option maxRecDepth 100000 in
theorem v_pEnd (xs : List (List PD)) (a w : Int) (hp0 : FsRr0.rd xs a w) : FnD Try.prog 30 [.ref 0 0 0] [rdB 65 xs a w] (fun r st' => r = .d (.sc (.int .i64 (FsRr0.fin xs a w))) ∧ st' = [rdB 65 xs a (FsRr0.fin xs a w)]) := by
  obtain ⟨F, hF⟩ : ∃ F, F = FsRr0 := ⟨_, rfl⟩
  refine FnD_cbv (T := fun _ => tabY [] []) (H := fun _ => []) (tabY_ok _ _) noK_ok follows_mixed Try.func30 rfl Try.ntmps30 (by simp) fun A X W hA hX hW => ?_
  cbv
  repeat' first
    | (refine part (fun h => ?_) (fun h => ?_) <;> try cbv)
    | (refine And.intro ?_ ?_)
    | (with_reducible refine callB hX hB ?_) <;> cbv
  all_goals subst hA hX hW hF
  all_goals have hrow := isRd_row hp0
  all_goals obtain ⟨bs, hxs, hby, hlx, hb, h0, h1, hw0, hw1⟩ := isRd_len hp0
  all_goals have hwa : IntKind.wrap .i64 (a + 1) = a + 1 := wrap_i64 (by unfold r64; omega)
  all_goals try (show Region.lexB _ _ = true; kernel_rfl)
  all_goals try (show turnsB _ = true; kernel_rfl)
  all_goals simp only [A0, FsRr0, decide_eq_true_eq, decide_eq_false_iff_not, Bool.not_eq_true', Bool.not_eq_false', Bool.and_eq_true] at *
  all_goals first
    | assumption
    | exact id
    | (intros; first | assumption | trivial | (simp_all; done))
    | (refine RetW.ofEq ?_ ?_ <;> simp_all [endR, errR] <;> omega)
    | (refine RetW.ofEq ?_ ?_ <;> simp_all [endR, errR])
def kb_pEnd (F : FsRr) : FuncId × (List DV → Store → SV) := (30, fun args st => match args with
  | [.ref b ver o] => (match st[b]? with
    | some ⟨t, [.d (.slc 1 xs), .d (.sc (.int .i64 a)), .d (.sc (.int .i64 w))], false, v, true⟩ => (bif (ver == 0) && (o == 0) && (v == 0) && (t == 65) then some ([F.rd xs a w], .d (.sc (.int .i64 (F.fin xs a w))), st.set b (rdB 65 xs a (F.fin xs a w))) else none)
    | _ => none)
  | _ => none)
theorem okb_pEnd (args : List DV) (st : Store) (cs : List Prop) (r : DV) (st' : Store) (h : (kb_pEnd FsRr0).2 args st = some (cs, r, st')) (hc : allP cs True) (K : DV → Store → Prop) (hk : K r st') : FnD Try.prog 30 args st K := by
  unfold kb_pEnd at h
  simp only at h
  split at h
  · split at h
    · rename_i hb
      simp only [cond_eq_ite, Bool.and_eq_true, beq_iff_eq, Option.ite_none_right_eq_some] at h
      obtain ⟨⟨⟨⟨rfl, rfl⟩, rfl⟩, rfl⟩, h⟩ := h
      cases h
      exact FnD.one _ (v_pEnd _ _ _ hc.1) hb rfl rfl rfl rfl hk
    · cases h
  · cases h
theorem lor_eq (a b c : Bool) : (a || b && c) = true ↔ (a = true ∨ b = true ∧ c = true) := by cases a <;> cases b <;> cases c <;> simp
theorem sev_lt : ∀ (l : List UInt8) (i u : Nat), i ≤ 9 → u < 2 ^ (7 * i) → ∀ m k, sev i u l = .num m k → m < 18446744073709551616 ∧ i < k ∧ k ≤ i + l.length ∧ k ≤ 10
  | [], i, u, _, _, m, k, h => by simp [sev] at h
  | c :: l, i, u, hi, hu, m, k, h => by
      have hc : c.toNat < 256 := c.toNat_lt
      unfold sev at h
      split at h
      · cases h
      · rename_i hf
        have hb : u + c.toNat % 128 * 2 ^ (7 * i) < 18446744073709551616 := by
          rcases Nat.lt_or_eq_of_le hi with h9 | h9
          · have h1 : c.toNat % 128 < 128 := Nat.mod_lt _ (by decide)
            have h2 : u + c.toNat % 128 * 2 ^ (7 * i) < 128 * 2 ^ (7 * i) := by
              have : c.toNat % 128 * 2 ^ (7 * i) + 2 ^ (7 * i) ≤ 128 * 2 ^ (7 * i) := by
                rw [← Nat.succ_mul]
                exact Nat.mul_le_mul_right _ h1
              omega
            have h3 : 128 * 2 ^ (7 * i) ≤ 128 * 2 ^ (7 * 8) := Nat.mul_le_mul_left _ (Nat.pow_le_pow_right (by decide) (by omega))
            omega
          · subst h9
            have : c.toNat % 128 ≤ 1 := by
              simp only [not_or, not_and] at hf
              have := hf.2 trivial
              omega
            have h1 : u < 2 ^ 63 := by simpa using hu
            have h2 : c.toNat % 128 * 2 ^ (7 * 9) ≤ 1 * 2 ^ (7 * 9) := Nat.mul_le_mul_right _ this
            omega
        split at h
        · cases h
          simp only [List.length_cons]
          omega
        · rename_i h128
          rcases Nat.lt_or_eq_of_le hi with h9 | h9
          · have := sev_lt l (i + 1) _ (by omega) (by
              have h1 : c.toNat % 128 < 128 := Nat.mod_lt _ (by decide)
              have : c.toNat % 128 * 2 ^ (7 * i) + 2 ^ (7 * i) ≤ 128 * 2 ^ (7 * i) := by
                rw [← Nat.succ_mul]
                exact Nat.mul_le_mul_right _ h1
              have e : 2 ^ (7 * (i + 1)) = 128 * 2 ^ (7 * i) := by rw [Nat.mul_add, Nat.pow_add, Nat.mul_comm]
              omega) m k h
            simp only [List.length_cons]
            omega
          · subst h9
            simp only [not_or, not_and] at hf
            have := hf.2 trivial
            omega
/-- One byte of a number: what the loop takes of it. -/
theorem sev_step {bs : List UInt8} {n i u : Nat} {b : UInt8} (hb : bs[n + i]? = some b) : sev i u (bs.drop (n + i)) = if (0 < i ∧ b.toNat = 0) ∨ (i = 9 ∧ 1 < b.toNat) then .form else if b.toNat < 128 then .num (u + b.toNat % 128 * 2 ^ (7 * i)) (i + 1) else sev (i + 1) (u + b.toNat % 128 * 2 ^ (7 * i)) (bs.drop (n + (i + 1))) := by
  have hj : n + i < bs.length := (List.getElem?_eq_some_iff.1 hb).1
  have e : bs[n + i] = b := (List.getElem?_eq_some_iff.1 hb).2
  rw [List.drop_eq_getElem_cons hj, e]
  rfl
theorem sev_end {bs : List UInt8} {n i u : Nat} (hb : bs.length ≤ n + i) : sev i u (bs.drop (n + i)) = .short := by
  rw [List.drop_eq_nil_of_le hb]
  rfl
/-- The bits of one byte, laid in. -/
theorem lay (u i c : Nat) (hc : c < 256) (hi : i ≤ 9) (hu : u < 2 ^ (7 * i)) (h9 : i = 9 → c ≤ 1) :
    bitsV .u64 (· ||| ·) (u : Int) (IntKind.wrap .u64 (IntKind.wrap .u64 (bitsV .u8 (· &&& ·) (c : Int) 127) * 2 ^ min (Int.toNat ((7 * i : Nat) : Int)) (IntKind.bits .u64))) = ((u + c % 128 * 2 ^ (7 * i) : Nat) : Int) ∧ u + c % 128 * 2 ^ (7 * i) < 18446744073709551616 := by
  have hlt : u + c % 128 * 2 ^ (7 * i) < 18446744073709551616 := by
    rcases Nat.lt_or_eq_of_le hi with h | h
    · have h1 : c % 128 < 128 := Nat.mod_lt _ (by decide)
      have : c % 128 * 2 ^ (7 * i) + 2 ^ (7 * i) ≤ 128 * 2 ^ (7 * i) := by
        rw [← Nat.succ_mul]
        exact Nat.mul_le_mul_right _ h1
      have h3 : 128 * 2 ^ (7 * i) ≤ 128 * 2 ^ (7 * 8) := Nat.mul_le_mul_left _ (Nat.pow_le_pow_right (by decide) (by omega))
      omega
    · subst h
      have := h9 rfl
      have h1 : u < 2 ^ 63 := by simpa using hu
      have h2 : c % 128 * 2 ^ (7 * 9) ≤ 1 * 2 ^ (7 * 9) := Nat.mul_le_mul_right _ (by omega)
      omega
  refine ⟨?_, hlt⟩
  have e1 := and127f ⟨c, hc⟩
  simp only at e1
  rw [e1]
  have e3 : min (Int.toNat ((7 * i : Nat) : Int)) (IntKind.bits .u64) = 7 * i := by
    show min (7 * i) 64 = 7 * i
    omega
  have ew : IntKind.wrap .u64 ((c % 128 : Nat) : Int) = ((c % 128 : Nat) : Int) := wrap64_of (by omega) (by omega)
  rw [e3, ew]
  have e4 : ((c % 128 : Nat) : Int) * 2 ^ (7 * i) = ((c % 128 * 2 ^ (7 * i) : Nat) : Int) := by push_cast; rfl
  have ew2 : IntKind.wrap .u64 ((c % 128 * 2 ^ (7 * i) : Nat) : Int) = ((c % 128 * 2 ^ (7 * i) : Nat) : Int) := wrap64_of (by omega) (by omega)
  rw [e4, ew2]
  exact or_add u (c % 128) (7 * i) hu hlt
theorem lay_more (u i c : Nat) (hu : u < 2 ^ (7 * i)) : u + c % 128 * 2 ^ (7 * i) < 2 ^ (7 * (i + 1)) := by
  have h1 : c % 128 < 128 := Nat.mod_lt _ (by decide)
  have : c % 128 * 2 ^ (7 * i) + 2 ^ (7 * i) ≤ 128 * 2 ^ (7 * i) := by
    rw [← Nat.succ_mul]
    exact Nat.mul_le_mul_right _ h1
  have e : 2 ^ (7 * (i + 1)) = 128 * 2 ^ (7 * i) := by rw [Nat.mul_add, Nat.pow_add, Nat.mul_comm]
  omega
theorem num_short {xs : List (List PD)} {bs : List UInt8} {a : Int} {n m : Nat} (hby : bytesOf xs = bs) (h : sev 0 0 (bs.drop a.toNat) = sev n m (bs.drop (a.toNat + n))) (hl : bs.length ≤ a.toNat + n) : numR xs a 0 = (0, a, 3) := by
  simp [numR, numL, hby, h, sev_end hl]
theorem num_form {xs : List (List PD)} {bs : List UInt8} {a : Int} {n m c : Nat} {b : UInt8} (hby : bytesOf xs = bs) (h : sev 0 0 (bs.drop a.toNat) = sev n m (bs.drop (a.toNat + n))) (hb : bs[a.toNat + n]? = some b) (hbc : b.toNat = c) (hc : (0 < n ∧ c = 0) ∨ (n = 9 ∧ 1 < c)) : numR xs a 0 = (0, a, 4) := by
  rw [sev_step hb, hbc, if_pos hc] at h
  simp [numR, numL, hby, h]
theorem num_num {xs : List (List PD)} {bs : List UInt8} {a : Int} {n m c : Nat} {b : UInt8} (hby : bytesOf xs = bs) (h : sev 0 0 (bs.drop a.toNat) = sev n m (bs.drop (a.toNat + n))) (hb : bs[a.toNat + n]? = some b) (hbc : b.toNat = c) (hc : ¬ ((0 < n ∧ c = 0) ∨ (n = 9 ∧ 1 < c))) (h8 : c < 128) : numR xs a 0 = (zagI ((m + c % 128 * 2 ^ (7 * n) : Nat) : Int), a + n + 1, 0) := by
  rw [sev_step hb, hbc, if_neg hc, if_pos h8] at h
  simp [numR, numL, hby, h]
  omega
theorem num_next {bs : List UInt8} {a : Int} {n m c : Nat} {b : UInt8} (h : sev 0 0 (bs.drop a.toNat) = sev n m (bs.drop (a.toNat + n))) (hb : bs[a.toNat + n]? = some b) (hbc : b.toNat = c) (hc : ¬ ((0 < n ∧ c = 0) ∨ (n = 9 ∧ 1 < c))) (h8 : ¬ c < 128) : sev 0 0 (bs.drop a.toNat) = sev (n + 1) (m + c % 128 * 2 ^ (7 * n)) (bs.drop (a.toNat + (n + 1))) := by
  rw [sev_step hb, hbc, if_neg hc, if_neg h8] at h
  exact h

theorem isRd.at {xs : List (List PD)} {a w a' w' : Int} (h : isRd xs a w) (_ : True) (h0 : 0 ≤ a' ∧ a' ≤ xs.length) (h1 : 0 ≤ w' ∧ w' ≤ 100) : isRd xs a' w' := ⟨h.1, h0.1, h0.2, h1.1, h1.2⟩
/-- The loop's state: the place, the count, the bits. -/
def NumI (bs : List UInt8) (a p i u : Int) : Prop := ∃ n m : Nat, i = n ∧ u = m ∧ p = a + n ∧ n ≤ 9 ∧ m < 2 ^ (7 * n) ∧ a + n ≤ bs.length ∧ sev 0 0 (bs.drop a.toNat) = sev n m (bs.drop (a.toNat + n))
set_option maxRecDepth 100000 in
theorem v_pNum (xs : List (List PD)) (a w : Int) (hp0 : FsRr0.rd xs a w) : FnD Try.prog 36 [.ref 0 0 0] [rdB 65 xs a w] (fun r st' => r = .d (.sc (.int .i64 (FsRr0.num xs a w).1)) ∧ st' = [rdB 65 xs (FsRr0.num xs a w).2.1 (FsRr0.num xs a w).2.2]) := by
  obtain ⟨F, hF⟩ : ∃ F, F = FsRr0 := ⟨_, rfl⟩
  have hH : SoundK Try.prog [kn_zag F] := by subst hF; exact orK_ok ok_zag noK_ok
  have hB : SoundB Try.prog [kb_pfail F] := by subst hF; exact orB_ok okb_pfail noB_ok
  refine FnD_cbv (T := fun _ => tabY [39] []) (H := fun _ => [kn_zag F]) (tabY_ok _ _) hH follows_mixed Try.func36 rfl Try.ntmps36 (by simp) fun A X W hA hX hW => ?_
  cbv
  refine part (fun h => ?_) (fun h => ?_)
  · cbv
    subst hA hX hW hF
    have hw : ¬ w = 0 := by simpa [A0] using h
    refine RetW.ofEq ?_ ?_ <;> simp [FsRr0, numR, numL, hw]
  · have hw : w = 0 := by subst hA; simpa [A0] using h
    subst hw
    cbv
    obtain ⟨bs, hxs, hby, hlx, hb, h0, h1, -, -⟩ := isRd_len hp0
    refine loopL (T := fun _ => tabY [39] []) (H := fun _ => [kn_zag F]) (tabY_ok _ _) hH follows_mixed hA hX (fun x : Int × Int × Int => NumI bs a x.1 x.2.1 x.2.2)
      (fun x => [(0, .ref 0 0 0), (3, .d (.sc (.int .i64 a))), (4, .d (.sc (.int .u64 x.2.2))), (5, .d (.sc (.int .i64 x.2.1)))]) (fun x => [rdB 65 xs x.1 0])
      (fun x => bs.length - x.1.toNat) (a, 0, 0) ?_ ?_ ?_
    · exact ⟨0, 0, rfl, rfl, by simp, by omega, by simp, by simpa using h1, by simp⟩
    · subst hF
      exact told_less (by simp [toldP, getS])
    rintro R ⟨p, i, u⟩ hR hinv
    cbv
    repeat' first
      | (refine part (fun h => ?_) (fun h => ?_) <;> try cbv)
      | (refine And.intro ?_ ?_)
      | (with_reducible refine callB hX hB ?_) <;> cbv
    all_goals subst hR hA hX hW hF
    all_goals try (show Region.lexB _ _ = true; kernel_rfl)
    all_goals replace hinv : NumI bs a p i u := hinv
    all_goals obtain ⟨n, m, hi, hu, hp, i1, i2, i3, i4⟩ := hinv
    all_goals have hrow := isRd_row (xs := xs) (a := p) (w := 0) ⟨⟨bs, hxs, hb⟩, by omega, by omega, by omega, by omega⟩
    all_goals subst hi hu
    all_goals have e7 : IntKind.wrap .i64 (7 * (n : Int)) = ((7 * n : Nat) : Int) := by rw [wrap_i64 (by unfold r64; omega)]; omega
    all_goals have e7u : IntKind.wrap .u64 ((7 * n : Nat) : Int) = ((7 * n : Nat) : Int) := wrap64_of (by omega) (by omega)
    all_goals have ep : IntKind.wrap .i64 (p + 1) = p + 1 := wrap_i64 (by unfold r64; omega)
    all_goals have ei : IntKind.wrap .i64 ((n : Int) + 1) = ((n + 1 : Nat) : Int) := by rw [wrap_i64 (by unfold r64; omega)]; omega
    all_goals have epp : IntKind.wrap .i64 (a + (n : Int)) = p := by rw [wrap_i64 (by unfold r64; omega)]; omega
    all_goals rcases hrow with ⟨hpe, hn⟩ | ⟨b, c, hbc, hc, hpl, hn, hr⟩
    all_goals simp only [A0, FsRr0, err0, e7, e7u, epp, ep, ei, decide_eq_true_eq, decide_eq_false_iff_not, Bool.not_eq_true', Bool.not_eq_false', Bool.and_eq_true] at *
    all_goals try simp only [hr, List.map_cons, List.getElem?_cons_zero, e7, e7u, epp, ep, ei] at *
    all_goals first
      | assumption
      | omega
      | exact id
      | exact hp0.at trivial (by omega) (by omega)
      | (intros; first | assumption | trivial | (simp_all; done))
      | (have e := num_short hby i4 (by omega)
         refine RetW.ofEq ?_ ?_ <;> rw [e])
      | (have hcf : (0 < n ∧ c = 0) ∨ (n = 9 ∧ 1 < c) := by
           simp at h
           omega
         have e := num_form hby i4 (b := b) (by rw [← hby, ← hn]; congr 1; omega) hbc hcf
         refine RetW.ofEq ?_ ?_ <;> rw [e])
      | (rintro ⟨h2, h3⟩; exact ⟨h2, by simp [h3]⟩)
      | (intro h2; rw [h2]; rfl)
      | (have hz := ‹(_ : Bool) = false›
         have hcn : ¬ ((0 < n ∧ c = 0) ∨ (n = 9 ∧ 1 < c)) := by
           simp at hz
           omega
         have hl := lay m n c hc i1 i2 (by omega)
         first
           | (rw [hl.1]; exact ⟨by omega, by omega⟩)
           | (have e := num_num hby i4 (b := b) (by rw [← hby, ← hn]; congr 1; omega) hbc hcn (by omega)
              rw [hl.1]
              refine RetW.ofEq ?_ ?_ <;> rw [e]
              try rw [hp])
           | (refine ⟨(p + 1, ((n + 1 : Nat) : Int), ((m + c % 128 * 2 ^ (7 * n) : Nat) : Int)), ⟨n + 1, _, rfl, rfl, by simp only; omega, by omega, lay_more m n c i2, by omega, num_next i4 (b := b) (by rw [← hby, ← hn]; congr 1; omega) hbc hcn (by omega)⟩, by simp only; omega, told_less ?_⟩
              simp only [hl.1]
              simp [toldP, getS])
           | skip)
def kb_pNum (F : FsRr) : FuncId × (List DV → Store → SV) := (36, fun args st => match args with
  | [.ref b ver o] => (match st[b]? with
    | some ⟨t, [.d (.slc 1 xs), .d (.sc (.int .i64 a)), .d (.sc (.int .i64 w))], false, v, true⟩ => (bif (ver == 0) && (o == 0) && (v == 0) && (t == 65) then some ([F.rd xs a w], .d (.sc (.int .i64 (F.num xs a w).1)), st.set b (rdB 65 xs (F.num xs a w).2.1 (F.num xs a w).2.2)) else none)
    | _ => none)
  | _ => none)
theorem okb_pNum (args : List DV) (st : Store) (cs : List Prop) (r : DV) (st' : Store) (h : (kb_pNum FsRr0).2 args st = some (cs, r, st')) (hc : allP cs True) (K : DV → Store → Prop) (hk : K r st') : FnD Try.prog 36 args st K := by
  unfold kb_pNum at h
  simp only at h
  split at h
  · split at h
    · rename_i hb
      simp only [cond_eq_ite, Bool.and_eq_true, beq_iff_eq, Option.ite_none_right_eq_some] at h
      obtain ⟨⟨⟨⟨rfl, rfl⟩, rfl⟩, rfl⟩, h⟩ := h
      cases h
      exact FnD.one _ (v_pNum _ _ _ hc.1) hb rfl rfl rfl rfl hk
    · cases h
  · cases h
theorem num_rd {xs : List (List PD)} {a w : Int} (h : isRd xs a w) : isRd xs (numR xs a w).2.1 (numR xs a w).2.2 ∧ ((numR xs a w).2.2 ≠ 0 → (numR xs a w).1 = 0) ∧ r64 (numR xs a w).1 := by
  obtain ⟨bs, hxs, hby, hlx, hb, h0, h1, hw0, hw1⟩ := isRd_len h
  unfold numR numL
  rw [hby]
  by_cases hw : w ≠ 0
  · rw [if_pos hw]; exact ⟨h, fun _ => rfl, by simp [r64]⟩
  · rw [if_neg hw]
    cases hs : sev 0 0 (bs.drop a.toNat) with
    | short => exact ⟨h.at trivial (by simp only; omega) (by simp only; omega), fun _ => rfl, by simp [r64]⟩
    | form => exact ⟨h.at trivial (by simp only; omega) (by simp only; omega), fun _ => rfl, by simp [r64]⟩
    | num u k =>
      have hl := sev_lt _ 0 0 (by omega) (by simp) u k hs
      rw [List.length_drop] at hl
      exact ⟨h.at trivial (by simp only; omega) (by simp only; omega), fun e => absurd rfl e, zag_range _ ⟨by omega, by omega⟩⟩

def grownX (xs : List (List PD)) (n : Int) : List (List PD) := xs
def isG (xs : List (List PD)) (n : Int) : Prop := (∃ bs, xs = bytesP bs ∧ bs.length ≤ 8000000) ∧ 0 ≤ n ∧ n ≤ 8388608
def isB8 (xs : List (List PD)) : Prop := ∃ bs, xs = bytesP bs ∧ bs.length ≤ 8000000
theorem fail_rd {xs : List (List PD)} {a w : Int} (h : isRd xs a w) : isRd xs a (failR w) := by
  refine ⟨h.1, h.2.1, h.2.2.1, ?_⟩
  have := h.2.2.2
  simp only [failR]
  split <;> omega
structure FsS where
  grown : List (List PD) → Int → List (List PD)
  isG : List (List PD) → Int → Prop
  isB : List (List PD) → Prop
  rd : List (List PD) → Int → Int → Prop
noncomputable def FsS0 : FsS where
  grown := grownX
  isG := isG
  isB := isB8
  rd := isRd
theorem v_grown (xs : List (List PD)) (n : Int) (hp0 : FsS0.isG xs n) : FnV Try.prog 35 [.d (.slc 1 xs), intD n] (.d (.slc 1 (grownX xs n))) := by
  obtain ⟨⟨bs, hxs, hb⟩, h0, h1⟩ := hp0
  refine FnD.ret ((w_grown bs xs n hxs h0 h1 (by omega)).mono ?_)
  rintro r st ⟨cs, m, hcs, hm, rfl, rfl⟩
  exact ret_bytes rfl hm hcs (by rw [grownX, hxs])
def kn_grown (F : FsS) : FuncId × (List DV → RV) := (35, fun args => match args with
  | [.d (.slc 1 xs), .d (.sc (.int .i64 n))] => some ([F.isG xs n], .d (.slc 1 (F.grown xs n)))
  | [.d (.sc (.slice none 0 0)), .d (.sc (.int .i64 n))] => some ([F.isG [] n], .d (.slc 1 (F.grown [] n)))
  | _ => none)
theorem ok_grown (args : List DV) (cs : List Prop) (r : DV) (h : (kn_grown FsS0).2 args = some (cs, r)) (hc : allP cs True) : FnV Try.prog 35 args r ∧ closedL 0 args = true := by
  unfold kn_grown at h
  simp only at h
  split at h
  · cases h; exact ⟨v_grown _ _ hc.1, rfl⟩
  · cases h; exact ⟨FnP.nils (v_grown [] _ hc.1) ⟨.inr ⟨rfl, _, rfl⟩, ⟨.inl rfl, trivial⟩⟩, rfl⟩
  · cases h
set_option maxRecDepth 100000 in
theorem v_pRead (xs : List (List PD)) (hp0 : FsS0.isB xs) : FnD Try.prog 27 [.d (.slc 1 xs)] [] (fun r st' => r = .ref 0 0 0 ∧ st' = [rdB 65 xs 0 0]) := by
  obtain ⟨F, hF⟩ : ∃ F, F = FsS0 := ⟨_, rfl⟩
  have hH : SoundK Try.prog [kn_grown F] := by subst hF; exact orK_ok ok_grown noK_ok
  refine FnD_cbv (T := fun _ => tabY [] []) (H := fun _ => [kn_grown F]) (tabY_ok _ _) hH follows_mixed Try.func27 rfl Try.ntmps27 (by simp) fun A X W hA hX hW => ?_
  clear hH
  cbv
  refine And.intro ?_ ?_ <;> subst hA hX hW hF
  · exact ⟨hp0, by omega, by omega⟩
  · exact RetW.refl ⟨rfl, rfl⟩
def kb_pRead (F : FsS) : FuncId × (List DV → Store → SV) := (27, fun args st => match args with
  | [.d (.slc 1 xs)] => some ([F.isB xs], .ref st.length 0 0, st ++ [rdB 65 xs 0 0])
  | [.d (.sc (.slice none 0 0))] => some ([], .ref st.length 0 0, st ++ [rdB 65 [] 0 0])
  | _ => none)
theorem okb_pRead (args : List DV) (st : Store) (cs : List Prop) (r : DV) (st' : Store) (h : (kb_pRead FsS0).2 args st = some (cs, r, st')) (hc : allP cs True) (K : DV → Store → Prop) (hk : K r st') : FnD Try.prog 27 args st K := by
  unfold kb_pRead at h
  simp only at h
  split at h
  · cases h
    exact FnD.new1 (v_pRead _ hc.1) rfl rfl hk
  · cases h
    exact FnD.nils (FnD.new1 (v_pRead [] ⟨[], rfl, by simp⟩) rfl rfl hk) ⟨.inr ⟨rfl, _, rfl⟩, trivial⟩
  · cases h
theorem rd0 {xs : List (List PD)} (h : isB8 xs) : isRd xs 0 0 := ⟨h, by omega, by omega, by omega, by omega⟩
end Go.Proofs.Ytikodmddomaneaa
namespace Go.Proofs.Ytikodmddomaneaa
open Go.RowKit
set_option linter.all false
set_option maxHeartbeats 4000000

/-- The bytes of attributes. -/
def putD (a : Attr) : List UInt8 := numB a.seq ++ (numB a.d0 ++ (numB a.d1 ++ (numB a.d2 ++ (numB a.d3 ++ (numB a.d4 ++ (numB a.d5 ++ numB a.d6))))))
noncomputable def putA (xs : List (List PD)) (a : Attr) : List (List PD) := numX (numX (numX (numX (numX (numX (numX (numX xs a.seq) a.d0) a.d1) a.d2) a.d3) a.d4) a.d5) a.d6
def isBn (k : Nat) (xs : List (List PD)) : Prop := ∃ bs, xs = bytesP bs ∧ bs.length ≤ k
theorem isBn.le {k : Nat} {xs : List (List PD)} (h : isBn k xs) (hk : k ≤ 8000000) : isB xs := by
  obtain ⟨bs, h1, h2⟩ := h
  exact ⟨bs, h1, by omega⟩
theorem isBn.num {k : Nat} {xs : List (List PD)} (h : isBn k xs) (n : Int) : isBn (k + 10) (numX xs n) := by
  obtain ⟨bs, rfl, h2⟩ := h
  have := numB_length n
  exact ⟨bs ++ numB n, by simp only [numX, bytesP_append], by rw [List.length_append]; omega⟩
theorem putA_eq (xs : List (List PD)) (a : Attr) : putA xs a = xs ++ bytesP (putD a) := by
  simp only [putA, putD, numX, bytesP_append, List.append_assoc]
/-- Attributes, read. -/
def getN (xs : List (List PD)) (a w : Int) : Attr × Int × Int :=
  let r0 := numR xs a w
  let r1 := numR xs r0.2.1 r0.2.2
  let r2 := numR xs r1.2.1 r1.2.2
  let r3 := numR xs r2.2.1 r2.2.2
  let r4 := numR xs r3.2.1 r3.2.2
  let r5 := numR xs r4.2.1 r4.2.2
  let r6 := numR xs r5.2.1 r5.2.2
  let r7 := numR xs r6.2.1 r6.2.2
  (⟨r0.1, r1.1, r2.1, r3.1, r4.1, r5.1, r6.1, r7.1⟩, r7.2)
def getA (xs : List (List PD)) (a w : Int) : Attr × Int × Int :=
  let g := getN xs a w
  if g.2.2 = 0 then (if rightA g.1 = true then g else (zeroA, g.2.1, 4)) else (zeroA, g.2.1, g.2.2)
theorem getN_rd {xs : List (List PD)} {a w : Int} (h : isRd xs a w) : isRd xs (getN xs a w).2.1 (getN xs a w).2.2 := (num_rd (num_rd (num_rd (num_rd (num_rd (num_rd (num_rd (num_rd h).1).1).1).1).1).1).1).1
theorem getA_rd {xs : List (List PD)} {a w : Int} (h : isRd xs a w) : isRd xs (getA xs a w).2.1 (getA xs a w).2.2 := by
  have h1 := getN_rd h
  unfold getA
  simp only
  split
  · split
    · exact h1
    · exact ⟨h.1, h1.2.1, h1.2.2.1, by simp only; omega, by simp only; omega⟩
  · exact h1

structure FsDq where
  put : List (List PD) → Attr → List (List PD)
  isBn : Nat → List (List PD) → Prop
  rAttr : Attr → Prop
  get : List (List PD) → Int → Int → Attr × Int × Int
  rd : List (List PD) → Int → Int → Prop
noncomputable def FsDq0 : FsDq where
  put := putA
  isBn := isBn
  rAttr := rAttr
  get := getA
  rd := isRd
set_option maxRecDepth 100000 in
theorem v_put (xs : List (List PD)) (a : Attr) (hp0 : FsDq0.isBn 4000000 xs) (hp1 : FsDq0.rAttr a) : FnV Try.prog 26 [.d (.slc 1 xs), Attr.D a] (.d (.slc 1 (putA xs a))) := by
  obtain ⟨a_seq, a_d0, a_d1, a_d2, a_d3, a_d4, a_d5, a_d6⟩ := a
  obtain ⟨GFsPk, hGFsPk⟩ : ∃ F, F = FsPk0 := ⟨_, rfl⟩
  have hH : SoundK Try.prog [kn_num GFsPk] := by subst hGFsPk; exact orK_ok ok_num noK_ok
  refine FnD_cbv (T := fun _ => tabY [5003] []) (H := fun _ => [kn_num GFsPk]) (tabY_ok _ _) hH follows_mixed Try.func26 rfl Try.ntmps26 (by simp) fun A X W hA hX hW => ?_
  cbv
  have l0 : A.cmp .lss 0 7 = true := by subst hA; rfl
  cbv at l0
  have l1 : A.cmp .lss 1 7 = true := by subst hA; rfl
  cbv at l1
  have l2 : A.cmp .lss 2 7 = true := by subst hA; rfl
  cbv at l2
  have l3 : A.cmp .lss 3 7 = true := by subst hA; rfl
  cbv at l3
  have l4 : A.cmp .lss 4 7 = true := by subst hA; rfl
  cbv at l4
  have l5 : A.cmp .lss 5 7 = true := by subst hA; rfl
  cbv at l5
  have l6 : A.cmp .lss 6 7 = true := by subst hA; rfl
  cbv at l6
  have l7 : A.cmp .lss 7 7 = false := by subst hA; rfl
  cbv at l7
  have b0 : A.bin .add .i64 0 1 = 1 := by subst hA; rfl
  cbv at b0
  have b1 : A.bin .add .i64 1 1 = 2 := by subst hA; rfl
  cbv at b1
  have b2 : A.bin .add .i64 2 1 = 3 := by subst hA; rfl
  cbv at b2
  have b3 : A.bin .add .i64 3 1 = 4 := by subst hA; rfl
  cbv at b3
  have b4 : A.bin .add .i64 4 1 = 5 := by subst hA; rfl
  cbv at b4
  have b5 : A.bin .add .i64 5 1 = 6 := by subst hA; rfl
  cbv at b5
  have b6 : A.bin .add .i64 6 1 = 7 := by subst hA; rfl
  cbv at b6
  have o0_0 : A.off 0 0 1 = 0 := by subst hA; rfl
  cbv at o0_0
  have o0_1 : A.off 0 1 1 = 1 := by subst hA; rfl
  cbv at o0_1
  have o0_2 : A.off 0 2 1 = 2 := by subst hA; rfl
  cbv at o0_2
  have o0_3 : A.off 0 3 1 = 3 := by subst hA; rfl
  cbv at o0_3
  have o0_4 : A.off 0 4 1 = 4 := by subst hA; rfl
  cbv at o0_4
  have o0_5 : A.off 0 5 1 = 5 := by subst hA; rfl
  cbv at o0_5
  have o0_6 : A.off 0 6 1 = 6 := by subst hA; rfl
  cbv at o0_6
  refine And.intro ?_ (And.intro ?_ ?_)
  rotate_left 2
  refine unrollL (T := fun _ => tabY [5003] []) (H := fun _ => [kn_num GFsPk]) (tabY_ok _ _) hH follows_mixed hA hX 8 fun R hR => ?_
  repeat' first
    | (simp only [l0, l1, l2, l3, l4, l5, l6, l7, b0, b1, b2, b3, b4, b5, b6, o0_0, o0_1, o0_2, o0_3, o0_4, o0_5, o0_6, decide_true]; cbv)
    | (refine part (fun h => ?_) (fun h => ?_) <;> try cbv)
    | (refine And.intro ?_ ?_)
    | (refine hR _ _ _ ?_; cbv)
  all_goals clear l0 l1 l2 l3 l4 l5 l6 l7 b0 b1 b2 b3 b4 b5 b6 o0_0 o0_1 o0_2 o0_3 o0_4 o0_5 o0_6 hH
  all_goals try clear hR
  all_goals subst hA hX hW hGFsPk
  all_goals have b0 : isBn 4000000 xs := hp0
  all_goals have b1 := b0.num a_seq
  all_goals have b2 := b1.num a_d0
  all_goals have b3 := b2.num a_d1
  all_goals have b4 := b3.num a_d2
  all_goals have b5 := b4.num a_d3
  all_goals have b6 := b5.num a_d4
  all_goals have b7 := b6.num a_d5
  all_goals obtain ⟨k0, k1, k2, k3, k4, k5, k6, k7⟩ := hp1
  all_goals simp only at k0 k1 k2 k3 k4 k5 k6 k7
  all_goals try simp only [A0, nc, FsPk0, List.getElem?_cons_zero, List.getElem?_cons_succ]
  all_goals first
    | exact ⟨by decide, by decide⟩
    | exact b0.le (by omega)
    | exact b1.le (by omega)
    | exact b2.le (by omega)
    | exact b3.le (by omega)
    | exact b4.le (by omega)
    | exact b5.le (by omega)
    | exact b6.le (by omega)
    | exact b7.le (by omega)
    | assumption
    | (simp; done)
    | (refine ret_v ?_ rfl; rfl)
def kn_put (F : FsDq) : FuncId × (List DV → RV) := (26, fun args => match args with
  | [.d (.slc 1 xs), .agg [.d (.sc (.int .i64 a_seq)), .d (.sc (.int .i64 a_d0)), .d (.sc (.int .i64 a_d1)), .d (.sc (.int .i64 a_d2)), .d (.sc (.int .i64 a_d3)), .d (.sc (.int .i64 a_d4)), .d (.sc (.int .i64 a_d5)), .d (.sc (.int .i64 a_d6))]] => some ([F.isBn 4000000 xs, F.rAttr ⟨a_seq, a_d0, a_d1, a_d2, a_d3, a_d4, a_d5, a_d6⟩], .d (.slc 1 (F.put xs ⟨a_seq, a_d0, a_d1, a_d2, a_d3, a_d4, a_d5, a_d6⟩)))
  | [.d (.sc (.slice none 0 0)), .agg [.d (.sc (.int .i64 a_seq)), .d (.sc (.int .i64 a_d0)), .d (.sc (.int .i64 a_d1)), .d (.sc (.int .i64 a_d2)), .d (.sc (.int .i64 a_d3)), .d (.sc (.int .i64 a_d4)), .d (.sc (.int .i64 a_d5)), .d (.sc (.int .i64 a_d6))]] => some ([F.isBn 4000000 [], F.rAttr ⟨a_seq, a_d0, a_d1, a_d2, a_d3, a_d4, a_d5, a_d6⟩], .d (.slc 1 (F.put [] ⟨a_seq, a_d0, a_d1, a_d2, a_d3, a_d4, a_d5, a_d6⟩)))
  | _ => none)
theorem ok_put (args : List DV) (cs : List Prop) (r : DV) (h : (kn_put FsDq0).2 args = some (cs, r)) (hc : allP cs True) : FnV Try.prog 26 args r ∧ closedL 0 args = true := by
  unfold kn_put at h
  simp only at h
  split at h
  · cases h; exact ⟨v_put _ ⟨_, _, _, _, _, _, _, _⟩ hc.1 hc.2.1, rfl⟩
  · cases h; exact ⟨FnP.nils (v_put [] ⟨_, _, _, _, _, _, _, _⟩ hc.1 hc.2.1) ⟨.inr ⟨rfl, _, rfl⟩, ⟨.inl rfl, trivial⟩⟩, rfl⟩
  · cases h
set_option maxRecDepth 100000 in
theorem v_dGet (xs : List (List PD)) (a w : Int) (hp0 : FsDq0.rd xs a w) : FnD Try.prog 28 [.ref 0 0 0] [rdB 65 xs a w] (fun r st' => r = Attr.D ((FsDq0.get xs a w).1) ∧ st' = [rdB 65 xs (FsDq0.get xs a w).2.1 (FsDq0.get xs a w).2.2]) := by
  obtain ⟨GFsA, hFsA⟩ : ∃ F, F = FsA0 := ⟨_, rfl⟩
  obtain ⟨GFsRr, hFsRr⟩ : ∃ F, F = FsRr0 := ⟨_, rfl⟩
  have hH : SoundK Try.prog [kn_rightA GFsA] := by subst hFsA hFsRr; exact orK_ok ok_rightA noK_ok
  have hB : SoundB Try.prog [kb_pNum GFsRr, kb_pwrong GFsRr, kb_pFail GFsRr] := by subst hFsA hFsRr; exact orB_ok okb_pNum (orB_ok okb_pwrong (orB_ok okb_pFail noB_ok))
  refine FnD_cbv (T := fun _ => tabY [5003] []) (H := fun _ => [kn_rightA GFsA]) (tabY_ok _ _) hH follows_mixed Try.func28 rfl Try.ntmps28 (by simp) fun A X W hA hX hW => ?_
  cbv
  have l0 : A.cmp .lss 0 7 = true := by subst hA; rfl
  cbv at l0
  have l1 : A.cmp .lss 1 7 = true := by subst hA; rfl
  cbv at l1
  have l2 : A.cmp .lss 2 7 = true := by subst hA; rfl
  cbv at l2
  have l3 : A.cmp .lss 3 7 = true := by subst hA; rfl
  cbv at l3
  have l4 : A.cmp .lss 4 7 = true := by subst hA; rfl
  cbv at l4
  have l5 : A.cmp .lss 5 7 = true := by subst hA; rfl
  cbv at l5
  have l6 : A.cmp .lss 6 7 = true := by subst hA; rfl
  cbv at l6
  have l7 : A.cmp .lss 7 7 = false := by subst hA; rfl
  cbv at l7
  have b0 : A.bin .add .i64 0 1 = 1 := by subst hA; rfl
  cbv at b0
  have b1 : A.bin .add .i64 1 1 = 2 := by subst hA; rfl
  cbv at b1
  have b2 : A.bin .add .i64 2 1 = 3 := by subst hA; rfl
  cbv at b2
  have b3 : A.bin .add .i64 3 1 = 4 := by subst hA; rfl
  cbv at b3
  have b4 : A.bin .add .i64 4 1 = 5 := by subst hA; rfl
  cbv at b4
  have b5 : A.bin .add .i64 5 1 = 6 := by subst hA; rfl
  cbv at b5
  have b6 : A.bin .add .i64 6 1 = 7 := by subst hA; rfl
  cbv at b6
  have o0_0 : A.off 0 0 1 = 0 := by subst hA; rfl
  cbv at o0_0
  have o0_1 : A.off 0 1 1 = 1 := by subst hA; rfl
  cbv at o0_1
  have o0_2 : A.off 0 2 1 = 2 := by subst hA; rfl
  cbv at o0_2
  have o0_3 : A.off 0 3 1 = 3 := by subst hA; rfl
  cbv at o0_3
  have o0_4 : A.off 0 4 1 = 4 := by subst hA; rfl
  cbv at o0_4
  have o0_5 : A.off 0 5 1 = 5 := by subst hA; rfl
  cbv at o0_5
  have o0_6 : A.off 0 6 1 = 6 := by subst hA; rfl
  cbv at o0_6
  refine callB hX hB ?_
  cbv
  refine And.intro ?_ ?_
  rotate_left 1
  refine unrollL (T := fun _ => tabY [5003] []) (H := fun _ => [kn_rightA GFsA]) (tabY_ok _ _) hH follows_mixed hA hX 8 fun R hR => ?_
  cbv
  repeat' first
    | (simp only [l0, l1, l2, l3, l4, l5, l6, l7, b0, b1, b2, b3, b4, b5, b6, o0_0, o0_1, o0_2, o0_3, o0_4, o0_5, o0_6, decide_true]; cbv)
    | (refine part (fun h => ?_) (fun h => ?_) <;> try cbv)
    | (refine And.intro ?_ ?_)
    | ((with_reducible refine callB hX hB ?_) <;> cbv)
    | (refine hR _ _ _ ?_; cbv)
  all_goals try clear hR
  all_goals clear l0 l1 l2 l3 l4 l5 l6 l7 b0 b1 b2 b3 b4 b5 b6 o0_0 o0_1 o0_2 o0_3 o0_4 o0_5 o0_6 hH hB
  all_goals subst hA hX hW hFsA hFsRr
  all_goals simp only [A0, nc, FsA0, FsRr0, decide_eq_true_eq, decide_eq_false_iff_not, Bool.not_eq_true', Bool.not_eq_false'] at *
  all_goals have h0 := (num_rd hp0).1
  all_goals generalize e0 : numR xs a w = q at *
  all_goals obtain ⟨n0, a0, w0⟩ := q
  all_goals try simp only at *
  all_goals have h1 := (num_rd h0).1
  all_goals generalize e1 : numR xs a0 w0 = q at *
  all_goals obtain ⟨n1, a1, w1⟩ := q
  all_goals try simp only at *
  all_goals have h2 := (num_rd h1).1
  all_goals generalize e2 : numR xs a1 w1 = q at *
  all_goals obtain ⟨n2, a2, w2⟩ := q
  all_goals try simp only at *
  all_goals have h3 := (num_rd h2).1
  all_goals generalize e3 : numR xs a2 w2 = q at *
  all_goals obtain ⟨n3, a3, w3⟩ := q
  all_goals try simp only at *
  all_goals have h4 := (num_rd h3).1
  all_goals generalize e4 : numR xs a3 w3 = q at *
  all_goals obtain ⟨n4, a4, w4⟩ := q
  all_goals try simp only at *
  all_goals have h5 := (num_rd h4).1
  all_goals generalize e5 : numR xs a4 w4 = q at *
  all_goals obtain ⟨n5, a5, w5⟩ := q
  all_goals try simp only at *
  all_goals have h6 := (num_rd h5).1
  all_goals generalize e6 : numR xs a5 w5 = q at *
  all_goals obtain ⟨n6, a6, w6⟩ := q
  all_goals try simp only at *
  all_goals have h7 := (num_rd h6).1
  all_goals generalize e7 : numR xs a6 w6 = q at *
  all_goals obtain ⟨n7, a7, w7⟩ := q
  all_goals try simp only at *
  all_goals first
    | assumption
    | exact fail_rd ‹_›
    | (intros; first | assumption | trivial | (simp_all; done))
    | (exfalso; simp_all; done)
    | (refine ret_keep [0] rfl ⟨?_, ?_⟩ <;> (simp_all [FsDq0, pullD, pullL, keepSt, pullBox, getA, getN, failR, Attr.D, zeroA, intD, strD]; done))
def kb_dGet (F : FsDq) : FuncId × (List DV → Store → SV) := (28, fun args st => match args with
  | [.ref b ver o] => (match st[b]? with
    | some ⟨t, [.d (.slc 1 xs), .d (.sc (.int .i64 a)), .d (.sc (.int .i64 w))], false, v, true⟩ => (bif (ver == 0) && (o == 0) && (v == 0) && (t == 65) then some ([F.rd xs a w], Attr.D ((F.get xs a w).1), st.set b (rdB 65 xs (F.get xs a w).2.1 (F.get xs a w).2.2)) else none)
    | _ => none)
  | _ => none)
theorem okb_dGet (args : List DV) (st : Store) (cs : List Prop) (r : DV) (st' : Store) (h : (kb_dGet FsDq0).2 args st = some (cs, r, st')) (hc : allP cs True) (K : DV → Store → Prop) (hk : K r st') : FnD Try.prog 28 args st K := by
  unfold kb_dGet at h
  simp only at h
  split at h
  · split at h
    · rename_i hb
      simp only [cond_eq_ite, Bool.and_eq_true, beq_iff_eq, Option.ite_none_right_eq_some] at h
      obtain ⟨⟨⟨⟨rfl, rfl⟩, rfl⟩, rfl⟩, h⟩ := h
      cases h
      exact FnD.one _ (v_dGet _ _ _ hc.1) hb rfl rfl rfl rfl hk
    · cases h
  · cases h
end Go.Proofs.Ytikodmddomaneaa
namespace Go.Proofs.Ytikodmddomaneaa
open Go.RowKit
set_option linter.all false
set_option maxHeartbeats 4000000

theorem zig_zag (u : Int) (h : 0 ≤ u) : zig (zagI u) = u := by
  unfold zagI zig
  split <;> split <;> omega
theorem toNat_lit (n : Nat) (h : n < 256) : (UInt8.ofNat n).toNat = n := by
  simp
  omega
theorem pow7 (i : Nat) : 2 ^ (7 * (i + 1)) = 128 * 2 ^ (7 * i) := by rw [Nat.mul_add, Nat.pow_add, Nat.mul_comm]
theorem at9 (u : Nat) (h : u * 2 ^ (7 * 9) < 18446744073709551616) : u < 2 := by omega
/-- What is written is read. -/
theorem sev_numF : ∀ (f i u m : Nat) (l : List UInt8), i + f = 9 → (0 < i → 0 < u) → u * 2 ^ (7 * i) < 18446744073709551616 → sev i m (numF (f + 1) u ++ l) = .num (m + u * 2 ^ (7 * i)) (i + (numF (f + 1) u).length)
  | f, i, u, m, l, hf, hi, hu => by
      have h9 : i = 9 → u < 2 := fun e => by subst e; exact at9 u hu
      by_cases h : u < 128
      · rw [numF_last f u h]
        have ht := toNat_lit u (by omega)
        have e : sev i m ([UInt8.ofNat u] ++ l) = if (0 < i ∧ (UInt8.ofNat u).toNat = 0) ∨ (i = 9 ∧ 1 < (UInt8.ofNat u).toNat) then .form else if (UInt8.ofNat u).toNat < 128 then .num (m + (UInt8.ofNat u).toNat % 128 * 2 ^ (7 * i)) (i + 1) else sev (i + 1) (m + (UInt8.ofNat u).toNat % 128 * 2 ^ (7 * i)) l := rfl
        rw [e, ht, if_neg (by omega), if_pos h, Nat.mod_eq_of_lt h]
        rfl
      · rw [numF_step f u h]
        have ht := toNat_lit (u % 128 + 128) (by omega)
        have e : sev i m (UInt8.ofNat (u % 128 + 128) :: numF f (u / 128) ++ l) = if (0 < i ∧ (UInt8.ofNat (u % 128 + 128)).toNat = 0) ∨ (i = 9 ∧ 1 < (UInt8.ofNat (u % 128 + 128)).toNat) then .form else if (UInt8.ofNat (u % 128 + 128)).toNat < 128 then .num (m + (UInt8.ofNat (u % 128 + 128)).toNat % 128 * 2 ^ (7 * i)) (i + 1) else sev (i + 1) (m + (UInt8.ofNat (u % 128 + 128)).toNat % 128 * 2 ^ (7 * i)) (numF f (u / 128) ++ l) := rfl
        have hmul : u * 2 ^ (7 * i) = u % 128 * 2 ^ (7 * i) + u / 128 * 2 ^ (7 * (i + 1)) := by
          rw [pow7, ← Nat.mul_assoc, ← Nat.add_mul]
          congr 1
          omega
        match f, hf with
        | 0, hf =>
          have := h9 (by omega)
          omega
        | f + 1, hf =>
          rw [e, ht, if_neg (by omega), if_neg (by omega), sev_numF f (i + 1) (u / 128) _ l (by omega) (by omega) (by omega)]
          rw [show (u % 128 + 128) % 128 = u % 128 by omega, List.length_cons, hmul]
          congr 1 <;> omega
theorem sev_numB (n : Int) (h : r64 n) (l : List UInt8) : sev 0 0 (numB n ++ l) = .num (zig n).toNat (numB n).length := by
  have hz := zig_range h
  have := sev_numF 9 0 (zig n).toNat 0 l rfl (by omega) (by omega)
  rw [show numB n = numF (9 + 1) (zig n).toNat from rfl, this]
  simp
theorem numB_inj {a b : Int} (ha : r64 a) (hb : r64 b) (h : numB a = numB b) : a = b := by
  have h1 := sev_numB a ha []
  rw [h, sev_numB b hb []] at h1
  have h2 : (zig b).toNat = (zig a).toNat := by injection h1
  have h3 := zig_range ha
  have h4 := zig_range hb
  rw [← zag_zig a ha, ← zag_zig b hb, show zig a = zig b by omega]
theorem numF_mono : ∀ (f u v : Nat), u ≤ v → (numF f u).length ≤ (numF f v).length
  | 0, u, v, _ => by simp [numF]
  | f + 1, u, v, h => by
      by_cases hu : u < 128
      · rw [numF_last f u hu]
        by_cases hv : v < 128
        · rw [numF_last f v hv]; simp
        · rw [numF_step f v hv]; simp
      · rw [numF_step f u hu, numF_step f v (by omega)]
        have := numF_mono f (u / 128) (v / 128) (by omega)
        simpa using this
theorem numF_pos (f u : Nat) : 0 < (numF (f + 1) u).length := by
  by_cases hu : u < 128
  · rw [numF_last f u hu]; simp
  · rw [numF_step f u hu]; simp
theorem numB_mono {a b : Int} (h0 : 0 ≤ a) (h : a ≤ b) : (numB a).length ≤ (numB b).length := by
  refine numF_mono _ _ _ ?_
  unfold zig
  split <;> split <;> omega
/-- What is read was so written. -/
theorem sev_took : ∀ (l : List UInt8) (i m v k : Nat), i ≤ 9 → sev i m l = .num v k → ∃ u, v = m + u * 2 ^ (7 * i) ∧ i < k ∧ k ≤ i + l.length ∧ l.take (k - i) = numF (10 - i) u ∧ (0 < i → 0 < u)
  | [], i, m, v, k, _, h => by simp [sev] at h
  | c :: l, i, m, v, k, hi, h => by
      have hc : c.toNat < 256 := c.toNat_lt
      unfold sev at h
      split at h
      · cases h
      · rename_i hf
        split at h
        · rename_i h8
          cases h
          refine ⟨c.toNat, by rw [Nat.mod_eq_of_lt h8], by omega, by simp, ?_, by omega⟩
          rw [show 10 - i = (9 - i) + 1 by omega, numF_last _ _ h8]
          simp
        · rename_i h8
          have h9 : i ≠ 9 := by omega
          obtain ⟨u, h1, h2, h3, h4, h5⟩ := sev_took l (i + 1) _ v k (by omega) h
          have hu := h5 (by omega)
          refine ⟨c.toNat % 128 + 128 * u, ?_, by omega, by simp only [List.length_cons]; omega, ?_, by omega⟩
          · rw [h1, pow7, Nat.add_mul, Nat.mul_comm 128 u, Nat.mul_assoc]
            omega
          · rw [show 10 - i = (10 - (i + 1)) + 1 by omega, numF_step _ _ (by omega), show k - i = (k - (i + 1)) + 1 by omega, List.take_succ_cons, h4]
            have e1 : (c.toNat % 128 + 128 * u) / 128 = u := by omega
            have e2 : (c.toNat % 128 + 128 * u) % 128 + 128 = c.toNat := by omega
            rw [e1, e2]
            simp
theorem numB_took {l : List UInt8} {v k : Nat} (h : sev 0 0 l = .num v k) : l.take k = numB (zagI v) ∧ 0 < k ∧ k ≤ l.length := by
  obtain ⟨u, h1, h2, h3, h4, _⟩ := sev_took l 0 0 v k (by omega) h
  have : v = u := by simpa using h1
  subst this
  refine ⟨?_, h2, by omega⟩
  rw [numB, zig_zag _ (by omega)]
  simpa using h4
/-- How many sevens a number has. -/
def sevens : Nat → Nat → Int
  | 0, _ => 0
  | f + 1, u => if u < 128 then 1 else sevens f (u / 128) + 1

/-- A beginning of what is written ends too early. -/
theorem sev_cut : ∀ (f i u m k : Nat), i + f = 9 → (0 < i → 0 < u) → u * 2 ^ (7 * i) < 18446744073709551616 → k < (numF (f + 1) u).length → sev i m ((numF (f + 1) u).take k) = .short
  | f, i, u, m, 0, _, _, _, _ => by simp [sev]
  | f, i, u, m, k + 1, hf, hi, hu, hk => by
      have h9 : i = 9 → u < 2 := fun e => by subst e; exact at9 u hu
      by_cases h : u < 128
      · rw [numF_last f u h] at hk
        simp at hk
      · rw [numF_step f u h] at hk ⊢
        rw [List.take_succ_cons]
        have ht := toNat_lit (u % 128 + 128) (by omega)
        have e : sev i m (UInt8.ofNat (u % 128 + 128) :: (numF f (u / 128)).take k) = if (0 < i ∧ (UInt8.ofNat (u % 128 + 128)).toNat = 0) ∨ (i = 9 ∧ 1 < (UInt8.ofNat (u % 128 + 128)).toNat) then .form else if (UInt8.ofNat (u % 128 + 128)).toNat < 128 then .num (m + (UInt8.ofNat (u % 128 + 128)).toNat % 128 * 2 ^ (7 * i)) (i + 1) else sev (i + 1) (m + (UInt8.ofNat (u % 128 + 128)).toNat % 128 * 2 ^ (7 * i)) ((numF f (u / 128)).take k) := rfl
        have hmul : u * 2 ^ (7 * i) = u % 128 * 2 ^ (7 * i) + u / 128 * 2 ^ (7 * (i + 1)) := by
          rw [pow7, ← Nat.mul_assoc, ← Nat.add_mul]
          congr 1
          omega
        match f, hf, hk with
        | 0, hf, hk =>
          have := h9 (by omega)
          omega
        | f + 1, hf, hk =>
          rw [e, ht, if_neg (by omega), if_neg (by omega)]
          exact sev_cut f (i + 1) (u / 128) _ k (by omega) (by omega) (by omega) (by simpa using hk)
theorem numB_cut {n : Int} (h : r64 n) {k : Nat} (hk : k < (numB n).length) : sev 0 0 ((numB n).take k) = .short := by
  have hz := zig_range h
  exact sev_cut 9 0 (zig n).toNat 0 k rfl (by omega) (by omega) hk

theorem drop_pre (pre l : List UInt8) : (pre ++ l).drop ((pre.length : Int)).toNat = l := by
  rw [show ((pre.length : Int)).toNat = pre.length by omega, List.drop_left]
theorem num_back (pre rest : List UInt8) (n : Int) (h : r64 n) : numL (pre ++ (numB n ++ rest)) pre.length 0 = (n, (pre.length : Int) + ((numB n).length : Int), (0 : Int)) := by
  unfold numL
  rw [if_neg (by decide), drop_pre, sev_numB n h]
  simp only
  rw [Int.toNat_of_nonneg (zig_range h).1, zag_zig n h]
theorem num_cut (pre : List UInt8) (n : Int) (h : r64 n) (k : Nat) (hk : k < (numB n).length) : numL (pre ++ (numB n).take k) pre.length 0 = ((0 : Int), (pre.length : Int), (3 : Int)) := by
  unfold numL
  rw [if_neg (by decide), drop_pre, numB_cut h hk]

theorem numR_back {bs : List UInt8} (pre rest : List UInt8) (n : Int) {a : Int} (h : r64 n) (e : bs = pre ++ (numB n ++ rest)) (ha : a = pre.length) : numR (bytesP bs) a 0 = (n, ((pre ++ numB n).length : Int), 0) := by
  subst e ha
  unfold numR
  rw [bytesOf_bytesP, num_back pre rest n h, List.length_append]
  refine Prod.ext rfl (Prod.ext ?_ rfl)
  simp only; omega
theorem numR_cut {bs : List UInt8} (pre : List UInt8) (n : Int) {a : Int} (k : Nat) (h : r64 n) (hk : k < (numB n).length) (e : bs = pre ++ (numB n).take k) (ha : a = pre.length) : numR (bytesP bs) a 0 = (0, a, 3) := by
  subst e ha
  unfold numR
  rw [bytesOf_bytesP, num_cut pre n h k hk]
theorem numR_stop (xs : List (List PD)) (a : Int) : numR xs a 3 = (0, a, 3) := rfl
def numsB : List Int → List UInt8
  | [] => []
  | n :: ns => numB n ++ numsB ns
def runN (xs : List (List PD)) : Nat → Int × Int → Int × Int
  | 0, s => s
  | n + 1, s => runN xs n (numR xs s.1 s.2).2
theorem runN_stop (xs : List (List PD)) (a : Int) : ∀ n, runN xs n (a, 3) = (a, 3)
  | 0 => rfl
  | n + 1 => runN_stop xs a n
theorem runN_cut {bs : List UInt8} : ∀ (ns : List Int) (pre : List UInt8) (k : Nat), (∀ n ∈ ns, r64 n) → k < (numsB ns).length → bs = pre ++ (numsB ns).take k → ∃ a, runN (bytesP bs) ns.length ((pre.length : Int), 0) = (a, 3)
  | [], _, _, _, hk, _ => absurd hk (by simp [numsB])
  | n :: ns, pre, k, hr, hk, e => by
    have hn := hr n (by simp)
    rcases Nat.lt_or_ge k (numB n).length with h | h
    · have e2 : bs = pre ++ (numB n).take k := by rw [e, numsB, List.take_append_of_le_length (by omega)]
      refine ⟨(pre.length : Int), ?_⟩
      rw [List.length_cons, runN]
      simp only
      rw [numR_cut pre n k hn h e2 rfl]
      exact runN_stop _ _ _
    · have e2 : bs = (pre ++ numB n) ++ (numsB ns).take (k - (numB n).length) := by rw [e, numsB, List.take_append, List.take_of_length_le h, List.append_assoc]
      have hk2 : k - (numB n).length < (numsB ns).length := by rw [numsB, List.length_append] at hk; omega
      obtain ⟨a, ha⟩ := runN_cut ns (pre ++ numB n) _ (fun m hm => hr m (by simp [hm])) hk2 e2
      refine ⟨a, ?_⟩
      rw [List.length_cons, runN]
      simp only
      rw [numR_back pre ((numsB ns).take (k - (numB n).length)) n hn (by rw [e2, List.append_assoc]) rfl]
      exact ha
theorem putD_nums (a : Attr) : putD a = numsB [a.seq, a.d0, a.d1, a.d2, a.d3, a.d4, a.d5, a.d6] := by simp [putD, numsB]
theorem getN_run (xs : List (List PD)) (a w : Int) : (getN xs a w).2 = runN xs 8 (a, w) := rfl
theorem getA_cut {a : Attr} (h : rAttr a) {k : Nat} (hk : k < (putD a).length) : ∃ p, getA (bytesP ((putD a).take k)) 0 0 = (zeroA, p, 3) := by
  obtain ⟨h0, h1, h2, h3, h4, h5, h6, h7⟩ := h
  rw [putD_nums] at hk ⊢
  obtain ⟨p, hp⟩ := runN_cut (bs := (numsB [a.seq, a.d0, a.d1, a.d2, a.d3, a.d4, a.d5, a.d6]).take k) _ [] k (by intro n hn; simp only [List.mem_cons, List.not_mem_nil, or_false] at hn; rcases hn with rfl | rfl | rfl | rfl | rfl | rfl | rfl | rfl <;> assumption) hk (by simp)
  refine ⟨p, ?_⟩
  have e : (getN (bytesP ((numsB [a.seq, a.d0, a.d1, a.d2, a.d3, a.d4, a.d5, a.d6]).take k)) 0 0).2 = (p, 3) := (getN_run _ _ _).trans hp
  unfold getA
  simp only [e]
  rfl
theorem getN_back {a : Attr} (h : rAttr a) : getN (bytesP (putD a)) 0 0 = (a, ((putD a).length : Int), 0) := by
  obtain ⟨h0, h1, h2, h3, h4, h5, h6, h7⟩ := h
  obtain ⟨B, hB⟩ : ∃ B, B = putD a := ⟨_, rfl⟩
  have ln : ∀ l m : List UInt8, ((l ++ m).length : Int) = l.length + m.length := fun l m => by rw [List.length_append]; omega
  rw [← hB]
  unfold putD at hB
  have e0 := numR_back (bs := B) (a := 0) [] _ a.seq h0 hB rfl
  have e1 := numR_back (bs := B) ([] ++ numB a.seq) _ a.d0 h1 (by rw [hB]; simp only [List.append_assoc, List.nil_append]; rfl) rfl
  have e2 := numR_back (bs := B) (([] ++ numB a.seq) ++ numB a.d0) _ a.d1 h2 (by rw [hB]; simp only [List.append_assoc, List.nil_append]; rfl) rfl
  have e3 := numR_back (bs := B) ((([] ++ numB a.seq) ++ numB a.d0) ++ numB a.d1) _ a.d2 h3 (by rw [hB]; simp only [List.append_assoc, List.nil_append]; rfl) rfl
  have e4 := numR_back (bs := B) (((([] ++ numB a.seq) ++ numB a.d0) ++ numB a.d1) ++ numB a.d2) _ a.d3 h4 (by rw [hB]; simp only [List.append_assoc, List.nil_append]; rfl) rfl
  have e5 := numR_back (bs := B) ((((([] ++ numB a.seq) ++ numB a.d0) ++ numB a.d1) ++ numB a.d2) ++ numB a.d3) _ a.d4 h5 (by rw [hB]; simp only [List.append_assoc, List.nil_append]; rfl) rfl
  have e6 := numR_back (bs := B) (((((([] ++ numB a.seq) ++ numB a.d0) ++ numB a.d1) ++ numB a.d2) ++ numB a.d3) ++ numB a.d4) _ a.d5 h6 (by rw [hB]; simp only [List.append_assoc, List.nil_append]; rfl) rfl
  have e7 := numR_back (bs := B) ((((((([] ++ numB a.seq) ++ numB a.d0) ++ numB a.d1) ++ numB a.d2) ++ numB a.d3) ++ numB a.d4) ++ numB a.d5) [] a.d6 h7 (by rw [hB]; simp only [List.append_assoc, List.nil_append, List.append_nil]) rfl
  unfold getN
  simp only [e0, e1, e2, e3, e4, e5, e6, e7]
  refine Prod.ext rfl (Prod.ext ?_ rfl)
  rw [hB]
  simp only [List.append_assoc, List.nil_append]
theorem getA_back {a : Attr} (h : rAttr a) : getA (bytesP (putD a)) 0 0 = if rightA a = true then (a, ((putD a).length : Int), 0) else (zeroA, ((putD a).length : Int), 4) := by
  unfold getA
  simp only [getN_back h]
  rfl
theorem putD_length (a : Attr) : 8 ≤ (putD a).length ∧ (putD a).length ≤ 80 := by
  have p : ∀ n : Int, 0 < (numB n).length ∧ (numB n).length ≤ 10 := fun n => ⟨numF_pos 9 _, numB_length n⟩
  have h0 := p a.seq
  have h1 := p a.d0
  have h2 := p a.d1
  have h3 := p a.d2
  have h4 := p a.d3
  have h5 := p a.d4
  have h6 := p a.d5
  have h7 := p a.d6
  simp only [putD, List.length_append]
  omega

end Go.Proofs.Ytikodmddomaneaa
