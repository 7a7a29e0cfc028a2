/- Numbers, texts, flags as bytes: what the functions give. No condition. -/
import Derived.Test.YtbhapclaochcnaaAm30
import Derived.Test.YtbhapclaochcnaaTy
import Derived.Test.YtbhapclaochcnaaAm29
import Derived.Test.YtbhapclaochcnaaAm33
namespace Go.Proofs.Ytbhapclaochcnaa
open Go.RowKit
set_option linter.all false
/-- The bytes of a number: sevens of bits, the lowest first. -/
def numF : Nat → Nat → List UInt8
  | 0, _ => []
  | f + 1, u => if u < 128 then [UInt8.ofNat u] else UInt8.ofNat (u % 128 + 128) :: numF f (u / 128)
def zig (n : Int) : Int := if n < 0 then -2 * n - 1 else 2 * n
def numB (n : Int) : List UInt8 := numF 10 (zig n).toNat
def r64 (n : Int) : Prop := -9223372036854775808 ≤ n ∧ n ≤ 9223372036854775807
theorem zig_range {n : Int} (h : r64 n) : 0 ≤ zig n ∧ zig n < 18446744073709551616 := by unfold r64 at h; unfold zig; split <;> omega
structure FsP where
  zig : Int → Int
  r64 : Int → Prop
def FsP0 : FsP where
  zig := zig
  r64 := r64
theorem numF_step (f u : Nat) (h : ¬ u < 128) : numF (f + 1) u = UInt8.ofNat (u % 128 + 128) :: numF f (u / 128) := by rw [numF, if_neg h]
theorem numF_last (f u : Nat) (h : u < 128) : numF (f + 1) u = [UInt8.ofNat u] := by rw [numF, if_pos h]
theorem fdiv128 (u : Nat) : (u : Int).fdiv (2 ^ min (Int.toNat 7) (IntKind.bits .u64)) = ((u / 128 : Nat) : Int) := by
  rw [show (2 : Int) ^ min (Int.toNat 7) (IntKind.bits .u64) = 128 by decide, Int.fdiv_eq_ediv_of_nonneg _ (by omega)]
  rfl
theorem low8 (u : Nat) (h : u < 128) : IntKind.wrap .u8 (u : Int) = ((UInt8.ofNat u).toNat : Int) := by
  simp [IntKind.wrap, IntKind.bits, IntKind.signed]
theorem or128f : ∀ x : Fin 256, bitsV .u8 (· ||| ·) (x.val : Int) 128 = (((UInt8.ofNat (x.val % 128 + 128)).toNat : Nat) : Int) := by decide +kernel
theorem or128 (u : Nat) : bitsV .u8 (· ||| ·) (IntKind.wrap .u8 (u : Int)) 128 = (((UInt8.ofNat (u % 128 + 128)).toNat : Nat) : Int) := by
  have e : IntKind.wrap .u8 (u : Int) = ((u % 256 : Nat) : Int) := by
    simp [IntKind.wrap, IntKind.bits, IntKind.signed]
  rw [e]
  have := or128f ⟨u % 256, Nat.mod_lt _ (by decide)⟩
  simp only at this
  rw [this, show u % 256 % 128 = u % 128 by omega]
theorem wrap64_of {a : Int} (h0 : 0 ≤ a) (h : a < 18446744073709551616) : IntKind.wrap .u64 a = a := by
  simp [IntKind.wrap, IntKind.bits, IntKind.signed]
  omega
theorem xor_zero (a : Int) (h0 : 0 ≤ a) (h : a < 18446744073709551616) : bitsV .u64 (· ^^^ ·) a 0 = a := by
  obtain ⟨n, rfl⟩ := Int.eq_ofNat_of_zero_le h0
  have e : BitVec.ofInt 64 (n : Int) ^^^ BitVec.ofInt 64 0 = BitVec.ofNat 64 n := by
    rw [show BitVec.ofInt 64 0 = 0#64 from rfl, BitVec.xor_zero]
    simp
  show IntKind.wrap .u64 ((BitVec.ofInt 64 (n : Int) ^^^ BitVec.ofInt 64 0).toNat : Int) = n
  rw [e, BitVec.toNat_ofNat, Nat.mod_eq_of_lt (by omega)]
  exact wrap64_of h0 h
theorem xor_ones (a : Int) (h0 : 0 ≤ a) (h : a < 18446744073709551616) : bitsV .u64 (· ^^^ ·) a 18446744073709551615 = 18446744073709551615 - a := by
  obtain ⟨n, rfl⟩ := Int.eq_ofNat_of_zero_le h0
  have e : BitVec.ofInt 64 (n : Int) ^^^ BitVec.ofInt 64 18446744073709551615 = ~~~ (BitVec.ofNat 64 n) := by
    rw [show BitVec.ofInt 64 18446744073709551615 = BitVec.allOnes 64 from rfl, BitVec.xor_allOnes]
    simp
  show IntKind.wrap .u64 ((BitVec.ofInt 64 (n : Int) ^^^ BitVec.ofInt 64 18446744073709551615).toNat : Int) = _
  rw [e, BitVec.toNat_not, BitVec.toNat_ofNat, Nat.mod_eq_of_lt (show n < 2 ^ 64 by omega)]
  rw [wrap64_of (by omega) (by omega)]
  omega
theorem zig_bits (n : Int) (h : r64 n) : bitsV .u64 (· ^^^ ·) (IntKind.wrap .u64 (IntKind.wrap .u64 n * 2 ^ min (Int.toNat 1) (IntKind.bits .u64))) (IntKind.wrap .u64 (n.fdiv (2 ^ min (Int.toNat 63) (IntKind.bits .i64)))) = zig n := by
  have hr := zig_range h
  unfold r64 at h
  have e1 : (2 : Int) ^ min (Int.toNat 1) (IntKind.bits .u64) = 2 := by decide
  have e2 : (2 : Int) ^ min (Int.toNat 63) (IntKind.bits .i64) = 9223372036854775808 := by decide
  rw [e1, e2]
  have hf : n.fdiv 9223372036854775808 = if n < 0 then -1 else 0 := by
    rw [Int.fdiv_eq_ediv_of_nonneg _ (by omega)]
    split <;> omega
  rw [hf]
  unfold zig at hr ⊢
  by_cases hn : n < 0
  · rw [if_pos hn, if_pos hn]
    rw [show IntKind.wrap .u64 (-1) = 18446744073709551615 from by decide]
    have : IntKind.wrap .u64 (IntKind.wrap .u64 n * 2) = 18446744073709551616 + 2 * n := by
      simp [IntKind.wrap, IntKind.bits, IntKind.signed]
      omega
    rw [this, xor_ones _ (by omega) (by omega)]
    omega
  · rw [if_neg hn, if_neg hn]
    rw [show IntKind.wrap .u64 0 = 0 from by decide]
    have : IntKind.wrap .u64 (IntKind.wrap .u64 n * 2) = 2 * n := by
      simp [IntKind.wrap, IntKind.bits, IntKind.signed]
      omega
    rw [this, xor_zero _ (by omega) (by omega)]
set_option maxRecDepth 100000 in
theorem v_zig (n : Int) (hp0 : FsP0.r64 n) : FnV Try.prog 82 [intD n] (.d (.sc (.int .u64 ((zig n))))) := by
  refine FnD_cbv (T := fun _ => tabY [] []) (H := fun _ => []) (tabY_ok _ _) noK_ok follows_mixed Try.func82 rfl Try.ntmps82 (by simp) fun A X W hA hX hW => ?_
  cbv
  repeat' first
    | (refine part (fun h => ?_) (fun h => ?_) <;> try cbv)
    | (refine And.intro ?_ ?_)
  all_goals subst hA hX hW
  all_goals try (show Region.lexB _ _ = true; kernel_rfl)
  all_goals try (show turnsB _ = true; kernel_rfl)
  all_goals simp only [A0, FsP0, decide_eq_true_eq, decide_eq_false_iff_not, Bool.not_eq_true', Bool.not_eq_false'] at *
  all_goals first
    | (refine ret_v ?_ rfl
       rw [zig_bits n hp0])
    | decide
def kn_zig (F : FsP) : FuncId × (List DV → RV) := (82, fun args => match args with
  | [.d (.sc (.int .i64 n))] => some ([F.r64 n], .d (.sc (.int .u64 ((F.zig n)))))
  | _ => none)
theorem ok_zig (args : List DV) (cs : List Prop) (r : DV) (h : (kn_zig FsP0).2 args = some (cs, r)) (hc : allP cs True) : FnV Try.prog 82 args r ∧ closedL 0 args = true := by
  unfold kn_zig at h
  simp only at h
  split at h
  · cases h; exact ⟨v_zig _ hc.1, rfl⟩
  · cases h
theorem w_grown (bs : List UInt8) (xs : List (List PD)) (n : Int) (hxs : xs = bytesP bs) (h0 : 0 ≤ n) (hn : n ≤ 8388608) (hb : bs.length ≤ 8388608) : FnD Try.prog 66 [.d (.slc 1 xs), intD n] [] (fun r st' => ∃ cs m, cs = rowsD (bytesP bs) ∧ m = bs.length ∧ r = .view 1 0 1 0 m ∧ st' = [⟨5, cs, true, 1, true⟩]) := by
  refine FnD_cbv (T := fun _ => tabY [] []) (H := fun _ => []) (tabY_ok _ _) noK_ok follows_mixed Try.func66 rfl Try.ntmps66 (by simp) fun A X W hA hX hW => ?_
  cbv
  have hl : xs.length = bs.length := by rw [hxs]; exact bytesP_length bs
  repeat' first
    | (refine And.intro ?_ ?_)
  all_goals subst hA hX hW
  · simp only [A0]
    rw [hl]
    simp [IntKind.wrap, IntKind.bits, IntKind.signed]
    omega
  · rfl
  · simp [A0]
  · simp only [A0]
    omega
  · refine RetW.refl ⟨_, _, ?_, ?_, rfl, rfl⟩
    · simp [A0, hxs]
    · simp [A0, hl]
theorem w_num (bs : List UInt8) (cs : List DV) (m : Nat) (n : Int) (ver : Nat) (hcs : cs = rowsD (bytesP bs)) (hm : m = bs.length) (hn : r64 n) (hl : bs.length ≤ 8388608) : FnD Try.prog 73 [.view 1 0 ver 0 m, intD n] [⟨5, cs, true, ver, true⟩] (fun r st' => ∃ v cs' m', cs' = rowsD (bytesP (bs ++ numB n)) ∧ m' = (bs ++ numB n).length ∧ r = .view 1 0 v 0 m' ∧ st' = [⟨5, cs', true, v, true⟩]) := by
  obtain ⟨F, hF⟩ : ∃ F, F = FsP0 := ⟨_, rfl⟩
  have hH : SoundK Try.prog [kn_zig F] := by subst hF; exact orK_ok ok_zig noK_ok
  refine FnD_cbv (T := fun _ => tabY [] []) (H := fun _ => [kn_zig F]) (tabY_ok _ _) hH follows_mixed Try.func73 rfl Try.ntmps73 (by simp) fun A X W hA hX hW => ?_
  cbv
  refine And.intro (by subst hF; exact hn) ?_
  refine loopL (T := fun _ => tabY [] []) (H := fun _ => [kn_zig F]) (tabY_ok _ _) hH follows_mixed hA hX (fun x : List DV × Int × Nat × Nat => ∃ (bs1 : List UInt8) (f u : Nat), x.1 = rowsD (bytesP bs1) ∧ x.2.1 = u ∧ x.2.2.2 = bs1.length ∧ bs1 ++ numF (f + 1) u = bs ++ numB n ∧ u < 128 ^ (f + 1) ∧ u < 18446744073709551616 ∧ f + bs1.length ≤ 8388620)
    (fun x => [(0, .view 1 0 x.2.2.1 0 x.2.2.2), (5, .d (.sc (.int .u64 x.2.1)))]) (fun x => [⟨5, x.1, true, x.2.2.1, true⟩])
    (fun x => x.2.1.toNat) (cs, zig n, ver, m) ?_ ?_ ?_
  · have hz := zig_range hn
    have hz2 : ((zig n).toNat : Int) = zig n := Int.toNat_of_nonneg hz.1
    refine ⟨bs, 9, (zig n).toNat, hcs, hz2.symm, hm, rfl, ?_, ?_, ?_⟩
    all_goals omega
  · subst hF
    refine told_less ?_
    simp [toldP, getS, FsP0]
  rintro R ⟨cells, u, v, len⟩ hR ⟨bs1, f, u1, h1, h2, h3, e1, e2, e3, e4⟩
  replace h1 : cells = rowsD (bytesP bs1) := h1
  replace h3 : len = bs1.length := h3
  cbv
  refine part (fun h => ?_) (fun h => ?_)
  · cbv
    repeat' first
      | (refine And.intro ?_ ?_)
    all_goals subst hR hA hX hW hF
    all_goals simp only [A0, decide_eq_true_eq] at h ⊢
    all_goals try (first | rfl | (simp; done) | omega)
    · rw [h1, rowsB_length, h3, Nat.mul_one]
    · replace h2 : u = (u1 : Int) := h2
      subst h2
      have hf : (u1 : Int).fdiv (2 ^ min (Int.toNat 7) (IntKind.bits .u64)) = ((u1 / 128 : Nat) : Int) := fdiv128 u1
      obtain ⟨f1, rfl⟩ : ∃ f1, f = f1 + 1 := by
        cases f with
        | zero => omega
        | succ f1 => exact ⟨f1, rfl⟩
      have hu : u1 / 128 < 128 ^ (f1 + 1) := by
        rw [Nat.pow_succ] at e2
        exact Nat.div_lt_of_lt_mul (by rw [Nat.mul_comm]; exact e2)
      refine ⟨(cells ++ [.d (.sc (.int .u8 ((UInt8.ofNat (u1 % 128 + 128)).toNat : Int)))], ((u1 / 128 : Nat) : Int), v + 1, len + 1), ⟨bs1 ++ [UInt8.ofNat (u1 % 128 + 128)], f1, u1 / 128, ?_, rfl, ?_, ?_, hu, ?_, ?_⟩, ?_, told_keep [0] rfl ?_ ?_⟩
      · simp only [rowsB_append, rowsB_one, h1]
      · simp [h3]
      · rw [← e1, numF_step (f1 + 1) u1 (by omega)]
        simp only [List.append_assoc, List.singleton_append]
      · omega
      · simp only [List.length_append, List.length_singleton]; omega
      · simp only; omega
      · simp only [or128 u1]
        simp [keepSt, pullBox, pullL_eq, h1, pull_rows, pullD]
      · rw [hf]
        simp [toldP, getS, pullD]
  · cbv
    repeat' first
      | (refine And.intro ?_ ?_)
    all_goals subst hR hA hX hW hF
    all_goals simp only [A0, decide_eq_false_iff_not] at h ⊢
    all_goals try (first | rfl | (simp; done) | omega)
    · rw [h1, rowsB_length, h3, Nat.mul_one]
    · replace h2 : u = (u1 : Int) := h2
      subst h2
      have hb : numF (f + 1) u1 = [UInt8.ofNat u1] := by exact numF_last f u1 (by omega)
      rw [hb] at e1
      refine ret_keep [0] rfl ⟨v + 1, _, _, rfl, rfl, ?_, ?_⟩
      · simp [pullD, ← e1, h3]
      · rw [← e1, rowsB_append, rowsB_one, ← h1, low8 u1 (by omega)]
        simp [keepSt, pullBox, pullL_eq, h1, pull_rows, pullD]
theorem numF_length : ∀ (f u : Nat), (numF f u).length ≤ f
  | 0, _ => Nat.le_refl 0
  | f + 1, u => by
      unfold numF
      split
      · simp
      · have := numF_length f (u / 128)
        simp only [List.length_cons]
        omega
theorem numB_length (n : Int) : (numB n).length ≤ 10 := numF_length 10 _
/-- Plain bytes, not too many. -/
def isB (xs : List (List PD)) : Prop := ∃ bs, xs = bytesP bs ∧ bs.length ≤ 8000000
noncomputable def numX (xs : List (List PD)) (n : Int) : List (List PD) := xs ++ bytesP (numB n)
def textB (s : ByteArray) : List UInt8 := numB s.size ++ s.data.toList
noncomputable def textX (xs : List (List PD)) (s : ByteArray) : List (List PD) := xs ++ bytesP (textB s)
noncomputable def flagX (xs : List (List PD)) (b : Bool) : List (List PD) := xs ++ bytesP [if b then 1 else 0]
def szT (s : ByteArray) : Prop := s.size ≤ 4194304
theorem ret_bytes {r : DV} {st : Store} {b ver n ty : Nat} {e : Bool} {cs : List DV} {bs : List UInt8} (hb : st[b]? = some ⟨ty, cs, e, ver, true⟩) (hn : n = bs.length) (hcells : cs = rowsD (bytesP bs)) (hr : r = .d (.slc 1 (bytesP bs))) :
    RetW 0 (fun x st => st = [] ∧ pureD x = true ∧ x = r) (.view 1 b ver 0 n) st :=
  ret_slice hb rfl rfl (by rw [bytesP_length]; exact hn) hcells (by intro x hx; simp only [bytesP, List.mem_map] at hx; obtain ⟨_, _, rfl⟩ := hx; rfl) hr
def within3 (n lo hi : Int) : Int := lo + n % (hi - lo + 1)
def span3 (lo hi : Int) : Prop := lo ≤ hi ∧ -1099511627776 ≤ lo ∧ hi ≤ 1099511627776
noncomputable def sameX (xs ys : List (List PD)) : Bool := @decide (xs = ys) (Classical.propDecidable _)
theorem tmod_cases (n W : Int) (hW : 0 < W) : (n.tmod W < 0 → n.tmod W + W = n % W) ∧ (¬ n.tmod W < 0 → n.tmod W = n % W) := by
  have h1 := Int.emod_nonneg n (show W ≠ 0 by omega)
  have h2 := Int.emod_lt_of_pos n hW
  rw [Int.tmod_eq_emod]
  have h3 : ((W.natAbs : Nat) : Int) = W := by omega
  split
  · omega
  · rw [h3]; omega
theorem wrap_i64 {a : Int} (h : r64 a) : IntKind.wrap .i64 a = a := by
  unfold r64 at h
  simp only [IntKind.wrap, IntKind.bits, IntKind.signed]
  simp
  omega
theorem rowB {bs : List UInt8} {xs : List (List PD)} (hxs : xs = bytesP bs) {i : Int} (h0 : 0 ≤ i) (h1 : i < bs.length) : xs.getD i.toNat [] = [.sc (.int .u8 ((bs[i.toNat]'(by omega)).toNat : Int))] := by
  subst hxs
  have : i.toNat < bs.length := by omega
  simp [bytesP, List.getD_eq_getElem?_getD, this]
structure FsQ where
  num : List (List PD) → Int → List (List PD)
  text : List (List PD) → ByteArray → List (List PD)
  flag : List (List PD) → Bool → List (List PD)
  same : List (List PD) → List (List PD) → Bool
  within3 : Int → Int → Int → Int
  isB : List (List PD) → Prop
  r64 : Int → Prop
  sz : ByteArray → Prop
  span3 : Int → Int → Prop
noncomputable def FsQ0 : FsQ where
  num := numX
  text := textX
  flag := flagX
  same := sameX
  within3 := within3
  isB := isB
  r64 := r64
  sz := szT
  span3 := span3
set_option maxRecDepth 100000 in
theorem v_within3 (n : Int) (lo : Int) (hi : Int) (hp0 : FsQ0.r64 n) (hp1 : FsQ0.span3 lo hi) : FnV Try.prog 20 [intD n, intD lo, intD hi] (intD ((within3 n lo hi))) := by
  refine FnD_cbv (T := fun _ => tabY [] []) (H := fun _ => []) (tabY_ok _ _) noK_ok follows_mixed Try.func20 rfl Try.ntmps20 (by simp) fun A X W hA hX hW => ?_
  cbv
  repeat' first
    | (refine part (fun h => ?_) (fun h => ?_) <;> try cbv)
    | (refine And.intro ?_ ?_)
  all_goals subst hA hX hW
  all_goals try (show Region.lexB _ _ = true; kernel_rfl)
  all_goals try (show turnsB _ = true; kernel_rfl)
  all_goals simp only [A0, FsQ0, decide_eq_true_eq, decide_eq_false_iff_not, Bool.not_eq_true', Bool.not_eq_false'] at *
  all_goals
    have hr : r64 n := hp0
    have hs : span3 lo hi := hp1
    unfold span3 at hs
    have e1 : IntKind.wrap .i64 (hi - lo) = hi - lo := wrap_i64 (by unfold r64; omega)
    have e2 : IntKind.wrap .i64 (hi - lo + 1) = hi - lo + 1 := wrap_i64 (by unfold r64; omega)
    have hc := tmod_cases n (hi - lo + 1) (by omega)
    have h1 := Int.emod_nonneg n (show hi - lo + 1 ≠ 0 by omega)
    have h2 := Int.emod_lt_of_pos n (show 0 < hi - lo + 1 by omega)
    simp only [e1, e2] at *
  · omega
  · refine ret_v ?_ rfl
    have h3 := hc.1 h
    have e3 : IntKind.wrap .i64 (n.tmod (hi - lo + 1) + hi) = n.tmod (hi - lo + 1) + hi := wrap_i64 (by unfold r64; omega)
    have e4 : IntKind.wrap .i64 (n.tmod (hi - lo + 1) + hi - lo) = n.tmod (hi - lo + 1) + hi - lo := wrap_i64 (by unfold r64; omega)
    have e5 : IntKind.wrap .i64 (n.tmod (hi - lo + 1) + hi - lo + 1) = n % (hi - lo + 1) := by rw [wrap_i64 (by unfold r64; omega)]; omega
    have e6 : IntKind.wrap .i64 (lo + n % (hi - lo + 1)) = lo + n % (hi - lo + 1) := wrap_i64 (by unfold r64; omega)
    rw [e3, e4, e5, e6]
    rfl
  · refine ret_v ?_ rfl
    rw [hc.2 h]
    have e6 : IntKind.wrap .i64 (lo + n % (hi - lo + 1)) = lo + n % (hi - lo + 1) := wrap_i64 (by unfold r64; omega)
    rw [e6]
    rfl
def kn_within3 (F : FsQ) : FuncId × (List DV → RV) := (20, fun args => match args with
  | [.d (.sc (.int .i64 n)), .d (.sc (.int .i64 lo)), .d (.sc (.int .i64 hi))] => some ([F.r64 n, F.span3 lo hi], intD ((F.within3 n lo hi)))
  | _ => none)
theorem ok_within3 (args : List DV) (cs : List Prop) (r : DV) (h : (kn_within3 FsQ0).2 args = some (cs, r)) (hc : allP cs True) : FnV Try.prog 20 args r ∧ closedL 0 args = true := by
  unfold kn_within3 at h
  simp only at h
  split at h
  · cases h; exact ⟨v_within3 _ _ _ hc.1 hc.2.1, rfl⟩
  · cases h
set_option maxRecDepth 100000 in
theorem v_num (xs : List (List PD)) (n : Int) (hp0 : FsQ0.isB xs) (hp1 : FsQ0.r64 n) : FnV Try.prog 31 [.d (.slc 1 xs), intD n] (.d (.slc 1 (numX xs n))) := by
  obtain ⟨bs, hxs, hb⟩ := hp0
  refine FnD_cbv (T := fun _ => tabY [] []) (H := fun _ => []) (tabY_ok _ _) noK_ok follows_mixed Try.func31 rfl Try.ntmps31 (by simp) fun A X W hA hX hW => ?_
  cbv
  refine callL hX ((w_grown bs xs 10 hxs (by decide) (by decide) (by omega)).mono ?_)
  rintro r st ⟨cs, m, hcs, hm, rfl, rfl⟩
  cbv
  refine callL hX ((w_num bs cs m n 1 hcs hm hp1 (by omega)).mono ?_)
  rintro r st ⟨v, cs2, m2, hcs2, hm2, rfl, rfl⟩
  cbv
  subst hA hX hW
  exact ret_bytes rfl hm2 hcs2 (by simp [numX, hxs, bytesP_append])
def kn_num (F : FsQ) : FuncId × (List DV → RV) := (31, fun args => match args with
  | [.d (.slc 1 xs), .d (.sc (.int .i64 n))] => some ([F.isB xs, F.r64 n], .d (.slc 1 (F.num xs n)))
  | [.d (.sc (.slice none 0 0)), .d (.sc (.int .i64 n))] => some ([F.isB [], F.r64 n], .d (.slc 1 (F.num [] n)))
  | _ => none)
theorem ok_num (args : List DV) (cs : List Prop) (r : DV) (h : (kn_num FsQ0).2 args = some (cs, r)) (hc : allP cs True) : FnV Try.prog 31 args r ∧ closedL 0 args = true := by
  unfold kn_num at h
  simp only at h
  split at h
  · cases h; exact ⟨v_num _ _ hc.1 hc.2.1, rfl⟩
  · cases h; exact ⟨FnP.nils (v_num [] _ hc.1 hc.2.1) ⟨.inr ⟨rfl, _, rfl⟩, ⟨.inl rfl, trivial⟩⟩, rfl⟩
  · cases h
set_option maxRecDepth 100000 in
theorem v_text (xs : List (List PD)) (s : ByteArray) (hp0 : FsQ0.isB xs) (hp1 : FsQ0.sz s) : FnV Try.prog 35 [.d (.slc 1 xs), strD s] (.d (.slc 1 (textX xs s))) := by
  obtain ⟨bs, hxs, hb⟩ := hp0
  have hs : s.size ≤ 4194304 := hp1
  refine FnD_cbv (T := fun _ => tabY [] []) (H := fun _ => []) (tabY_ok _ _) noK_ok follows_mixed Try.func35 rfl Try.ntmps35 (by simp) fun A X W hA hX hW => ?_
  cbv
  have e1 : IntKind.wrap .i64 (10 + (s.size : Int)) = 10 + (s.size : Int) := wrap_i64 (by unfold r64; omega)
  refine callL hX ((w_grown bs xs _ hxs ?_ ?_ (by omega)).mono ?_)
  · subst hA
    show 0 ≤ IntKind.wrap .i64 (10 + (s.size : Int))
    rw [e1]; omega
  · subst hA
    show IntKind.wrap .i64 (10 + (s.size : Int)) ≤ 8388608
    rw [e1]; omega
  rintro r st ⟨cs, m, hcs, hm, rfl, rfl⟩
  cbv
  refine callL hX ((w_num bs cs m _ 1 hcs hm ?_ (by omega)).mono ?_)
  · subst hA
    show r64 (s.size : Int)
    unfold r64; omega
  rintro r st ⟨v, cs2, m2, hcs2, hm2, rfl, rfl⟩
  cbv
  have hn := numB_length (s.size : Int)
  subst hA hX hW
  replace hcs2 : cs2 = rowsD (bytesP (bs ++ numB (s.size : Int))) := hcs2
  replace hm2 : m2 = (bs ++ numB (s.size : Int)).length := hm2
  have hsz : s.data.toList.length = s.size := by rw [Array.length_toList]; rfl
  refine And.intro rfl (And.intro ?_ (And.intro ?_ ?_))
  · simp only [A0]
    rw [hcs2, rowsB_length, hm2, Nat.mul_one]
  · simp only [A0]
    rw [hm2, List.length_append]
    omega
  · refine ret_bytes (bs := bs ++ textB s) rfl ?_ ?_ (by simp [textX, hxs, bytesP_append])
    · simp only [A0, hm2, textB, List.length_append, hsz]
      omega
    · simp only [A0, hcs2, textB]
      rw [← List.append_assoc, rowsB_append (bs ++ numB s.size)]
def kn_text (F : FsQ) : FuncId × (List DV → RV) := (35, fun args => match args with
  | [.d (.slc 1 xs), .d (.sc (.string s))] => some ([F.isB xs, F.sz s], .d (.slc 1 (F.text xs s)))
  | [.d (.sc (.slice none 0 0)), .d (.sc (.string s))] => some ([F.isB [], F.sz s], .d (.slc 1 (F.text [] s)))
  | _ => none)
theorem ok_text (args : List DV) (cs : List Prop) (r : DV) (h : (kn_text FsQ0).2 args = some (cs, r)) (hc : allP cs True) : FnV Try.prog 35 args r ∧ closedL 0 args = true := by
  unfold kn_text at h
  simp only at h
  split at h
  · cases h; exact ⟨v_text _ _ hc.1 hc.2.1, rfl⟩
  · cases h; exact ⟨FnP.nils (v_text [] _ hc.1 hc.2.1) ⟨.inr ⟨rfl, _, rfl⟩, ⟨.inl rfl, trivial⟩⟩, rfl⟩
  · cases h
set_option maxRecDepth 100000 in
theorem v_same (xs : List (List PD)) (ys : List (List PD)) (hp0 : FsQ0.isB xs) (hp1 : FsQ0.isB ys) : FnV Try.prog 10 [.d (.slc 1 xs), .d (.slc 1 ys)] (boolD ((sameX xs ys))) := by
  obtain ⟨bs, hxs, hb⟩ := hp0
  obtain ⟨ds, hys, hd⟩ := hp1
  have hlx : xs.length = bs.length := by rw [hxs]; exact bytesP_length bs
  have hly : ys.length = ds.length := by rw [hys]; exact bytesP_length ds
  have heq : xs = ys ↔ bs = ds := by rw [hxs, hys]; exact bytesP_inj
  refine FnD_cbv (T := fun _ => tabY [19, 23] []) (H := fun _ => []) (tabY_ok _ _) noK_ok follows_mixed Try.func10 rfl Try.ntmps10 (by simp) fun A X W hA hX hW => ?_
  cbv
  refine part (fun h => ?_) (fun h => ?_)
  · cbv
    subst hA hX hW
    simp only [A0] at h
    refine ret_v ?_ rfl
    have hne : ¬ xs = ys := by
      intro e
      subst e
      simp at h
    simp [boolD, sameX, hne]
  · cbv
    refine loopL (T := fun _ => tabY [19, 23] []) (H := fun _ => []) (tabY_ok _ _) noK_ok follows_mixed hA hX (fun i : Int => 0 ≤ i ∧ i ≤ bs.length ∧ bs.take i.toNat = ds.take i.toNat)
      (fun i => [(0, .d (.slc 1 xs)), (1, .d (.slc 1 ys)), (5, .d (.sc (.int .i64 i)))]) (fun _ => [])
      (fun i => (bs.length : Int).toNat - i.toNat) 0 ?_ ?_ ?_
    · exact ⟨by omega, by omega, by simp⟩
    · exact told_less (by simp [toldP, getS])
    rintro R i hR ⟨i0, i1, i2⟩
    cbv
    have hlen : bs.length = ds.length := by
      subst hA
      simp only [A0] at h
      simp only [Bool.not_eq_false', decide_eq_true_eq] at h
      omega
    refine part (fun h2 => ?_) (fun h2 => ?_)
    · cbv
      have hi : i < bs.length := by
        subst hA
        simp only [A0, decide_eq_true_eq] at h2
        omega
      have hj : i.toNat < bs.length := by omega
      have hj2 : i.toNat < ds.length := by omega
      have hrx : xs.getD i.toNat [] = [.sc (.int .u8 ((bs[i.toNat]'hj).toNat : Int))] := rowB hxs i0 hi
      have hry : ys.getD i.toNat [] = [.sc (.int .u8 ((ds[i.toNat]'hj2).toNat : Int))] := rowB hys i0 (by omega)
      refine And.intro ?_ (And.intro ?_ (And.intro ?_ (And.intro ?_ (And.intro ?_ ?_))))
      · subst hA; show Region.lexB _ _ = true; kernel_rfl
      · subst hA; simp only [A0]; omega
      · subst hA; simp only [A0, hrx]; simp
      · subst hA; simp only [A0]; omega
      · subst hA; simp only [A0, hry]; simp
      · have key : A.gi (A.lift (A.row xs i)) 0 = ((bs[i.toNat]'hj).toNat : Int) ∧ A.gi (A.lift (A.row ys i)) 0 = ((ds[i.toNat]'hj2).toNat : Int) := by
          subst hA
          simp only [A0, hrx, hry]
          simp
        refine part (fun h3 => ?_) (fun h3 => ?_)
        · cbv
          subst hA hX hW hR
          have h4 : A0.cmp .neq (A0.gi (A0.lift (A0.row xs i)) 0) (A0.gi (A0.lift (A0.row ys i)) 0) = true := h3
          rw [key.1, key.2] at h4
          refine ret_v ?_ rfl
          have hne : ¬ xs = ys := by
            intro e
            have e2 := heq.1 e
            subst e2
            simp [A0] at h4
          simp [boolD, sameX, hne]
        · cbv
          subst hA hX hW hR
          have h4 : A0.cmp .neq (A0.gi (A0.lift (A0.row xs i)) 0) (A0.gi (A0.lift (A0.row ys i)) 0) = false := h3
          rw [key.1, key.2] at h4
          have he : bs[i.toNat]'hj = ds[i.toNat]'hj2 := by
            have h5 : ((bs[i.toNat]'hj).toNat : Int) = ((ds[i.toNat]'hj2).toNat : Int) := by
              simp only [A0, Bool.not_eq_false', decide_eq_true_eq] at h4
              exact h4
            exact UInt8.toNat_inj.1 (Int.ofNat.inj h5)
          have hw : IntKind.wrap .i64 (i + 1) = i + 1 := wrap_i64 (by unfold r64; omega)
          refine ⟨i + 1, ⟨by omega, by omega, ?_⟩, ?_, told_less ?_⟩
          · rw [show (i + 1).toNat = i.toNat + 1 by omega, List.take_succ_eq_append_getElem hj, List.take_succ_eq_append_getElem hj2, i2, he]
          · simp only [Int.toNat_natCast]
            omega
          · simp [toldP, getS, A0, hw]
    · cbv
      subst hA hX hW hR
      simp only [A0, decide_eq_false_iff_not] at h2
      replace h2 : ¬ i < (xs.length : Int) := h2
      replace i1 : i ≤ (bs.length : Int) := i1
      refine ret_v ?_ rfl
      have hil : i.toNat = bs.length := by omega
      rw [hil, List.take_length] at i2
      have e : xs = ys := heq.2 (by rw [i2, hlen, List.take_length])
      simp [boolD, sameX, e]
def kn_same (F : FsQ) : FuncId × (List DV → RV) := (10, fun args => match args with
  | [.d (.slc 1 xs), .d (.slc 1 ys)] => some ([F.isB xs, F.isB ys], boolD ((F.same xs ys)))
  | [.d (.sc (.slice none 0 0)), .d (.slc 1 ys)] => some ([F.isB [], F.isB ys], boolD ((F.same [] ys)))
  | [.d (.slc 1 xs), .d (.sc (.slice none 0 0))] => some ([F.isB xs, F.isB []], boolD ((F.same xs [])))
  | [.d (.sc (.slice none 0 0)), .d (.sc (.slice none 0 0))] => some ([F.isB [], F.isB []], boolD ((F.same [] [])))
  | _ => none)
theorem ok_same (args : List DV) (cs : List Prop) (r : DV) (h : (kn_same FsQ0).2 args = some (cs, r)) (hc : allP cs True) : FnV Try.prog 10 args r ∧ closedL 0 args = true := by
  unfold kn_same at h
  simp only at h
  split at h
  · cases h; exact ⟨v_same _ _ hc.1 hc.2.1, rfl⟩
  · cases h; exact ⟨FnP.nils (v_same [] _ hc.1 hc.2.1) ⟨.inr ⟨rfl, _, rfl⟩, ⟨.inl rfl, trivial⟩⟩, rfl⟩
  · cases h; exact ⟨FnP.nils (v_same _ [] hc.1 hc.2.1) ⟨.inl rfl, ⟨.inr ⟨rfl, _, rfl⟩, trivial⟩⟩, rfl⟩
  · cases h; exact ⟨FnP.nils (v_same [] [] hc.1 hc.2.1) ⟨.inr ⟨rfl, _, rfl⟩, ⟨.inr ⟨rfl, _, rfl⟩, trivial⟩⟩, rfl⟩
  · cases h
end Go.Proofs.Ytbhapclaochcnaa
namespace Go.Proofs.Ytbhapclaochcnaa
open Go.RowKit
set_option linter.all false
theorem wf_i64 {n : Int} (h : (Lit.int .i64 n).wf = true) : r64 n := by
  simp only [Lit.wf, Bool.and_eq_true, decide_eq_true_eq] at h
  exact h
theorem wf_u8 {n : Int} (h : (Lit.int .u8 n).wf = true) : 0 ≤ n ∧ n ≤ 255 := by
  simp only [Lit.wf, Bool.and_eq_true, decide_eq_true_eq] at h
  exact h
theorem fit_bytes : ∀ (xs : List (List PD)), (∀ x ∈ xs, FitL [.int .u8] x) → ∃ bs, xs = bytesP bs
  | [], _ => ⟨[], rfl⟩
  | x :: xs, h => by
      obtain ⟨bs, rfl⟩ := fit_bytes xs (fun y hy => h y (by simp [hy]))
      have h0 := h x (by simp)
      simp only [FitL, FitP] at h0
      obtain ⟨_, _, rfl, ⟨n, rfl, hn⟩, rfl⟩ := h0
      have := wf_u8 hn
      refine ⟨UInt8.ofNat n.toNat :: bs, ?_⟩
      have e : ((UInt8.ofNat n.toNat).toNat : Int) = n := by simp; omega
      simp only [bytesP, List.map_cons, e]
theorem wt_rows : ∀ xs : List (List PD), (∀ x ∈ xs, x ≠ []) → xs.length ≤ wtR xs
  | [], _ => by simp
  | x :: xs, h => by
      have h1 := wt_rows xs (fun y hy => h y (by simp [hy]))
      have h2 := h x (by simp)
      cases x with
      | nil => exact absurd rfl h2
      | cons p ps =>
        have : 1 ≤ wtP p := by
          cases p with
          | sc v =>
            unfold wtP
            split <;> omega
          | slc sz ys => unfold wtP; omega
        simp only [wtR, wtL, List.length_cons]
        omega
end Go.Proofs.Ytbhapclaochcnaa
namespace Go.Proofs.Ytbhapclaochcnaa
open Go.RowKit
set_option linter.all false
/-- What the bytes from a place on tell as a number. -/
inductive Got where
  | short
  | form
  | num (u k : Nat)
def sev : Nat → Nat → List UInt8 → Got
  | _, _, [] => .short
  | i, u, c :: l => if (0 < i ∧ c.toNat = 0) ∨ (i = 9 ∧ 1 < c.toNat) then .form else if c.toNat < 128 then .num (u + c.toNat % 128 * 2 ^ (7 * i)) (i + 1) else sev (i + 1) (u + c.toNat % 128 * 2 ^ (7 * i)) l
def zagI (u : Int) : Int := if u % 2 = 1 then -(u / 2) - 1 else u / 2
def u64 (u : Int) : Prop := 0 ≤ u ∧ u < 18446744073709551616
/-- A number, read: the answer, the place behind, the error. -/
def numL (bs : List UInt8) (a w : Int) : Int × Int × Int :=
  if w ≠ 0 then (0, a, w) else match sev 0 0 (bs.drop a.toNat) with
    | .short => (0, a, 3)
    | .form => (0, a, 4)
    | .num u k => (zagI u, a + k, 0)
def numR (xs : List (List PD)) (a w : Int) : Int × Int × Int := numL (bytesOf xs) a w
def cntL (bs : List UInt8) (a w most : Int) : Int × Int × Int :=
  if (numL bs a w).2.2 = 0 ∧ ((numL bs a w).1 < 0 ∨ most < (numL bs a w).1) then (0, a, 2) else numL bs a w
def cntR (xs : List (List PD)) (a w most : Int) : Int × Int × Int := cntL (bytesOf xs) a w most
def textL (bs : List UInt8) (a w most : Int) : ByteArray × Int × Int :=
  if (cntL bs a w most).2.2 ≠ 0 then (.empty, (cntL bs a w most).2.1, (cntL bs a w most).2.2) else
    if (bs.length : Int) - (cntL bs a w most).2.1 < (cntL bs a w most).1 then (.empty, a, 3) else
      (⟨((bs.drop (cntL bs a w most).2.1.toNat).take (cntL bs a w most).1.toNat).toArray⟩, (cntL bs a w most).2.1 + (cntL bs a w most).1, 0)
def textR (xs : List (List PD)) (a w most : Int) : ByteArray × Int × Int := textL (bytesOf xs) a w most
def flagL (bs : List UInt8) (a w : Int) : Bool × Int × Int :=
  if w ≠ 0 then (false, a, w) else match bs[a.toNat]? with
    | none => (false, a, 3)
    | some c => if 1 < (c.toNat : Int) then (false, a, 4) else (decide ((c.toNat : Int) = 1), a + 1, 0)
def flagR (xs : List (List PD)) (a w : Int) : Bool × Int × Int := flagL (bytesOf xs) a w
def endR (xs : List (List PD)) (a w : Int) : Int := if w = 0 ∧ a < xs.length then 5 else w
def errR (w e : Int) : Int := if w = 0 then e else w
theorem err0 (e : Int) : errR 0 e = e := by simp [errR]
def failR (w : Int) : Int := if w = 0 then 4 else w
/-- A reader's cells are right: bytes, a place in them, an error. -/
def isRd (xs : List (List PD)) (a w : Int) : Prop := (∃ bs, xs = bytesP bs ∧ bs.length ≤ 8000000) ∧ 0 ≤ a ∧ a ≤ xs.length ∧ 0 ≤ w ∧ w ≤ 100
abbrev rdB (t : Nat) (xs : List (List PD)) (a w : Int) : Box := ⟨t, [.d (.slc 1 xs), .d (.sc (.int .i64 a)), .d (.sc (.int .i64 w))], false, 0, true⟩
theorem and127f : ∀ x : Fin 256, bitsV .u8 (· &&& ·) (x.val : Int) 127 = ((x.val % 128 : Nat) : Int) := by decide +kernel
theorem ofInt_nat (n : Nat) : BitVec.ofInt 64 (n : Int) = BitVec.ofNat 64 n := by simp
theorem and1 (u : Int) (h : u64 u) : bitsV .u64 (· &&& ·) u 1 = u % 2 := by
  obtain ⟨n, rfl⟩ := Int.eq_ofNat_of_zero_le h.1
  have hn : n < 18446744073709551616 := by have := h.2; omega
  show IntKind.wrap .u64 ((BitVec.ofInt 64 (n : Int) &&& BitVec.ofInt 64 1).toNat : Int) = _
  rw [ofInt_nat, show (BitVec.ofInt 64 1 : BitVec 64) = BitVec.ofNat 64 1 from rfl, BitVec.toNat_and, BitVec.toNat_ofNat, BitVec.toNat_ofNat, Nat.mod_eq_of_lt (show n < 2 ^ 64 by omega), show 1 % 2 ^ 64 = 1 from rfl, Nat.and_one_is_mod]
  rw [wrap64_of (by omega) (by omega)]
  omega
theorem or_add (u w k : Nat) (hu : u < 2 ^ k) (hw : u + w * 2 ^ k < 18446744073709551616) : bitsV .u64 (· ||| ·) (u : Int) ((w * 2 ^ k : Nat) : Int) = ((u + w * 2 ^ k : Nat) : Int) := by
  show IntKind.wrap .u64 ((BitVec.ofInt 64 (u : Int) ||| BitVec.ofInt 64 ((w * 2 ^ k : Nat) : Int)).toNat : Int) = _
  rw [ofInt_nat, ofInt_nat, BitVec.toNat_or, BitVec.toNat_ofNat, BitVec.toNat_ofNat, Nat.mod_eq_of_lt (show u < 2 ^ 64 by omega), Nat.mod_eq_of_lt (show w * 2 ^ k < 2 ^ 64 by omega)]
  have := Nat.shiftLeft_add_eq_or_of_lt hu w
  rw [Nat.shiftLeft_eq] at this
  rw [Nat.or_comm, ← this, wrap64_of (by omega) (by omega)]
  omega
theorem xor_i64 (a : Int) (h : r64 a) : bitsV .i64 (· ^^^ ·) a 0 = a ∧ bitsV .i64 (· ^^^ ·) a (-1) = -a - 1 ∧ bitsV .i64 (· ^^^ ·) (-1) a = -a - 1 := by
  have hb : ((BitVec.ofInt 64 a).toNat : Int) = a % 18446744073709551616 := by
    rw [BitVec.toNat_ofInt]
    omega
  have hx : (BitVec.ofInt 64 (-1) : BitVec 64) = BitVec.allOnes 64 := by decide
  unfold r64 at h
  have hn : IntKind.wrap .i64 ((~~~ BitVec.ofInt 64 a).toNat : Int) = -a - 1 := by
    rw [BitVec.toNat_not]
    simp only [IntKind.wrap, IntKind.bits, IntKind.signed]
    simp
    omega
  refine ⟨?_, ?_, ?_⟩
  · show IntKind.wrap .i64 ((BitVec.ofInt 64 a ^^^ BitVec.ofInt 64 0).toNat : Int) = a
    rw [show BitVec.ofInt 64 0 = 0#64 from rfl, BitVec.xor_zero, hb]
    simp only [IntKind.wrap, IntKind.bits, IntKind.signed]
    simp
    omega
  · show IntKind.wrap .i64 ((BitVec.ofInt 64 a ^^^ BitVec.ofInt 64 (-1)).toNat : Int) = _
    rw [hx, BitVec.xor_allOnes, hn]
  · show IntKind.wrap .i64 ((BitVec.ofInt 64 (-1) ^^^ BitVec.ofInt 64 a).toNat : Int) = _
    rw [hx, BitVec.allOnes_xor, hn]
theorem zag_range (u : Int) (h : u64 u) : r64 (zagI u) := by
  unfold u64 at h
  unfold zagI r64
  split <;> omega
theorem half (u : Int) (h : u64 u) : u.fdiv (2 ^ min (Int.toNat 1) (IntKind.bits .u64)) = u / 2 ∧ r64 (u / 2) := by
  unfold u64 at h
  refine ⟨?_, by unfold r64; omega⟩
  rw [show (2 : Int) ^ min (Int.toNat 1) (IntKind.bits .u64) = 2 by decide, Int.fdiv_eq_ediv_of_nonneg _ (by omega)]
theorem zag_bits (u : Int) (h : u64 u) : bitsV .i64 (· ^^^ ·) (IntKind.wrap .i64 (u.fdiv (2 ^ min (Int.toNat 1) (IntKind.bits .u64)))) (IntKind.wrap .i64 (0 - IntKind.wrap .i64 (bitsV .u64 (· &&& ·) u 1))) = zagI u := by
  rw [(half u h).1, and1 u h, wrap_i64 (half u h).2]
  have hx := xor_i64 _ (half u h).2
  unfold zagI
  rcases (show u % 2 = 0 ∨ u % 2 = 1 by omega) with e | e
  · rw [e, if_neg (by decide), show IntKind.wrap .i64 (0 - IntKind.wrap .i64 0) = 0 by decide, hx.1]
  · rw [e, if_pos rfl, show IntKind.wrap .i64 (0 - IntKind.wrap .i64 1) = -1 by decide, hx.2.1]
structure FsR where
  zag : Int → Int
  zag2 : Int → Int
  u64 : Int → Prop
  zig : Int → Int
  r64 : Int → Prop
  rd : List (List PD) → Int → Int → Prop
  num : List (List PD) → Int → Int → Int × Int × Int
  cnt : List (List PD) → Int → Int → Int → Int × Int × Int
  text : List (List PD) → Int → Int → Int → ByteArray × Int × Int
  flag : List (List PD) → Int → Int → Bool × Int × Int
  fin : List (List PD) → Int → Int → Int
  fail : Int → Int
  err : Int → Int → Int
def FsR0 : FsR where
  zag := zagI
  zag2 := zagI
  u64 := u64
  zig := zig
  r64 := r64
  rd := isRd
  num := numR
  cnt := cntR
  text := textR
  flag := flagR
  fin := endR
  fail := failR
  err := errR
set_option maxRecDepth 100000 in
theorem v_zag (u : Int) (hp0 : FsR0.u64 u) : FnV Try.prog 75 [.d (.sc (.int .u64 u))] (intD ((zagI u))) := by
  refine FnD_cbv (T := fun _ => tabY [] []) (H := fun _ => []) (tabY_ok _ _) noK_ok follows_mixed Try.func75 rfl Try.ntmps75 (by simp) fun A X W hA hX hW => ?_
  cbv
  repeat' first
    | (refine part (fun h => ?_) (fun h => ?_) <;> try cbv)
    | (refine And.intro ?_ ?_)
  all_goals subst hA hX hW
  all_goals try (show Region.lexB _ _ = true; kernel_rfl)
  all_goals try (show turnsB _ = true; kernel_rfl)
  all_goals simp only [A0, FsR0, decide_eq_true_eq, decide_eq_false_iff_not, Bool.not_eq_true', Bool.not_eq_false'] at *
  all_goals first
    | decide
    | (refine ret_v ?_ rfl
       rw [zag_bits u hp0]
       rfl)
def kn_zag (F : FsR) : FuncId × (List DV → RV) := (75, fun args => match args with
  | [.d (.sc (.int .u64 u))] => some ([F.u64 u], intD ((F.zag u)))
  | _ => none)
theorem ok_zag (args : List DV) (cs : List Prop) (r : DV) (h : (kn_zag FsR0).2 args = some (cs, r)) (hc : allP cs True) : FnV Try.prog 75 args r ∧ closedL 0 args = true := by
  unfold kn_zag at h
  simp only at h
  split at h
  · cases h; exact ⟨v_zag _ hc.1, rfl⟩
  · cases h
set_option maxRecDepth 100000 in
theorem v_zag2 (u : Int) (hp0 : FsR0.u64 u) : FnV Try.prog 81 [.d (.sc (.int .u64 u))] (intD ((zagI u))) := by
  refine FnD_cbv (T := fun _ => tabY [] []) (H := fun _ => []) (tabY_ok _ _) noK_ok follows_mixed Try.func81 rfl Try.ntmps81 (by simp) fun A X W hA hX hW => ?_
  cbv
  repeat' first
    | (refine part (fun h => ?_) (fun h => ?_) <;> try cbv)
    | (refine And.intro ?_ ?_)
  all_goals subst hA hX hW
  all_goals try (show Region.lexB _ _ = true; kernel_rfl)
  all_goals try (show turnsB _ = true; kernel_rfl)
  all_goals simp only [A0, FsR0, decide_eq_true_eq, decide_eq_false_iff_not, Bool.not_eq_true', Bool.not_eq_false'] at *
  all_goals try (first | decide | done)
  all_goals
    replace hp0 : u64 u := hp0
    have h2 := half u hp0
    rw [and1 u hp0] at h
    rw [h2.1, wrap_i64 h2.2]
    refine ret_v ?_ rfl
    simp only [zagI]
  · rw [show (if IntKind.i64.signed = true then (-1 : Int) else IntKind.i64.max) = -1 from rfl, (xor_i64 _ h2.2).2.2, if_pos h]; rfl
  · rw [if_neg h]; rfl
def kn_zag2 (F : FsR) : FuncId × (List DV → RV) := (81, fun args => match args with
  | [.d (.sc (.int .u64 u))] => some ([F.u64 u], intD ((F.zag2 u)))
  | _ => none)
theorem ok_zag2 (args : List DV) (cs : List Prop) (r : DV) (h : (kn_zag2 FsR0).2 args = some (cs, r)) (hc : allP cs True) : FnV Try.prog 81 args r ∧ closedL 0 args = true := by
  unfold kn_zag2 at h
  simp only at h
  split at h
  · cases h; exact ⟨v_zag2 _ hc.1, rfl⟩
  · cases h
theorem RetW.ofEq {k : Nat} {r res : DV} {st st2 : Store} (h1 : r = res) (h2 : st = st2) : RetW k (fun r st' => r = res ∧ st' = st2) r st := RetW.refl ⟨h1, h2⟩
set_option maxRecDepth 100000 in
theorem v_pfail (xs : List (List PD)) (a w : Int) (a2 : Int) (e : Int) (hp0 : FsR0.rd xs a w) : FnD Try.prog 74 [.ref 0 0 0, .d (.sc (.int .i64 a2)), .d (.sc (.int .i64 e))] [rdB 95 xs a w] (fun r st' => r = .tup [] ∧ st' = [rdB 95 xs a2 e]) := by
  obtain ⟨F, hF⟩ : ∃ F, F = FsR0 := ⟨_, rfl⟩
  refine FnD_cbv (T := fun _ => tabY [] []) (H := fun _ => []) (tabY_ok _ _) noK_ok follows_mixed Try.func74 rfl Try.ntmps74 (by simp) fun A X W hA hX hW => ?_
  cbv
  subst hA hX hW
  exact RetW.refl ⟨rfl, rfl⟩
def kb_pfail (F : FsR) : FuncId × (List DV → Store → SV) := (74, fun args st => match args with
  | [.ref b ver o, .d (.sc (.int .i64 a2)), .d (.sc (.int .i64 e))] => (match st[b]? with
    | some ⟨t, [.d (.slc 1 xs), .d (.sc (.int .i64 a)), .d (.sc (.int .i64 w))], false, v, true⟩ => (bif (ver == 0) && (o == 0) && (v == 0) && (t == 95) then some ([F.rd xs a w], .tup [], st.set b (rdB 95 xs a2 e)) else none)
    | _ => none)
  | _ => none)
theorem okb_pfail (args : List DV) (st : Store) (cs : List Prop) (r : DV) (st' : Store) (h : (kb_pfail FsR0).2 args st = some (cs, r, st')) (hc : allP cs True) (K : DV → Store → Prop) (hk : K r st') : FnD Try.prog 74 args st K := by
  unfold kb_pfail at h
  simp only at h
  split at h
  · split at h
    · rename_i hb
      simp only [cond_eq_ite, Bool.and_eq_true, beq_iff_eq, Option.ite_none_right_eq_some] at h
      obtain ⟨⟨⟨⟨rfl, rfl⟩, rfl⟩, rfl⟩, h⟩ := h
      cases h
      exact FnD.one _ (v_pfail _ _ _ _ _ hc.1) hb rfl rfl rfl rfl hk
    · cases h
  · cases h
set_option maxRecDepth 100000 in
theorem v_pwrong (xs : List (List PD)) (a w : Int) (hp0 : FsR0.rd xs a w) : FnD Try.prog 27 [.ref 0 0 0] [rdB 95 xs a w] (fun r st' => r = .d (.sc (.int .i64 w)) ∧ st' = [rdB 95 xs a w]) := by
  obtain ⟨F, hF⟩ : ∃ F, F = FsR0 := ⟨_, rfl⟩
  refine FnD_cbv (T := fun _ => tabY [] []) (H := fun _ => []) (tabY_ok _ _) noK_ok follows_mixed Try.func27 rfl Try.ntmps27 (by simp) fun A X W hA hX hW => ?_
  cbv
  subst hA hX hW
  exact RetW.refl ⟨rfl, rfl⟩
def kb_pwrong (F : FsR) : FuncId × (List DV → Store → SV) := (27, fun args st => match args with
  | [.ref b ver o] => (match st[b]? with
    | some ⟨t, [.d (.slc 1 xs), .d (.sc (.int .i64 a)), .d (.sc (.int .i64 w))], false, v, true⟩ => (bif (ver == 0) && (o == 0) && (v == 0) && (t == 95) then some ([F.rd xs a w], .d (.sc (.int .i64 w)), st.set b (rdB 95 xs a w)) else none)
    | _ => none)
  | _ => none)
theorem okb_pwrong (args : List DV) (st : Store) (cs : List Prop) (r : DV) (st' : Store) (h : (kb_pwrong FsR0).2 args st = some (cs, r, st')) (hc : allP cs True) (K : DV → Store → Prop) (hk : K r st') : FnD Try.prog 27 args st K := by
  unfold kb_pwrong at h
  simp only at h
  split at h
  · split at h
    · rename_i hb
      simp only [cond_eq_ite, Bool.and_eq_true, beq_iff_eq, Option.ite_none_right_eq_some] at h
      obtain ⟨⟨⟨⟨rfl, rfl⟩, rfl⟩, rfl⟩, h⟩ := h
      cases h
      exact FnD.one _ (v_pwrong _ _ _ hc.1) hb rfl rfl rfl rfl hk
    · cases h
  · cases h
set_option maxRecDepth 100000 in
theorem v_pFail (xs : List (List PD)) (a w : Int) (hp0 : FsR0.rd xs a w) : FnD Try.prog 71 [.ref 0 0 0] [rdB 95 xs a w] (fun r st' => r = .tup [] ∧ st' = [rdB 95 xs a (FsR0.fail w)]) := by
  obtain ⟨F, hF⟩ : ∃ F, F = FsR0 := ⟨_, rfl⟩
  refine FnD_cbv (T := fun _ => tabY [] []) (H := fun _ => []) (tabY_ok _ _) noK_ok follows_mixed Try.func71 rfl Try.ntmps71 (by simp) fun A X W hA hX hW => ?_
  cbv
  refine part (fun h => ?_) (fun h => ?_)
  all_goals
    cbv
    subst hA hX hW hF
    simp only [A0, decide_eq_true_eq, decide_eq_false_iff_not] at h
    refine RetW.refl ⟨rfl, ?_⟩
    simp [FsR0, failR, h]
def kb_pFail (F : FsR) : FuncId × (List DV → Store → SV) := (71, fun args st => match args with
  | [.ref b ver o] => (match st[b]? with
    | some ⟨t, [.d (.slc 1 xs), .d (.sc (.int .i64 a)), .d (.sc (.int .i64 w))], false, v, true⟩ => (bif (ver == 0) && (o == 0) && (v == 0) && (t == 95) then some ([F.rd xs a w], .tup [], st.set b (rdB 95 xs a (F.fail w))) else none)
    | _ => none)
  | _ => none)
theorem okb_pFail (args : List DV) (st : Store) (cs : List Prop) (r : DV) (st' : Store) (h : (kb_pFail FsR0).2 args st = some (cs, r, st')) (hc : allP cs True) (K : DV → Store → Prop) (hk : K r st') : FnD Try.prog 71 args st K := by
  unfold kb_pFail at h
  simp only at h
  split at h
  · split at h
    · rename_i hb
      simp only [cond_eq_ite, Bool.and_eq_true, beq_iff_eq, Option.ite_none_right_eq_some] at h
      obtain ⟨⟨⟨⟨rfl, rfl⟩, rfl⟩, rfl⟩, h⟩ := h
      cases h
      exact FnD.one _ (v_pFail _ _ _ hc.1) hb rfl rfl rfl rfl hk
    · cases h
  · cases h
set_option maxRecDepth 100000 in
theorem v_rfail (xs : List (List PD)) (a w : Int) (e : Int) (hp0 : FsR0.rd xs a w) : FnD Try.prog 80 [.ref 0 0 0, .d (.sc (.int .i64 e))] [rdB 59 xs a w] (fun r st' => r = .tup [] ∧ st' = [rdB 59 xs a (FsR0.err w e)]) := by
  obtain ⟨F, hF⟩ : ∃ F, F = FsR0 := ⟨_, rfl⟩
  refine FnD_cbv (T := fun _ => tabY [] []) (H := fun _ => []) (tabY_ok _ _) noK_ok follows_mixed Try.func80 rfl Try.ntmps80 (by simp) fun A X W hA hX hW => ?_
  cbv
  refine part (fun h => ?_) (fun h => ?_)
  all_goals
    cbv
    subst hA hX hW hF
    simp only [A0, decide_eq_true_eq, decide_eq_false_iff_not] at h
    refine RetW.refl ⟨rfl, ?_⟩
    simp [FsR0, errR, h]
def kb_rfail (F : FsR) : FuncId × (List DV → Store → SV) := (80, fun args st => match args with
  | [.ref b ver o, .d (.sc (.int .i64 e))] => (match st[b]? with
    | some ⟨t, [.d (.slc 1 xs), .d (.sc (.int .i64 a)), .d (.sc (.int .i64 w))], false, v, true⟩ => (bif (ver == 0) && (o == 0) && (v == 0) && (t == 59) then some ([F.rd xs a w], .tup [], st.set b (rdB 59 xs a (F.err w e))) else none)
    | _ => none)
  | _ => none)
theorem okb_rfail (args : List DV) (st : Store) (cs : List Prop) (r : DV) (st' : Store) (h : (kb_rfail FsR0).2 args st = some (cs, r, st')) (hc : allP cs True) (K : DV → Store → Prop) (hk : K r st') : FnD Try.prog 80 args st K := by
  unfold kb_rfail at h
  simp only at h
  split at h
  · split at h
    · rename_i hb
      simp only [cond_eq_ite, Bool.and_eq_true, beq_iff_eq, Option.ite_none_right_eq_some] at h
      obtain ⟨⟨⟨⟨rfl, rfl⟩, rfl⟩, rfl⟩, h⟩ := h
      cases h
      exact FnD.one _ (v_rfail _ _ _ _ hc.1) hb rfl rfl rfl rfl hk
    · cases h
  · cases h
theorem isRd_len {xs : List (List PD)} {a w : Int} (h : isRd xs a w) : ∃ bs, xs = bytesP bs ∧ bytesOf xs = bs ∧ xs.length = bs.length ∧ bs.length ≤ 8000000 ∧ 0 ≤ a ∧ a ≤ bs.length ∧ 0 ≤ w ∧ w ≤ 100 := by
  obtain ⟨⟨bs, rfl, hb⟩, h1, h2, h3, h4⟩ := h
  rw [bytesP_length] at h2
  exact ⟨bs, rfl, bytesOf_bytesP bs, bytesP_length bs, hb, h1, h2, h3, h4⟩
theorem isRd_row {xs : List (List PD)} {a w : Int} (h : isRd xs a w) : (a = xs.length ∧ (bytesOf xs)[a.toNat]? = none) ∨ ∃ (b : UInt8) (c : Nat), b.toNat = c ∧ c < 256 ∧ a < xs.length ∧ (bytesOf xs)[a.toNat]? = some b ∧ xs.getD a.toNat [] = [.sc (.int .u8 (c : Int))] := by
  obtain ⟨bs, rfl, hby, hl, hb, h0, h1, _⟩ := isRd_len h
  rw [hby, hl]
  rcases Int.lt_or_eq_of_le h1 with h2 | h2
  · have hj : a.toNat < bs.length := by omega
    exact .inr ⟨bs[a.toNat], _, rfl, UInt8.toNat_lt _, h2, List.getElem?_eq_getElem hj, rowB rfl h0 h2⟩
  · exact .inl ⟨h2, List.getElem?_eq_none (by omega)⟩
set_option maxRecDepth 100000 in
theorem v_pEnd (xs : List (List PD)) (a w : Int) (hp0 : FsR0.rd xs a w) : FnD Try.prog 29 [.ref 0 0 0] [rdB 95 xs a w] (fun r st' => r = .d (.sc (.int .i64 (FsR0.fin xs a w))) ∧ st' = [rdB 95 xs a (FsR0.fin xs a w)]) := by
  obtain ⟨F, hF⟩ : ∃ F, F = FsR0 := ⟨_, rfl⟩
  refine FnD_cbv (T := fun _ => tabY [] []) (H := fun _ => []) (tabY_ok _ _) noK_ok follows_mixed Try.func29 rfl Try.ntmps29 (by simp) fun A X W hA hX hW => ?_
  cbv
  repeat' first
    | (refine part (fun h => ?_) (fun h => ?_) <;> try cbv)
    | (refine And.intro ?_ ?_)
    | (with_reducible refine callB hX hB ?_) <;> cbv
  all_goals subst hA hX hW hF
  all_goals have hrow := isRd_row hp0
  all_goals obtain ⟨bs, hxs, hby, hlx, hb, h0, h1, hw0, hw1⟩ := isRd_len hp0
  all_goals have hwa : IntKind.wrap .i64 (a + 1) = a + 1 := wrap_i64 (by unfold r64; omega)
  all_goals try (show Region.lexB _ _ = true; kernel_rfl)
  all_goals try (show turnsB _ = true; kernel_rfl)
  all_goals simp only [A0, FsR0, decide_eq_true_eq, decide_eq_false_iff_not, Bool.not_eq_true', Bool.not_eq_false', Bool.and_eq_true] at *
  all_goals first
    | assumption
    | exact id
    | (intros; first | assumption | trivial | (simp_all; done))
    | (refine RetW.ofEq ?_ ?_ <;> simp_all [endR, errR] <;> omega)
    | (refine RetW.ofEq ?_ ?_ <;> simp_all [endR, errR])
def kb_pEnd (F : FsR) : FuncId × (List DV → Store → SV) := (29, fun args st => match args with
  | [.ref b ver o] => (match st[b]? with
    | some ⟨t, [.d (.slc 1 xs), .d (.sc (.int .i64 a)), .d (.sc (.int .i64 w))], false, v, true⟩ => (bif (ver == 0) && (o == 0) && (v == 0) && (t == 95) then some ([F.rd xs a w], .d (.sc (.int .i64 (F.fin xs a w))), st.set b (rdB 95 xs a (F.fin xs a w))) else none)
    | _ => none)
  | _ => none)
theorem okb_pEnd (args : List DV) (st : Store) (cs : List Prop) (r : DV) (st' : Store) (h : (kb_pEnd FsR0).2 args st = some (cs, r, st')) (hc : allP cs True) (K : DV → Store → Prop) (hk : K r st') : FnD Try.prog 29 args st K := by
  unfold kb_pEnd at h
  simp only at h
  split at h
  · split at h
    · rename_i hb
      simp only [cond_eq_ite, Bool.and_eq_true, beq_iff_eq, Option.ite_none_right_eq_some] at h
      obtain ⟨⟨⟨⟨rfl, rfl⟩, rfl⟩, rfl⟩, h⟩ := h
      cases h
      exact FnD.one _ (v_pEnd _ _ _ hc.1) hb rfl rfl rfl rfl hk
    · cases h
  · cases h
set_option maxRecDepth 100000 in
theorem v_rEnd (xs : List (List PD)) (a w : Int) (hp0 : FsR0.rd xs a w) : FnD Try.prog 65 [.ref 0 0 0] [rdB 59 xs a w] (fun r st' => r = .d (.sc (.int .i64 (FsR0.fin xs a w))) ∧ st' = [rdB 59 xs a (FsR0.fin xs a w)]) := by
  obtain ⟨F, hF⟩ : ∃ F, F = FsR0 := ⟨_, rfl⟩
  have hB : SoundB Try.prog [kb_rfail F] := by subst hF; exact orB_ok okb_rfail noB_ok
  refine FnD_cbv (T := fun _ => tabY [] []) (H := fun _ => []) (tabY_ok _ _) noK_ok follows_mixed Try.func65 rfl Try.ntmps65 (by simp) fun A X W hA hX hW => ?_
  cbv
  repeat' first
    | (refine part (fun h => ?_) (fun h => ?_) <;> try cbv)
    | (refine And.intro ?_ ?_)
    | (with_reducible refine callB hX hB ?_) <;> cbv
  all_goals subst hA hX hW hF
  all_goals have hrow := isRd_row hp0
  all_goals obtain ⟨bs, hxs, hby, hlx, hb, h0, h1, hw0, hw1⟩ := isRd_len hp0
  all_goals have hwa : IntKind.wrap .i64 (a + 1) = a + 1 := wrap_i64 (by unfold r64; omega)
  all_goals try (show Region.lexB _ _ = true; kernel_rfl)
  all_goals try (show turnsB _ = true; kernel_rfl)
  all_goals simp only [A0, FsR0, decide_eq_true_eq, decide_eq_false_iff_not, Bool.not_eq_true', Bool.not_eq_false', Bool.and_eq_true] at *
  all_goals first
    | assumption
    | exact id
    | (intros; first | assumption | trivial | (simp_all; done))
    | (refine RetW.ofEq ?_ ?_ <;> simp_all [endR, errR] <;> omega)
    | (refine RetW.ofEq ?_ ?_ <;> simp_all [endR, errR])
def kb_rEnd (F : FsR) : FuncId × (List DV → Store → SV) := (65, fun args st => match args with
  | [.ref b ver o] => (match st[b]? with
    | some ⟨t, [.d (.slc 1 xs), .d (.sc (.int .i64 a)), .d (.sc (.int .i64 w))], false, v, true⟩ => (bif (ver == 0) && (o == 0) && (v == 0) && (t == 59) then some ([F.rd xs a w], .d (.sc (.int .i64 (F.fin xs a w))), st.set b (rdB 59 xs a (F.fin xs a w))) else none)
    | _ => none)
  | _ => none)
theorem okb_rEnd (args : List DV) (st : Store) (cs : List Prop) (r : DV) (st' : Store) (h : (kb_rEnd FsR0).2 args st = some (cs, r, st')) (hc : allP cs True) (K : DV → Store → Prop) (hk : K r st') : FnD Try.prog 65 args st K := by
  unfold kb_rEnd at h
  simp only at h
  split at h
  · split at h
    · rename_i hb
      simp only [cond_eq_ite, Bool.and_eq_true, beq_iff_eq, Option.ite_none_right_eq_some] at h
      obtain ⟨⟨⟨⟨rfl, rfl⟩, rfl⟩, rfl⟩, h⟩ := h
      cases h
      exact FnD.one _ (v_rEnd _ _ _ hc.1) hb rfl rfl rfl rfl hk
    · cases h
  · cases h
set_option maxRecDepth 100000 in
theorem v_pFlag (xs : List (List PD)) (a w : Int) (hp0 : FsR0.rd xs a w) : FnD Try.prog 70 [.ref 0 0 0] [rdB 95 xs a w] (fun r st' => r = .d (.sc (.bool (FsR0.flag xs a w).1)) ∧ st' = [rdB 95 xs (FsR0.flag xs a w).2.1 (FsR0.flag xs a w).2.2]) := by
  obtain ⟨F, hF⟩ : ∃ F, F = FsR0 := ⟨_, rfl⟩
  have hB : SoundB Try.prog [kb_pfail F] := by subst hF; exact orB_ok okb_pfail noB_ok
  refine FnD_cbv (T := fun _ => tabY [33] []) (H := fun _ => []) (tabY_ok _ _) noK_ok follows_mixed Try.func70 rfl Try.ntmps70 (by simp) fun A X W hA hX hW => ?_
  cbv
  repeat' first
    | (refine part (fun h => ?_) (fun h => ?_) <;> try cbv)
    | (refine And.intro ?_ ?_)
    | (with_reducible refine callB hX hB ?_) <;> cbv
  all_goals subst hA hX hW hF
  all_goals have hrow := isRd_row hp0
  all_goals obtain ⟨bs, hxs, hby, hlx, hb, h0, h1, hw0, hw1⟩ := isRd_len hp0
  all_goals have hwa : IntKind.wrap .i64 (a + 1) = a + 1 := wrap_i64 (by unfold r64; omega)
  all_goals try (show Region.lexB _ _ = true; kernel_rfl)
  all_goals try (show turnsB _ = true; kernel_rfl)
  all_goals simp only [A0, FsR0, decide_eq_true_eq, decide_eq_false_iff_not, Bool.not_eq_true', Bool.not_eq_false', Bool.and_eq_true] at *
  all_goals first
    | assumption
    | omega
    | skip
  all_goals rcases hrow with ⟨ha, hn⟩ | ⟨b, c, hbc, hc, ha, hn, hr⟩
  all_goals first
    | omega
    | (refine RetW.ofEq ?_ ?_ <;> (simp_all [flagR, flagL, errR]; done))
    | (refine RetW.ofEq ?_ ?_ <;> simp_all [flagR, flagL, errR] <;> (split <;> first | (exfalso; omega) | simp))
    | (exfalso; simp_all; omega)
    | (simp_all; done)
def kb_pFlag (F : FsR) : FuncId × (List DV → Store → SV) := (70, fun args st => match args with
  | [.ref b ver o] => (match st[b]? with
    | some ⟨t, [.d (.slc 1 xs), .d (.sc (.int .i64 a)), .d (.sc (.int .i64 w))], false, v, true⟩ => (bif (ver == 0) && (o == 0) && (v == 0) && (t == 95) then some ([F.rd xs a w], .d (.sc (.bool (F.flag xs a w).1)), st.set b (rdB 95 xs (F.flag xs a w).2.1 (F.flag xs a w).2.2)) else none)
    | _ => none)
  | _ => none)
theorem okb_pFlag (args : List DV) (st : Store) (cs : List Prop) (r : DV) (st' : Store) (h : (kb_pFlag FsR0).2 args st = some (cs, r, st')) (hc : allP cs True) (K : DV → Store → Prop) (hk : K r st') : FnD Try.prog 70 args st K := by
  unfold kb_pFlag at h
  simp only at h
  split at h
  · split at h
    · rename_i hb
      simp only [cond_eq_ite, Bool.and_eq_true, beq_iff_eq, Option.ite_none_right_eq_some] at h
      obtain ⟨⟨⟨⟨rfl, rfl⟩, rfl⟩, rfl⟩, h⟩ := h
      cases h
      exact FnD.one _ (v_pFlag _ _ _ hc.1) hb rfl rfl rfl rfl hk
    · cases h
  · cases h
set_option maxRecDepth 100000 in
theorem v_rFlag (xs : List (List PD)) (a w : Int) (hp0 : FsR0.rd xs a w) : FnD Try.prog 72 [.ref 0 0 0] [rdB 59 xs a w] (fun r st' => r = .d (.sc (.bool (FsR0.flag xs a w).1)) ∧ st' = [rdB 59 xs (FsR0.flag xs a w).2.1 (FsR0.flag xs a w).2.2]) := by
  obtain ⟨F, hF⟩ : ∃ F, F = FsR0 := ⟨_, rfl⟩
  have hB : SoundB Try.prog [kb_rfail F] := by subst hF; exact orB_ok okb_rfail noB_ok
  refine FnD_cbv (T := fun _ => tabY [29] []) (H := fun _ => []) (tabY_ok _ _) noK_ok follows_mixed Try.func72 rfl Try.ntmps72 (by simp) fun A X W hA hX hW => ?_
  cbv
  repeat' first
    | (refine part (fun h => ?_) (fun h => ?_) <;> try cbv)
    | (refine And.intro ?_ ?_)
    | (with_reducible refine callB hX hB ?_) <;> cbv
  all_goals subst hA hX hW hF
  all_goals have hrow := isRd_row hp0
  all_goals obtain ⟨bs, hxs, hby, hlx, hb, h0, h1, hw0, hw1⟩ := isRd_len hp0
  all_goals have hwa : IntKind.wrap .i64 (a + 1) = a + 1 := wrap_i64 (by unfold r64; omega)
  all_goals try (show Region.lexB _ _ = true; kernel_rfl)
  all_goals try (show turnsB _ = true; kernel_rfl)
  all_goals simp only [A0, FsR0, decide_eq_true_eq, decide_eq_false_iff_not, Bool.not_eq_true', Bool.not_eq_false', Bool.and_eq_true] at *
  all_goals first
    | assumption
    | omega
    | skip
  all_goals rcases hrow with ⟨ha, hn⟩ | ⟨b, c, hbc, hc, ha, hn, hr⟩
  all_goals first
    | omega
    | (refine RetW.ofEq ?_ ?_ <;> (simp_all [flagR, flagL, errR]; done))
    | (refine RetW.ofEq ?_ ?_ <;> simp_all [flagR, flagL, errR] <;> (split <;> first | (exfalso; omega) | simp))
    | (exfalso; simp_all; omega)
    | (simp_all; done)
def kb_rFlag (F : FsR) : FuncId × (List DV → Store → SV) := (72, fun args st => match args with
  | [.ref b ver o] => (match st[b]? with
    | some ⟨t, [.d (.slc 1 xs), .d (.sc (.int .i64 a)), .d (.sc (.int .i64 w))], false, v, true⟩ => (bif (ver == 0) && (o == 0) && (v == 0) && (t == 59) then some ([F.rd xs a w], .d (.sc (.bool (F.flag xs a w).1)), st.set b (rdB 59 xs (F.flag xs a w).2.1 (F.flag xs a w).2.2)) else none)
    | _ => none)
  | _ => none)
theorem okb_rFlag (args : List DV) (st : Store) (cs : List Prop) (r : DV) (st' : Store) (h : (kb_rFlag FsR0).2 args st = some (cs, r, st')) (hc : allP cs True) (K : DV → Store → Prop) (hk : K r st') : FnD Try.prog 72 args st K := by
  unfold kb_rFlag at h
  simp only at h
  split at h
  · split at h
    · rename_i hb
      simp only [cond_eq_ite, Bool.and_eq_true, beq_iff_eq, Option.ite_none_right_eq_some] at h
      obtain ⟨⟨⟨⟨rfl, rfl⟩, rfl⟩, rfl⟩, h⟩ := h
      cases h
      exact FnD.one _ (v_rFlag _ _ _ hc.1) hb rfl rfl rfl rfl hk
    · cases h
  · cases h
theorem sev_lt : ∀ (l : List UInt8) (i u : Nat), i ≤ 9 → u < 2 ^ (7 * i) → ∀ m k, sev i u l = .num m k → m < 18446744073709551616 ∧ i < k ∧ k ≤ i + l.length ∧ k ≤ 10
  | [], i, u, _, _, m, k, h => by simp [sev] at h
  | c :: l, i, u, hi, hu, m, k, h => by
      have hc : c.toNat < 256 := c.toNat_lt
      unfold sev at h
      split at h
      · cases h
      · rename_i hf
        have hb : u + c.toNat % 128 * 2 ^ (7 * i) < 18446744073709551616 := by
          rcases Nat.lt_or_eq_of_le hi with h9 | h9
          · have h1 : c.toNat % 128 < 128 := Nat.mod_lt _ (by decide)
            have h2 : u + c.toNat % 128 * 2 ^ (7 * i) < 128 * 2 ^ (7 * i) := by
              have : c.toNat % 128 * 2 ^ (7 * i) + 2 ^ (7 * i) ≤ 128 * 2 ^ (7 * i) := by
                rw [← Nat.succ_mul]
                exact Nat.mul_le_mul_right _ h1
              omega
            have h3 : 128 * 2 ^ (7 * i) ≤ 128 * 2 ^ (7 * 8) := Nat.mul_le_mul_left _ (Nat.pow_le_pow_right (by decide) (by omega))
            omega
          · subst h9
            have : c.toNat % 128 ≤ 1 := by
              simp only [not_or, not_and] at hf
              have := hf.2 trivial
              omega
            have h1 : u < 2 ^ 63 := by simpa using hu
            have h2 : c.toNat % 128 * 2 ^ (7 * 9) ≤ 1 * 2 ^ (7 * 9) := Nat.mul_le_mul_right _ this
            omega
        split at h
        · cases h
          simp only [List.length_cons]
          omega
        · rename_i h128
          rcases Nat.lt_or_eq_of_le hi with h9 | h9
          · have := sev_lt l (i + 1) _ (by omega) (by
              have h1 : c.toNat % 128 < 128 := Nat.mod_lt _ (by decide)
              have : c.toNat % 128 * 2 ^ (7 * i) + 2 ^ (7 * i) ≤ 128 * 2 ^ (7 * i) := by
                rw [← Nat.succ_mul]
                exact Nat.mul_le_mul_right _ h1
              have e : 2 ^ (7 * (i + 1)) = 128 * 2 ^ (7 * i) := by rw [Nat.mul_add, Nat.pow_add, Nat.mul_comm]
              omega) m k h
            simp only [List.length_cons]
            omega
          · subst h9
            simp only [not_or, not_and] at hf
            have := hf.2 trivial
            omega
/-- One byte of a number: what the loop takes of it. -/
theorem sev_step {bs : List UInt8} {n i u : Nat} {b : UInt8} (hb : bs[n + i]? = some b) : sev i u (bs.drop (n + i)) = if (0 < i ∧ b.toNat = 0) ∨ (i = 9 ∧ 1 < b.toNat) then .form else if b.toNat < 128 then .num (u + b.toNat % 128 * 2 ^ (7 * i)) (i + 1) else sev (i + 1) (u + b.toNat % 128 * 2 ^ (7 * i)) (bs.drop (n + (i + 1))) := by
  have hj : n + i < bs.length := (List.getElem?_eq_some_iff.1 hb).1
  have e : bs[n + i] = b := (List.getElem?_eq_some_iff.1 hb).2
  rw [List.drop_eq_getElem_cons hj, e]
  rfl
theorem sev_end {bs : List UInt8} {n i u : Nat} (hb : bs.length ≤ n + i) : sev i u (bs.drop (n + i)) = .short := by
  rw [List.drop_eq_nil_of_le hb]
  rfl
/-- The bits of one byte, laid in. -/
theorem lay (u i c : Nat) (hc : c < 256) (hi : i ≤ 9) (hu : u < 2 ^ (7 * i)) (h9 : i = 9 → c ≤ 1) :
    bitsV .u64 (· ||| ·) (u : Int) (IntKind.wrap .u64 (IntKind.wrap .u64 (bitsV .u8 (· &&& ·) (c : Int) 127) * 2 ^ min (Int.toNat ((7 * i : Nat) : Int)) (IntKind.bits .u64))) = ((u + c % 128 * 2 ^ (7 * i) : Nat) : Int) ∧ u + c % 128 * 2 ^ (7 * i) < 18446744073709551616 := by
  have hlt : u + c % 128 * 2 ^ (7 * i) < 18446744073709551616 := by
    rcases Nat.lt_or_eq_of_le hi with h | h
    · have h1 : c % 128 < 128 := Nat.mod_lt _ (by decide)
      have : c % 128 * 2 ^ (7 * i) + 2 ^ (7 * i) ≤ 128 * 2 ^ (7 * i) := by
        rw [← Nat.succ_mul]
        exact Nat.mul_le_mul_right _ h1
      have h3 : 128 * 2 ^ (7 * i) ≤ 128 * 2 ^ (7 * 8) := Nat.mul_le_mul_left _ (Nat.pow_le_pow_right (by decide) (by omega))
      omega
    · subst h
      have := h9 rfl
      have h1 : u < 2 ^ 63 := by simpa using hu
      have h2 : c % 128 * 2 ^ (7 * 9) ≤ 1 * 2 ^ (7 * 9) := Nat.mul_le_mul_right _ (by omega)
      omega
  refine ⟨?_, hlt⟩
  have e1 := and127f ⟨c, hc⟩
  simp only at e1
  rw [e1]
  have e3 : min (Int.toNat ((7 * i : Nat) : Int)) (IntKind.bits .u64) = 7 * i := by
    show min (7 * i) 64 = 7 * i
    omega
  have ew : IntKind.wrap .u64 ((c % 128 : Nat) : Int) = ((c % 128 : Nat) : Int) := wrap64_of (by omega) (by omega)
  rw [e3, ew]
  have e4 : ((c % 128 : Nat) : Int) * 2 ^ (7 * i) = ((c % 128 * 2 ^ (7 * i) : Nat) : Int) := by push_cast; rfl
  have ew2 : IntKind.wrap .u64 ((c % 128 * 2 ^ (7 * i) : Nat) : Int) = ((c % 128 * 2 ^ (7 * i) : Nat) : Int) := wrap64_of (by omega) (by omega)
  rw [e4, ew2]
  exact or_add u (c % 128) (7 * i) hu hlt
theorem lay_more (u i c : Nat) (hu : u < 2 ^ (7 * i)) : u + c % 128 * 2 ^ (7 * i) < 2 ^ (7 * (i + 1)) := by
  have h1 : c % 128 < 128 := Nat.mod_lt _ (by decide)
  have : c % 128 * 2 ^ (7 * i) + 2 ^ (7 * i) ≤ 128 * 2 ^ (7 * i) := by
    rw [← Nat.succ_mul]
    exact Nat.mul_le_mul_right _ h1
  have e : 2 ^ (7 * (i + 1)) = 128 * 2 ^ (7 * i) := by rw [Nat.mul_add, Nat.pow_add, Nat.mul_comm]
  omega
theorem num_short {xs : List (List PD)} {bs : List UInt8} {a : Int} {n m : Nat} (hby : bytesOf xs = bs) (h : sev 0 0 (bs.drop a.toNat) = sev n m (bs.drop (a.toNat + n))) (hl : bs.length ≤ a.toNat + n) : numR xs a 0 = (0, a, 3) := by
  simp [numR, numL, hby, h, sev_end hl]
theorem num_form {xs : List (List PD)} {bs : List UInt8} {a : Int} {n m c : Nat} {b : UInt8} (hby : bytesOf xs = bs) (h : sev 0 0 (bs.drop a.toNat) = sev n m (bs.drop (a.toNat + n))) (hb : bs[a.toNat + n]? = some b) (hbc : b.toNat = c) (hc : (0 < n ∧ c = 0) ∨ (n = 9 ∧ 1 < c)) : numR xs a 0 = (0, a, 4) := by
  rw [sev_step hb, hbc, if_pos hc] at h
  simp [numR, numL, hby, h]
theorem num_num {xs : List (List PD)} {bs : List UInt8} {a : Int} {n m c : Nat} {b : UInt8} (hby : bytesOf xs = bs) (h : sev 0 0 (bs.drop a.toNat) = sev n m (bs.drop (a.toNat + n))) (hb : bs[a.toNat + n]? = some b) (hbc : b.toNat = c) (hc : ¬ ((0 < n ∧ c = 0) ∨ (n = 9 ∧ 1 < c))) (h8 : c < 128) : numR xs a 0 = (zagI ((m + c % 128 * 2 ^ (7 * n) : Nat) : Int), a + n + 1, 0) := by
  rw [sev_step hb, hbc, if_neg hc, if_pos h8] at h
  simp [numR, numL, hby, h]
  omega
theorem num_next {bs : List UInt8} {a : Int} {n m c : Nat} {b : UInt8} (h : sev 0 0 (bs.drop a.toNat) = sev n m (bs.drop (a.toNat + n))) (hb : bs[a.toNat + n]? = some b) (hbc : b.toNat = c) (hc : ¬ ((0 < n ∧ c = 0) ∨ (n = 9 ∧ 1 < c))) (h8 : ¬ c < 128) : sev 0 0 (bs.drop a.toNat) = sev (n + 1) (m + c % 128 * 2 ^ (7 * n)) (bs.drop (a.toNat + (n + 1))) := by
  rw [sev_step hb, hbc, if_neg hc, if_neg h8] at h
  exact h
theorem isRd.at {xs : List (List PD)} {a w a' w' : Int} (h : isRd xs a w) (_ : True) (h0 : 0 ≤ a' ∧ a' ≤ xs.length) (h1 : 0 ≤ w' ∧ w' ≤ 100) : isRd xs a' w' := ⟨h.1, h0.1, h0.2, h1.1, h1.2⟩
/-- The loop's state: the place, the count, the bits. -/
def NumI (bs : List UInt8) (a p i u : Int) : Prop := ∃ n m : Nat, i = n ∧ u = m ∧ p = a + n ∧ n ≤ 9 ∧ m < 2 ^ (7 * n) ∧ a + n ≤ bs.length ∧ sev 0 0 (bs.drop a.toNat) = sev n m (bs.drop (a.toNat + n))
set_option maxRecDepth 100000 in
theorem v_pNum (xs : List (List PD)) (a w : Int) (hp0 : FsR0.rd xs a w) : FnD Try.prog 36 [.ref 0 0 0] [rdB 95 xs a w] (fun r st' => r = .d (.sc (.int .i64 (FsR0.num xs a w).1)) ∧ st' = [rdB 95 xs (FsR0.num xs a w).2.1 (FsR0.num xs a w).2.2]) := by
  obtain ⟨F, hF⟩ : ∃ F, F = FsR0 := ⟨_, rfl⟩
  have hH : SoundK Try.prog [kn_zag F] := by subst hF; exact orK_ok ok_zag noK_ok
  have hB : SoundB Try.prog [kb_pfail F] := by subst hF; exact orB_ok okb_pfail noB_ok
  refine FnD_cbv (T := fun _ => tabY [39] []) (H := fun _ => [kn_zag F]) (tabY_ok _ _) hH follows_mixed Try.func36 rfl Try.ntmps36 (by simp) fun A X W hA hX hW => ?_
  cbv
  refine part (fun h => ?_) (fun h => ?_)
  · cbv
    subst hA hX hW hF
    have hw : ¬ w = 0 := by simpa [A0] using h
    refine RetW.ofEq ?_ ?_ <;> simp [FsR0, numR, numL, hw]
  · have hw : w = 0 := by subst hA; simpa [A0] using h
    subst hw
    cbv
    obtain ⟨bs, hxs, hby, hlx, hb, h0, h1, -, -⟩ := isRd_len hp0
    refine loopL (T := fun _ => tabY [39] []) (H := fun _ => [kn_zag F]) (tabY_ok _ _) hH follows_mixed hA hX (fun x : Int × Int × Int => NumI bs a x.1 x.2.1 x.2.2)
      (fun x => [(0, .ref 0 0 0), (3, .d (.sc (.int .i64 a))), (4, .d (.sc (.int .u64 x.2.2))), (5, .d (.sc (.int .i64 x.2.1)))]) (fun x => [rdB 95 xs x.1 0])
      (fun x => bs.length - x.1.toNat) (a, 0, 0) ?_ ?_ ?_
    · exact ⟨0, 0, rfl, rfl, by simp, by omega, by simp, by simpa using h1, by simp⟩
    · subst hF
      exact told_less (by simp [toldP, getS])
    rintro R ⟨p, i, u⟩ hR hinv
    cbv
    repeat' first
      | (refine part (fun h => ?_) (fun h => ?_) <;> try cbv)
      | (refine And.intro ?_ ?_)
      | (with_reducible refine callB hX hB ?_) <;> cbv
    all_goals subst hR hA hX hW hF
    all_goals try (show Region.lexB _ _ = true; kernel_rfl)
    all_goals replace hinv : NumI bs a p i u := hinv
    all_goals obtain ⟨n, m, hi, hu, hp, i1, i2, i3, i4⟩ := hinv
    all_goals have hrow := isRd_row (xs := xs) (a := p) (w := 0) ⟨⟨bs, hxs, hb⟩, by omega, by omega, by omega, by omega⟩
    all_goals subst hi hu
    all_goals have e7 : IntKind.wrap .i64 (7 * (n : Int)) = ((7 * n : Nat) : Int) := by rw [wrap_i64 (by unfold r64; omega)]; omega
    all_goals have e7u : IntKind.wrap .u64 ((7 * n : Nat) : Int) = ((7 * n : Nat) : Int) := wrap64_of (by omega) (by omega)
    all_goals have ep : IntKind.wrap .i64 (p + 1) = p + 1 := wrap_i64 (by unfold r64; omega)
    all_goals have ei : IntKind.wrap .i64 ((n : Int) + 1) = ((n + 1 : Nat) : Int) := by rw [wrap_i64 (by unfold r64; omega)]; omega
    all_goals have epp : IntKind.wrap .i64 (a + (n : Int)) = p := by rw [wrap_i64 (by unfold r64; omega)]; omega
    all_goals rcases hrow with ⟨hpe, hn⟩ | ⟨b, c, hbc, hc, hpl, hn, hr⟩
    all_goals simp only [A0, FsR0, err0, e7, e7u, epp, ep, ei, decide_eq_true_eq, decide_eq_false_iff_not, Bool.not_eq_true', Bool.not_eq_false', Bool.and_eq_true] at *
    all_goals try simp only [hr, List.map_cons, List.getElem?_cons_zero, e7, e7u, epp, ep, ei] at *
    all_goals first
      | assumption
      | omega
      | exact id
      | exact hp0.at trivial (by omega) (by omega)
      | (intros; first | assumption | trivial | (simp_all; done))
      | (have e := num_short hby i4 (by omega)
         refine RetW.ofEq ?_ ?_ <;> rw [e])
      | (have hcf : (0 < n ∧ c = 0) ∨ (n = 9 ∧ 1 < c) := by
           simp at h
           omega
         have e := num_form hby i4 (b := b) (by rw [← hby, ← hn]; congr 1; omega) hbc hcf
         refine RetW.ofEq ?_ ?_ <;> rw [e])
      | (rintro ⟨h2, h3⟩; exact ⟨h2, by simp [h3]⟩)
      | (intro h2; rw [h2]; rfl)
      | (have hz := ‹(_ : Bool) = false›
         have hcn : ¬ ((0 < n ∧ c = 0) ∨ (n = 9 ∧ 1 < c)) := by
           simp at hz
           omega
         have hl := lay m n c hc i1 i2 (by omega)
         first
           | (rw [hl.1]; exact ⟨by omega, by omega⟩)
           | (have e := num_num hby i4 (b := b) (by rw [← hby, ← hn]; congr 1; omega) hbc hcn (by omega)
              rw [hl.1]
              refine RetW.ofEq ?_ ?_ <;> rw [e]
              try rw [hp])
           | (refine ⟨(p + 1, ((n + 1 : Nat) : Int), ((m + c % 128 * 2 ^ (7 * n) : Nat) : Int)), ⟨n + 1, _, rfl, rfl, by simp only; omega, by omega, lay_more m n c i2, by omega, num_next i4 (b := b) (by rw [← hby, ← hn]; congr 1; omega) hbc hcn (by omega)⟩, by simp only; omega, told_less ?_⟩
              simp only [hl.1]
              simp [toldP, getS])
           | skip)
def kb_pNum (F : FsR) : FuncId × (List DV → Store → SV) := (36, fun args st => match args with
  | [.ref b ver o] => (match st[b]? with
    | some ⟨t, [.d (.slc 1 xs), .d (.sc (.int .i64 a)), .d (.sc (.int .i64 w))], false, v, true⟩ => (bif (ver == 0) && (o == 0) && (v == 0) && (t == 95) then some ([F.rd xs a w], .d (.sc (.int .i64 (F.num xs a w).1)), st.set b (rdB 95 xs (F.num xs a w).2.1 (F.num xs a w).2.2)) else none)
    | _ => none)
  | _ => none)
theorem okb_pNum (args : List DV) (st : Store) (cs : List Prop) (r : DV) (st' : Store) (h : (kb_pNum FsR0).2 args st = some (cs, r, st')) (hc : allP cs True) (K : DV → Store → Prop) (hk : K r st') : FnD Try.prog 36 args st K := by
  unfold kb_pNum at h
  simp only at h
  split at h
  · split at h
    · rename_i hb
      simp only [cond_eq_ite, Bool.and_eq_true, beq_iff_eq, Option.ite_none_right_eq_some] at h
      obtain ⟨⟨⟨⟨rfl, rfl⟩, rfl⟩, rfl⟩, h⟩ := h
      cases h
      exact FnD.one _ (v_pNum _ _ _ hc.1) hb rfl rfl rfl rfl hk
    · cases h
  · cases h
set_option maxRecDepth 100000 in
theorem v_rNum (xs : List (List PD)) (a w : Int) (hp0 : FsR0.rd xs a w) : FnD Try.prog 59 [.ref 0 0 0] [rdB 59 xs a w] (fun r st' => r = .d (.sc (.int .i64 (FsR0.num xs a w).1)) ∧ st' = [rdB 59 xs (FsR0.num xs a w).2.1 (FsR0.num xs a w).2.2]) := by
  obtain ⟨F, hF⟩ : ∃ F, F = FsR0 := ⟨_, rfl⟩
  have hH : SoundK Try.prog [kn_zag2 F] := by subst hF; exact orK_ok ok_zag2 noK_ok
  have hB : SoundB Try.prog [kb_rfail F] := by subst hF; exact orB_ok okb_rfail noB_ok
  refine FnD_cbv (T := fun _ => tabY [37] []) (H := fun _ => [kn_zag2 F]) (tabY_ok _ _) hH follows_mixed Try.func59 rfl Try.ntmps59 (by simp) fun A X W hA hX hW => ?_
  cbv
  refine part (fun h => ?_) (fun h => ?_)
  · cbv
    subst hA hX hW hF
    have hw : ¬ w = 0 := by simpa [A0] using h
    refine RetW.ofEq ?_ ?_ <;> simp [FsR0, numR, numL, hw]
  · have hw : w = 0 := by subst hA; simpa [A0] using h
    subst hw
    cbv
    obtain ⟨bs, hxs, hby, hlx, hb, h0, h1, -, -⟩ := isRd_len hp0
    refine loopL (T := fun _ => tabY [37] []) (H := fun _ => [kn_zag2 F]) (tabY_ok _ _) hH follows_mixed hA hX (fun x : Int × Int × Int => NumI bs a x.1 x.2.1 x.2.2)
      (fun x => [(0, .ref 0 0 0), (3, .d (.sc (.int .u64 x.2.2))), (4, .d (.sc (.int .i64 x.2.1)))]) (fun x => [rdB 59 xs a 0])
      (fun x => bs.length - x.1.toNat) (a, 0, 0) ?_ ?_ ?_
    · exact ⟨0, 0, rfl, rfl, by simp, by omega, by simp, by simpa using h1, by simp⟩
    · subst hF
      exact told_less (by simp [toldP, getS])
    rintro R ⟨p, i, u⟩ hR hinv
    cbv
    repeat' first
      | (refine part (fun h => ?_) (fun h => ?_) <;> try cbv)
      | (refine And.intro ?_ ?_)
      | (with_reducible refine callB hX hB ?_) <;> cbv
    all_goals subst hR hA hX hW hF
    all_goals try (show Region.lexB _ _ = true; kernel_rfl)
    all_goals replace hinv : NumI bs a p i u := hinv
    all_goals obtain ⟨n, m, hi, hu, hp, i1, i2, i3, i4⟩ := hinv
    all_goals have hrow := isRd_row (xs := xs) (a := p) (w := 0) ⟨⟨bs, hxs, hb⟩, by omega, by omega, by omega, by omega⟩
    all_goals subst hi hu
    all_goals have e7 : IntKind.wrap .i64 (7 * (n : Int)) = ((7 * n : Nat) : Int) := by rw [wrap_i64 (by unfold r64; omega)]; omega
    all_goals have e7u : IntKind.wrap .u64 ((7 * n : Nat) : Int) = ((7 * n : Nat) : Int) := wrap64_of (by omega) (by omega)
    all_goals have ep : IntKind.wrap .i64 (p + 1) = p + 1 := wrap_i64 (by unfold r64; omega)
    all_goals have ei : IntKind.wrap .i64 ((n : Int) + 1) = ((n + 1 : Nat) : Int) := by rw [wrap_i64 (by unfold r64; omega)]; omega
    all_goals have epp : IntKind.wrap .i64 (a + (n : Int)) = p := by rw [wrap_i64 (by unfold r64; omega)]; omega
    all_goals rcases hrow with ⟨hpe, hn⟩ | ⟨b, c, hbc, hc, hpl, hn, hr⟩
    all_goals simp only [A0, FsR0, err0, e7, e7u, epp, ep, ei, decide_eq_true_eq, decide_eq_false_iff_not, Bool.not_eq_true', Bool.not_eq_false', Bool.and_eq_true] at *
    all_goals try simp only [hr, List.map_cons, List.getElem?_cons_zero, e7, e7u, epp, ep, ei] at *
    all_goals first
      | assumption
      | omega
      | exact id
      | exact hp0.at trivial (by omega) (by omega)
      | (intros; first | assumption | trivial | (simp_all; done))
      | (have e := num_short hby i4 (by omega)
         refine RetW.ofEq ?_ ?_ <;> rw [e])
      | (have hcf : (0 < n ∧ c = 0) ∨ (n = 9 ∧ 1 < c) := by
           simp at h
           omega
         have e := num_form hby i4 (b := b) (by rw [← hby, ← hn]; congr 1; omega) hbc hcf
         refine RetW.ofEq ?_ ?_ <;> rw [e])
      | (rintro ⟨h2, h3⟩; exact ⟨h2, by simp [h3]⟩)
      | (intro h2; rw [h2]; rfl)
      | (have hz := ‹(_ : Bool) = false›
         have hcn : ¬ ((0 < n ∧ c = 0) ∨ (n = 9 ∧ 1 < c)) := by
           simp at hz
           omega
         have hl := lay m n c hc i1 i2 (by omega)
         first
           | (rw [hl.1]; exact ⟨by omega, by omega⟩)
           | (have e := num_num hby i4 (b := b) (by rw [← hby, ← hn]; congr 1; omega) hbc hcn (by omega)
              rw [hl.1]
              refine RetW.ofEq ?_ ?_ <;> rw [e]
              try rw [hp])
           | (refine ⟨(p + 1, ((n + 1 : Nat) : Int), ((m + c % 128 * 2 ^ (7 * n) : Nat) : Int)), ⟨n + 1, _, rfl, rfl, by simp only; omega, by omega, lay_more m n c i2, by omega, num_next i4 (b := b) (by rw [← hby, ← hn]; congr 1; omega) hbc hcn (by omega)⟩, by simp only; omega, told_less ?_⟩
              simp only [hl.1]
              simp [toldP, getS])
           | skip)
def kb_rNum (F : FsR) : FuncId × (List DV → Store → SV) := (59, fun args st => match args with
  | [.ref b ver o] => (match st[b]? with
    | some ⟨t, [.d (.slc 1 xs), .d (.sc (.int .i64 a)), .d (.sc (.int .i64 w))], false, v, true⟩ => (bif (ver == 0) && (o == 0) && (v == 0) && (t == 59) then some ([F.rd xs a w], .d (.sc (.int .i64 (F.num xs a w).1)), st.set b (rdB 59 xs (F.num xs a w).2.1 (F.num xs a w).2.2)) else none)
    | _ => none)
  | _ => none)
theorem okb_rNum (args : List DV) (st : Store) (cs : List Prop) (r : DV) (st' : Store) (h : (kb_rNum FsR0).2 args st = some (cs, r, st')) (hc : allP cs True) (K : DV → Store → Prop) (hk : K r st') : FnD Try.prog 59 args st K := by
  unfold kb_rNum at h
  simp only at h
  split at h
  · split at h
    · rename_i hb
      simp only [cond_eq_ite, Bool.and_eq_true, beq_iff_eq, Option.ite_none_right_eq_some] at h
      obtain ⟨⟨⟨⟨rfl, rfl⟩, rfl⟩, rfl⟩, h⟩ := h
      cases h
      exact FnD.one _ (v_rNum _ _ _ hc.1) hb rfl rfl rfl rfl hk
    · cases h
  · cases h
end Go.Proofs.Ytbhapclaochcnaa
namespace Go.Proofs.Ytbhapclaochcnaa
open Go.RowKit
set_option linter.all false
theorem num_rd {xs : List (List PD)} {a w : Int} (h : isRd xs a w) : isRd xs (numR xs a w).2.1 (numR xs a w).2.2 ∧ ((numR xs a w).2.2 ≠ 0 → (numR xs a w).1 = 0) ∧ r64 (numR xs a w).1 := by
  obtain ⟨bs, hxs, hby, hlx, hb, h0, h1, hw0, hw1⟩ := isRd_len h
  unfold numR numL
  rw [hby]
  by_cases hw : w ≠ 0
  · rw [if_pos hw]; exact ⟨h, fun _ => rfl, by simp [r64]⟩
  · rw [if_neg hw]
    cases hs : sev 0 0 (bs.drop a.toNat) with
    | short => exact ⟨h.at trivial (by simp only; omega) (by simp only; omega), fun _ => rfl, by simp [r64]⟩
    | form => exact ⟨h.at trivial (by simp only; omega) (by simp only; omega), fun _ => rfl, by simp [r64]⟩
    | num u k =>
      have hl := sev_lt _ 0 0 (by omega) (by simp) u k hs
      rw [List.length_drop] at hl
      exact ⟨h.at trivial (by simp only; omega) (by simp only; omega), fun e => absurd rfl e, zag_range _ ⟨by omega, by omega⟩⟩
theorem cnt_eq (xs : List (List PD)) (a w most : Int) : cntR xs a w most = if (numR xs a w).2.2 = 0 ∧ ((numR xs a w).1 < 0 ∨ most < (numR xs a w).1) then (0, a, 2) else numR xs a w := rfl
set_option maxRecDepth 100000 in
theorem v_pCount (xs : List (List PD)) (a w : Int) (most : Int) (hp0 : FsR0.rd xs a w) : FnD Try.prog 83 [.ref 0 0 0, .d (.sc (.int .i64 most))] [rdB 95 xs a w] (fun r st' => r = .d (.sc (.int .i64 (FsR0.cnt xs a w most).1)) ∧ st' = [rdB 95 xs (FsR0.cnt xs a w most).2.1 (FsR0.cnt xs a w most).2.2]) := by
  obtain ⟨F, hF⟩ : ∃ F, F = FsR0 := ⟨_, rfl⟩
  have hB : SoundB Try.prog [kb_pNum F, kb_pfail F] := by subst hF; exact orB_ok okb_pNum (orB_ok okb_pfail noB_ok)
  refine FnD_cbv (T := fun _ => tabY [] []) (H := fun _ => []) (tabY_ok _ _) noK_ok follows_mixed Try.func83 rfl Try.ntmps83 (by simp) fun A X W hA hX hW => ?_
  cbv
  repeat' first
    | (refine part (fun h => ?_) (fun h => ?_) <;> try cbv)
    | (refine And.intro ?_ ?_)
    | (with_reducible refine callB hX hB ?_) <;> cbv
  all_goals subst hA hX hW hF
  all_goals have hn := num_rd hp0
  all_goals try (show Region.lexB _ _ = true; kernel_rfl)
  all_goals try (show turnsB _ = true; kernel_rfl)
  all_goals simp only [A0, FsR0, decide_eq_true_eq, decide_eq_false_iff_not, Bool.not_eq_true', Bool.not_eq_false', Bool.and_eq_true] at *
  all_goals try simp only [cnt_eq]
  all_goals generalize hq : numR xs a w = q at *
  all_goals obtain ⟨n, a', w'⟩ := q
  all_goals try simp only at *
  all_goals first
    | assumption
    | exact hn.1
    | exact ⟨hp0.1, hp0.2.1, hp0.2.2.1, hn.1.2.2.2⟩
    | exact id
    | (intros; first | assumption | trivial | (simp_all; done))
    | (refine RetW.ofEq ?_ ?_ <;> (simp_all; done))
    | (refine RetW.ofEq ?_ ?_ <;> grind [errR])
def kb_pCount (F : FsR) : FuncId × (List DV → Store → SV) := (83, fun args st => match args with
  | [.ref b ver o, .d (.sc (.int .i64 most))] => (match st[b]? with
    | some ⟨t, [.d (.slc 1 xs), .d (.sc (.int .i64 a)), .d (.sc (.int .i64 w))], false, v, true⟩ => (bif (ver == 0) && (o == 0) && (v == 0) && (t == 95) then some ([F.rd xs a w], .d (.sc (.int .i64 (F.cnt xs a w most).1)), st.set b (rdB 95 xs (F.cnt xs a w most).2.1 (F.cnt xs a w most).2.2)) else none)
    | _ => none)
  | _ => none)
theorem okb_pCount (args : List DV) (st : Store) (cs : List Prop) (r : DV) (st' : Store) (h : (kb_pCount FsR0).2 args st = some (cs, r, st')) (hc : allP cs True) (K : DV → Store → Prop) (hk : K r st') : FnD Try.prog 83 args st K := by
  unfold kb_pCount at h
  simp only at h
  split at h
  · split at h
    · rename_i hb
      simp only [cond_eq_ite, Bool.and_eq_true, beq_iff_eq, Option.ite_none_right_eq_some] at h
      obtain ⟨⟨⟨⟨rfl, rfl⟩, rfl⟩, rfl⟩, h⟩ := h
      cases h
      exact FnD.one _ (v_pCount _ _ _ _ hc.1) hb rfl rfl rfl rfl hk
    · cases h
  · cases h
theorem cnt_rd {xs : List (List PD)} {a w : Int} (most : Int) (h : isRd xs a w) : isRd xs (cntR xs a w most).2.1 (cntR xs a w most).2.2 ∧ ((cntR xs a w most).2.2 ≠ 0 → (cntR xs a w most).1 = 0) ∧ r64 (cntR xs a w most).1 ∧ ((cntR xs a w most).2.2 = 0 → 0 ≤ (cntR xs a w most).1) := by
  have hn := num_rd h
  rw [cnt_eq]
  split
  · exact ⟨⟨h.1, h.2.1, h.2.2.1, by simp, by simp⟩, fun _ => rfl, by simp [r64], fun _ => by simp⟩
  · rename_i hc
    exact ⟨hn.1, hn.2.1, hn.2.2, fun e => by omega⟩
theorem text_eq (xs : List (List PD)) (a w most : Int) : textR xs a w most = if (cntR xs a w most).2.2 ≠ 0 then (.empty, (cntR xs a w most).2.1, (cntR xs a w most).2.2) else
    if ((bytesOf xs).length : Int) - (cntR xs a w most).2.1 < (cntR xs a w most).1 then (.empty, a, 3) else
      (⟨(((bytesOf xs).drop (cntR xs a w most).2.1.toNat).take (cntR xs a w most).1.toNat).toArray⟩, (cntR xs a w most).2.1 + (cntR xs a w most).1, 0) := rfl
theorem text_eqN (xs : List (List PD)) (a w most : Int) : textR xs a w most = if (numR xs a w).2.2 ≠ 0 then (.empty, (numR xs a w).2.1, (numR xs a w).2.2) else
    if (numR xs a w).1 < 0 ∨ most < (numR xs a w).1 then (.empty, a, 2) else
    if ((bytesOf xs).length : Int) - (numR xs a w).2.1 < (numR xs a w).1 then (.empty, a, 3) else
      (⟨(((bytesOf xs).drop (numR xs a w).2.1.toNat).take (numR xs a w).1.toNat).toArray⟩, (numR xs a w).2.1 + (numR xs a w).1, 0) := by
  rw [text_eq, cnt_eq]
  by_cases h0 : (numR xs a w).2.2 = 0
  · by_cases h1 : (numR xs a w).1 < 0 ∨ most < (numR xs a w).1
    · simp [h0, h1]
    · simp [h0, h1]
  · simp [h0]
theorem num_bad {xs : List (List PD)} {a w : Int} (h : (numR xs a w).2.2 ≠ 0) : (numR xs a w).2.1 = a := by
  unfold numR numL at h ⊢
  split
  · rfl
  · rename_i hw
    rw [if_neg hw] at h
    split at h <;> first
      | rfl
      | exact absurd rfl h
theorem bor (a b : Bool) : (bif a then true else b) = (a || b) := by cases a <;> rfl
set_option maxRecDepth 100000 in
theorem v_pText (xs : List (List PD)) (a w : Int) (most : Int) (hp0 : FsR0.rd xs a w) : FnD Try.prog 76 [.ref 0 0 0, .d (.sc (.int .i64 most))] [rdB 95 xs a w] (fun r st' => r = .d (.sc (.string (FsR0.text xs a w most).1)) ∧ st' = [rdB 95 xs (FsR0.text xs a w most).2.1 (FsR0.text xs a w most).2.2]) := by
  obtain ⟨F, hF⟩ : ∃ F, F = FsR0 := ⟨_, rfl⟩
  have hB : SoundB Try.prog [kb_pCount F, kb_pfail F] := by subst hF; exact orB_ok okb_pCount (orB_ok okb_pfail noB_ok)
  refine FnD_cbv (T := fun _ => tabY [] []) (H := fun _ => []) (tabY_ok _ _) noK_ok follows_mixed Try.func76 rfl Try.ntmps76 (by simp) fun A X W hA hX hW => ?_
  cbv
  repeat' first
    | (refine part (fun h => ?_) (fun h => ?_) <;> try cbv)
    | (refine And.intro ?_ ?_)
    | (with_reducible refine callB hX hB ?_) <;> cbv
  all_goals subst hA hX hW hF
  all_goals obtain ⟨bs, hxs, hby, hlx, hb, h0, h1, hw0, hw1⟩ := isRd_len hp0
  all_goals have hn := cnt_rd most hp0
  all_goals try (show Region.lexB _ _ = true; kernel_rfl)
  all_goals try (show turnsB _ = true; kernel_rfl)
  all_goals simp only [A0, FsR0, decide_eq_true_eq, decide_eq_false_iff_not, Bool.not_eq_true', Bool.not_eq_false', Bool.and_eq_true] at *
  all_goals have hbl : (bytesOf xs).length = xs.length := by rw [hby, hlx]
  all_goals have heq := text_eq xs a w most
  all_goals have hbad := trivial
  all_goals generalize hq : cntR xs a w most = q at *
  all_goals obtain ⟨n, a', w'⟩ := q
  all_goals try simp only at *
  all_goals have h5 := hn.1.2.1
  all_goals have h6 := hn.1.2.2.1
  all_goals have h7 := hn.2.2.2
  all_goals have ws : IntKind.wrap .i64 ((xs.length : Int) - a') = xs.length - a' := wrap_i64 (by unfold r64; omega)
  all_goals simp only [ws, bor, Bool.or_eq_true, Bool.or_eq_false_iff, decide_eq_true_eq, decide_eq_false_iff_not] at *
  all_goals first
    | assumption
    | exact hn.1
    | exact ⟨hp0.1, hp0.2.1, hp0.2.2.1, hn.1.2.2.2⟩
    | exact id
    | (intros; first | assumption | trivial | (simp_all; done))
    | exact ⟨_, by rw [hxs, bytesP_drop, bytesP_take]⟩
    | (have wa : IntKind.wrap .i64 (a' + n) = a' + n := wrap_i64 (by unfold r64; omega)
       rw [wa]; omega)
    | (exfalso; simp [errR] at *; omega)
    | (exfalso; simp_all [errR]; done)
    | (have e : textR xs a w most = (.empty, a', w') := by rw [heq]; grind
       refine RetW.ofEq ?_ ?_ <;> rw [e] <;> first | rfl | (simp_all [errR]; done))
    | (have e : textR xs a w most = (.empty, a, 2) := by rw [heq]; grind
       refine RetW.ofEq ?_ ?_ <;> rw [e] <;> first | rfl | (simp_all [errR]; done))
    | (have e : textR xs a w most = (.empty, a, 3) := by rw [heq]; grind
       refine RetW.ofEq ?_ ?_ <;> rw [e] <;> first | rfl | (simp_all [errR]; done))
    | (have wa : IntKind.wrap .i64 (a' + n) = a' + n := wrap_i64 (by unfold r64; omega)
       have ht : (a' + n).toNat - a'.toNat = n.toNat := by omega
       have e : textR xs a w most = (⟨(((bytesOf xs).drop a'.toNat).take n.toNat).toArray⟩, a' + n, 0) := by rw [heq]; grind
       have e0 : w' = 0 := by omega
       refine RetW.ofEq ?_ ?_ <;> simp only [wa, ht, e, e0, bytesOf, List.map_take, List.map_drop])
def kb_pText (F : FsR) : FuncId × (List DV → Store → SV) := (76, fun args st => match args with
  | [.ref b ver o, .d (.sc (.int .i64 most))] => (match st[b]? with
    | some ⟨t, [.d (.slc 1 xs), .d (.sc (.int .i64 a)), .d (.sc (.int .i64 w))], false, v, true⟩ => (bif (ver == 0) && (o == 0) && (v == 0) && (t == 95) then some ([F.rd xs a w], .d (.sc (.string (F.text xs a w most).1)), st.set b (rdB 95 xs (F.text xs a w most).2.1 (F.text xs a w most).2.2)) else none)
    | _ => none)
  | _ => none)
theorem okb_pText (args : List DV) (st : Store) (cs : List Prop) (r : DV) (st' : Store) (h : (kb_pText FsR0).2 args st = some (cs, r, st')) (hc : allP cs True) (K : DV → Store → Prop) (hk : K r st') : FnD Try.prog 76 args st K := by
  unfold kb_pText at h
  simp only at h
  split at h
  · split at h
    · rename_i hb
      simp only [cond_eq_ite, Bool.and_eq_true, beq_iff_eq, Option.ite_none_right_eq_some] at h
      obtain ⟨⟨⟨⟨rfl, rfl⟩, rfl⟩, rfl⟩, h⟩ := h
      cases h
      exact FnD.one _ (v_pText _ _ _ _ hc.1) hb rfl rfl rfl rfl hk
    · cases h
  · cases h
set_option maxRecDepth 100000 in
theorem v_rText (xs : List (List PD)) (a w : Int) (most : Int) (hp0 : FsR0.rd xs a w) : FnD Try.prog 64 [.ref 0 0 0, .d (.sc (.int .i64 most))] [rdB 59 xs a w] (fun r st' => r = .d (.sc (.string (FsR0.text xs a w most).1)) ∧ st' = [rdB 59 xs (FsR0.text xs a w most).2.1 (FsR0.text xs a w most).2.2]) := by
  obtain ⟨F, hF⟩ : ∃ F, F = FsR0 := ⟨_, rfl⟩
  have hB : SoundB Try.prog [kb_rNum F, kb_rfail F] := by subst hF; exact orB_ok okb_rNum (orB_ok okb_rfail noB_ok)
  refine FnD_cbv (T := fun _ => tabY [] []) (H := fun _ => []) (tabY_ok _ _) noK_ok follows_mixed Try.func64 rfl Try.ntmps64 (by simp) fun A X W hA hX hW => ?_
  cbv
  repeat' first
    | (refine part (fun h => ?_) (fun h => ?_) <;> try cbv)
    | (refine And.intro ?_ ?_)
    | (with_reducible refine callB hX hB ?_) <;> cbv
  all_goals subst hA hX hW hF
  all_goals obtain ⟨bs, hxs, hby, hlx, hb, h0, h1, hw0, hw1⟩ := isRd_len hp0
  all_goals have hn := num_rd hp0
  all_goals try (show Region.lexB _ _ = true; kernel_rfl)
  all_goals try (show turnsB _ = true; kernel_rfl)
  all_goals simp only [A0, FsR0, decide_eq_true_eq, decide_eq_false_iff_not, Bool.not_eq_true', Bool.not_eq_false', Bool.and_eq_true] at *
  all_goals have hbl : (bytesOf xs).length = xs.length := by rw [hby, hlx]
  all_goals have heq := text_eqN xs a w most
  all_goals have hbad := @num_bad xs a w
  all_goals generalize hq : numR xs a w = q at *
  all_goals obtain ⟨n, a', w'⟩ := q
  all_goals try simp only at *
  all_goals have h5 := hn.1.2.1
  all_goals have h6 := hn.1.2.2.1
  all_goals have h7 := trivial
  all_goals have ws : IntKind.wrap .i64 ((xs.length : Int) - a') = xs.length - a' := wrap_i64 (by unfold r64; omega)
  all_goals simp only [ws, bor, Bool.or_eq_true, Bool.or_eq_false_iff, decide_eq_true_eq, decide_eq_false_iff_not] at *
  all_goals first
    | assumption
    | exact hn.1
    | exact ⟨hp0.1, hp0.2.1, hp0.2.2.1, hn.1.2.2.2⟩
    | exact id
    | (intros; first | assumption | trivial | (simp_all; done))
    | exact ⟨_, by rw [hxs, bytesP_drop, bytesP_take]⟩
    | (have wa : IntKind.wrap .i64 (a' + n) = a' + n := wrap_i64 (by unfold r64; omega)
       rw [wa]; omega)
    | (exfalso; simp [errR] at *; omega)
    | (exfalso; simp_all [errR]; done)
    | (have e : textR xs a w most = (.empty, a', w') := by rw [heq]; grind
       refine RetW.ofEq ?_ ?_ <;> rw [e] <;> first | rfl | (simp_all [errR]; done))
    | (have e : textR xs a w most = (.empty, a, 2) := by rw [heq]; grind
       refine RetW.ofEq ?_ ?_ <;> rw [e] <;> first | rfl | (simp_all [errR]; done))
    | (have e : textR xs a w most = (.empty, a, 3) := by rw [heq]; grind
       refine RetW.ofEq ?_ ?_ <;> rw [e] <;> first | rfl | (simp_all [errR]; done))
    | (have wa : IntKind.wrap .i64 (a' + n) = a' + n := wrap_i64 (by unfold r64; omega)
       have ht : (a' + n).toNat - a'.toNat = n.toNat := by omega
       have e : textR xs a w most = (⟨(((bytesOf xs).drop a'.toNat).take n.toNat).toArray⟩, a' + n, 0) := by rw [heq]; grind
       have e0 : w' = 0 := by omega
       refine RetW.ofEq ?_ ?_ <;> simp only [wa, ht, e, e0, bytesOf, List.map_take, List.map_drop])
def kb_rText (F : FsR) : FuncId × (List DV → Store → SV) := (64, fun args st => match args with
  | [.ref b ver o, .d (.sc (.int .i64 most))] => (match st[b]? with
    | some ⟨t, [.d (.slc 1 xs), .d (.sc (.int .i64 a)), .d (.sc (.int .i64 w))], false, v, true⟩ => (bif (ver == 0) && (o == 0) && (v == 0) && (t == 59) then some ([F.rd xs a w], .d (.sc (.string (F.text xs a w most).1)), st.set b (rdB 59 xs (F.text xs a w most).2.1 (F.text xs a w most).2.2)) else none)
    | _ => none)
  | _ => none)
theorem okb_rText (args : List DV) (st : Store) (cs : List Prop) (r : DV) (st' : Store) (h : (kb_rText FsR0).2 args st = some (cs, r, st')) (hc : allP cs True) (K : DV → Store → Prop) (hk : K r st') : FnD Try.prog 64 args st K := by
  unfold kb_rText at h
  simp only at h
  split at h
  · split at h
    · rename_i hb
      simp only [cond_eq_ite, Bool.and_eq_true, beq_iff_eq, Option.ite_none_right_eq_some] at h
      obtain ⟨⟨⟨⟨rfl, rfl⟩, rfl⟩, rfl⟩, h⟩ := h
      cases h
      exact FnD.one _ (v_rText _ _ _ _ hc.1) hb rfl rfl rfl rfl hk
    · cases h
  · cases h
end Go.Proofs.Ytbhapclaochcnaa
namespace Go.Proofs.Ytbhapclaochcnaa
open Go.RowKit
set_option linter.all false
structure Cmd where
  kind : Int
  client : Int
  seq : Int
  key : ByteArray
  fin : ByteArray
  old : ByteArray
  val : ByteArray
  deriving DecidableEq
def Cmd.D (x : Cmd) : DV := .agg [intD x.kind, intD x.client, intD x.seq, strD x.key, strD x.fin, strD x.old, strD x.val]
structure Span where
  lo : ByteArray
  hi : ByteArray
  deriving DecidableEq
def Span.D (x : Span) : DV := .agg [strD x.lo, strD x.hi]
abbrev none8 : ByteArray := { data := #[] }
def within (n m : Int) : Bool := decide (1 ≤ n) && decide (n ≤ m)
def under (k h : ByteArray) : Bool := decide (h = none8) || ltb k h
def emptyS (s : Span) : Bool := !under s.lo s.hi
theorem bytes1 : ({ data := { toList := [0] } } : ByteArray).size = 1 := rfl
def bare (c : Cmd) : Cmd := { kind := c.kind, client := c.client, seq := c.seq, key := c.key, fin := if c.kind = 5 then c.fin else none8, old := if c.kind = 4 then c.old else none8, val := if c.kind = 2 ∨ c.kind = 4 then c.val else none8 }
def emptyR (s : Span) : Bool := !decide (s.hi = none8) && (ltb s.hi s.lo || decide (s.hi = s.lo))
def meets (a b : Span) : Bool := !emptyS a && !emptyS b && under a.lo b.hi && under b.lo a.hi
def meetsR (a b : Span) : Bool := !emptyR a && !emptyR b && (decide (a.hi = none8) || ltb b.lo a.hi) && (decide (b.hi = none8) || ltb a.lo b.hi)
def spanOf (k : ByteArray) : Span := ⟨k, k ++ { data := #[0] }⟩
def Cmd.zero : Cmd := ⟨0, 0, 0, none8, none8, none8, none8⟩
def rightC (c : Cmd) : Bool := decide (c = .zero) || (within c.kind 5 && within c.client 8 && within c.seq 1099511627776 && decide (c = bare c) && decide (c.key.size ≤ 16) && decide (c.fin.size ≤ 16) && decide (c.old.size ≤ 64) && decide (c.val.size ≤ 64) && (!decide (c.key = none8) || decide (c.kind = 5)))
def rightCR (c : Cmd) : Bool := decide (c = .zero) || (decide (1 ≤ c.kind) && decide (c.kind ≤ 5) && decide (1 ≤ c.client) && decide (c.client ≤ 8) && decide (1 ≤ c.seq) && decide (c.seq ≤ 1099511627776) && decide (c.key.size ≤ 16) && decide (c.fin.size ≤ 16) && decide (c.old.size ≤ 64) && decide (c.val.size ≤ 64) && decide (c = bare c) && (decide (c.kind = 5) || !decide (c.key = none8)))
def keysC (c : Cmd) : Span × Bool := if c.kind = 1 ∨ c.kind = 2 ∨ c.kind = 3 ∨ c.kind = 4 then (spanOf c.key, true) else if c.kind = 5 then (⟨c.key, c.fin⟩, true) else (⟨none8, none8⟩, false)
def writesC (c : Cmd) : Bool := decide (c.kind = 2) || decide (c.kind = 3) || decide (c.kind = 4)
def clashC (a b : Cmd) : Bool := (keysC a).2 && (keysC b).2 && (decide (a.client = b.client) || (writesC a || writesC b) && meets (keysC a).1 (keysC b).1)
def clashR (a b : Cmd) : Bool := (keysC a).2 && (keysC b).2 && (decide (a.client = b.client) || (writesC a || writesC b) && meetsR (keysC a).1 (keysC b).1)
structure Fs5 where
  within : Int → Int → Bool
  under : ByteArray → ByteArray → Bool
  empty : Span → Bool
  emptyR : Span → Bool
  bare : Cmd → Cmd
  meets : Span → Span → Bool
  meetsR : Span → Span → Bool
  spanOf : ByteArray → Span
  right : Cmd → Bool
  rightR : Cmd → Bool
  keys : Cmd → Span × Bool
  writes : Cmd → Bool
  keysR : Cmd → Span × Bool
  writesR : Cmd → Bool
  clash : Cmd → Cmd → Bool
  clashR : Cmd → Cmd → Bool
  sz : ByteArray → Prop
def Fs50 : Fs5 where
  within := within
  under := under
  empty := emptyS
  emptyR := emptyR
  bare := bare
  meets := meets
  meetsR := meetsR
  spanOf := spanOf
  right := rightC
  rightR := rightCR
  keys := keysC
  writes := writesC
  keysR := keysC
  writesR := writesC
  clash := clashC
  clashR := clashR
  sz := fun b => b.size ≤ 4194304
set_option maxRecDepth 100000 in
theorem v_within (n : Int) (m : Int) : FnV Try.prog 78 [intD n, intD m] (boolD ((within n m))) := by
  refine FnD_cbv (T := fun _ => tabY [] []) (H := fun _ => []) (tabY_ok _ _) noK_ok follows_mixed Try.func78 rfl Try.ntmps78 (by simp) fun A X W hA hX hW => ?_
  cbv
  repeat' first
    | (refine part (fun h => ?_) (fun h => ?_) <;> try cbv)
    | (refine And.intro ?_ ?_)
  all_goals subst hA hX hW
  all_goals try (show Region.lexB _ _ = true; kernel_rfl)
  all_goals try (show turnsB _ = true; kernel_rfl)
  all_goals simp only [A0, Fs50, decide_eq_true_eq, decide_eq_false_iff_not, Bool.not_eq_true', Bool.not_eq_false'] at *
  all_goals first
    | (refine ret_v ?_ rfl
       first
         | rfl
         | (simp_all [within, boolD, intD, strD]; done)
         | (simp_all [within, boolD, intD, strD]; rfl)
         | (simp only [within, boolD, intD, strD] at *; congr 3; grind)
         | (simp only [within, boolD, intD, strD] at *; grind))
    | (intros; simp_all [bytes1, maxLen]; done)
    | (intros; simp only [bytes1, maxLen] at *; omega)
    | grind
def kn_within (F : Fs5) : FuncId × (List DV → RV) := (78, fun args => match args with
  | [.d (.sc (.int .i64 n)), .d (.sc (.int .i64 m))] => some ([], boolD ((F.within n m)))
  | _ => none)
theorem ok_within (args : List DV) (cs : List Prop) (r : DV) (h : (kn_within Fs50).2 args = some (cs, r)) (hc : allP cs True) : FnV Try.prog 78 args r ∧ closedL 0 args = true := by
  unfold kn_within at h
  simp only at h
  split at h
  · cases h; exact ⟨v_within _ _, rfl⟩
  · cases h
set_option maxRecDepth 100000 in
theorem v_bare (c : Cmd) : FnV Try.prog 79 [Cmd.D c] (Cmd.D ((bare c))) := by
  obtain ⟨c_kind, c_client, c_seq, c_key, c_fin, c_old, c_val⟩ := c
  refine FnD_cbv (T := fun _ => tabY [] []) (H := fun _ => []) (tabY_ok _ _) noK_ok follows_mixed Try.func79 rfl Try.ntmps79 (by simp) fun A X W hA hX hW => ?_
  cbv
  repeat' first
    | (refine part (fun h => ?_) (fun h => ?_) <;> try cbv)
    | (refine And.intro ?_ ?_)
  all_goals subst hA hX hW
  all_goals try (show Region.lexB _ _ = true; kernel_rfl)
  all_goals try (show turnsB _ = true; kernel_rfl)
  all_goals simp only [A0, Fs50, decide_eq_true_eq, decide_eq_false_iff_not, Bool.not_eq_true', Bool.not_eq_false'] at *
  all_goals first
    | (refine ret_v ?_ rfl
       first
         | rfl
         | (simp_all [bare, Cmd.D, boolD, intD, strD]; done)
         | (simp_all [bare, Cmd.D, boolD, intD, strD]; rfl)
         | (simp only [bare, Cmd.D, boolD, intD, strD] at *; congr 3; grind)
         | (simp only [bare, Cmd.D, boolD, intD, strD] at *; grind))
    | (intros; simp_all [bytes1, maxLen]; done)
    | (intros; simp only [bytes1, maxLen] at *; omega)
    | grind
def kn_bare (F : Fs5) : FuncId × (List DV → RV) := (79, fun args => match args with
  | [.agg [.d (.sc (.int .i64 c_kind)), .d (.sc (.int .i64 c_client)), .d (.sc (.int .i64 c_seq)), .d (.sc (.string c_key)), .d (.sc (.string c_fin)), .d (.sc (.string c_old)), .d (.sc (.string c_val))]] => some ([], Cmd.D ((F.bare ⟨c_kind, c_client, c_seq, c_key, c_fin, c_old, c_val⟩)))
  | _ => none)
theorem ok_bare (args : List DV) (cs : List Prop) (r : DV) (h : (kn_bare Fs50).2 args = some (cs, r)) (hc : allP cs True) : FnV Try.prog 79 args r ∧ closedL 0 args = true := by
  unfold kn_bare at h
  simp only at h
  split at h
  · cases h; exact ⟨v_bare ⟨_, _, _, _, _, _, _⟩, rfl⟩
  · cases h
set_option maxRecDepth 100000 in
theorem v_right (c : Cmd) : FnV Try.prog 49 [Cmd.D c] (boolD ((rightC c))) := by
  obtain ⟨c_kind, c_client, c_seq, c_key, c_fin, c_old, c_val⟩ := c
  obtain ⟨F, hF⟩ : ∃ F, F = Fs50 := ⟨_, rfl⟩
  have hH : SoundK Try.prog [kn_within F, kn_bare F] := by subst hF; exact orK_ok ok_within (orK_ok ok_bare noK_ok)
  refine FnD_cbv (T := fun _ => tabY [] []) (H := fun _ => [kn_within F, kn_bare F]) (tabY_ok _ _) hH follows_mixed Try.func49 rfl Try.ntmps49 (by simp) fun A X W hA hX hW => ?_
  clear hH
  cbv
  repeat' first
    | (refine part (fun h => ?_) (fun h => ?_) <;> try cbv)
    | (refine And.intro ?_ ?_)
  all_goals subst hA hX hW hF
  all_goals try (show Region.lexB _ _ = true; kernel_rfl)
  all_goals try (show turnsB _ = true; kernel_rfl)
  all_goals simp only [A0, Fs50, decide_eq_true_eq, decide_eq_false_iff_not, Bool.not_eq_true', Bool.not_eq_false'] at *
  all_goals first
    | (refine ret_v ?_ rfl
       simp only [rightC, Cmd.zero, bare, within, Cmd.mk.injEq, boolD, Bool.cond_true_left, Bool.cond_false_left, Bool.cond_true_right, Bool.cond_false_right, Bool.or_eq_false_iff, Bool.and_eq_false_imp, Bool.or_eq_true, Bool.and_eq_true, decide_eq_true_eq, decide_eq_false_iff_not, decide_true, Bool.true_and, Bool.and_true] at *
       congr 3
       rw [Bool.eq_iff_iff]
       simp only [Bool.or_eq_true, Bool.and_eq_true, decide_eq_true_eq, Bool.not_eq_true', decide_eq_false_iff_not, Bool.false_eq_true, Bool.true_eq_false] at *
       grind)
    | (intro hq; exact hq)
    | (intro hq; simpa using hq)
    | grind
def kn_right (F : Fs5) : FuncId × (List DV → RV) := (49, fun args => match args with
  | [.agg [.d (.sc (.int .i64 c_kind)), .d (.sc (.int .i64 c_client)), .d (.sc (.int .i64 c_seq)), .d (.sc (.string c_key)), .d (.sc (.string c_fin)), .d (.sc (.string c_old)), .d (.sc (.string c_val))]] => some ([], boolD ((F.right ⟨c_kind, c_client, c_seq, c_key, c_fin, c_old, c_val⟩)))
  | _ => none)
theorem ok_right (args : List DV) (cs : List Prop) (r : DV) (h : (kn_right Fs50).2 args = some (cs, r)) (hc : allP cs True) : FnV Try.prog 49 args r ∧ closedL 0 args = true := by
  unfold kn_right at h
  simp only at h
  split at h
  · cases h; exact ⟨v_right ⟨_, _, _, _, _, _, _⟩, rfl⟩
  · cases h
set_option maxRecDepth 100000 in
theorem v_rightR (c : Cmd) : FnV Try.prog 39 [Cmd.D c] (boolD ((rightCR c))) := by
  obtain ⟨c_kind, c_client, c_seq, c_key, c_fin, c_old, c_val⟩ := c
  refine FnD_cbv (T := fun _ => tabY [] []) (H := fun _ => []) (tabY_ok _ _) noK_ok follows_mixed Try.func39 rfl Try.ntmps39 (by simp) fun A X W hA hX hW => ?_
  cbv
  repeat' first
    | (refine part (fun h => ?_) (fun h => ?_) <;> try cbv)
    | (refine And.intro ?_ ?_)
  all_goals subst hA hX hW
  all_goals try (show Region.lexB _ _ = true; kernel_rfl)
  all_goals try (show turnsB _ = true; kernel_rfl)
  all_goals simp only [A0, Fs50, decide_eq_true_eq, decide_eq_false_iff_not, Bool.not_eq_true', Bool.not_eq_false'] at *
  all_goals first
    | (refine ret_v ?_ rfl
       simp only [rightCR, Cmd.zero, bare, within, Cmd.mk.injEq, boolD, Bool.cond_true_left, Bool.cond_false_left, Bool.cond_true_right, Bool.cond_false_right, Bool.or_eq_false_iff, Bool.and_eq_false_imp, Bool.or_eq_true, Bool.and_eq_true, decide_eq_true_eq, decide_eq_false_iff_not, decide_true, Bool.true_and, Bool.and_true] at *
       congr 3
       rw [Bool.eq_iff_iff]
       simp only [Bool.or_eq_true, Bool.and_eq_true, decide_eq_true_eq, Bool.not_eq_true', decide_eq_false_iff_not, Bool.false_eq_true, Bool.true_eq_false] at *
       grind)
    | (intro hq; exact hq)
    | (intro hq; simpa using hq)
    | grind
def kn_rightR (F : Fs5) : FuncId × (List DV → RV) := (39, fun args => match args with
  | [.agg [.d (.sc (.int .i64 c_kind)), .d (.sc (.int .i64 c_client)), .d (.sc (.int .i64 c_seq)), .d (.sc (.string c_key)), .d (.sc (.string c_fin)), .d (.sc (.string c_old)), .d (.sc (.string c_val))]] => some ([], boolD ((F.rightR ⟨c_kind, c_client, c_seq, c_key, c_fin, c_old, c_val⟩)))
  | _ => none)
theorem ok_rightR (args : List DV) (cs : List Prop) (r : DV) (h : (kn_rightR Fs50).2 args = some (cs, r)) (hc : allP cs True) : FnV Try.prog 39 args r ∧ closedL 0 args = true := by
  unfold kn_rightR at h
  simp only at h
  split at h
  · cases h; exact ⟨v_rightR ⟨_, _, _, _, _, _, _⟩, rfl⟩
  · cases h
end Go.Proofs.Ytbhapclaochcnaa
namespace Go.Proofs.Ytbhapclaochcnaa
open Go.RowKit
set_option linter.all false
def isBk (k : Nat) (xs : List (List PD)) : Prop := ∃ bs, xs = bytesP bs ∧ bs.length ≤ k
theorem isBk.le {k : Nat} {xs : List (List PD)} (h : isBk k xs) (hk : k ≤ 8000000) : isB xs := by
  obtain ⟨bs, h1, h2⟩ := h
  exact ⟨bs, h1, by omega⟩
theorem isBk.num {k : Nat} {xs : List (List PD)} (h : isBk k xs) (n : Int) : isBk (k + 10) (numX xs n) := by
  obtain ⟨bs, rfl, h2⟩ := h
  have := numB_length n
  exact ⟨bs ++ numB n, by simp only [numX, bytesP_append], by rw [List.length_append]; omega⟩
theorem textB_length (s : ByteArray) : (textB s).length ≤ 10 + s.size := by
  have := numB_length (s.size : Int)
  have h2 : s.data.toList.length = s.size := by rw [Array.length_toList]; rfl
  rw [textB, List.length_append, h2]
  omega
theorem isBk.text {k m : Nat} {xs : List (List PD)} (h : isBk k xs) (s : ByteArray) (hs : s.size ≤ m) : isBk (k + (10 + m)) (textX xs s) := by
  obtain ⟨bs, rfl, h2⟩ := h
  have := textB_length s
  exact ⟨bs ++ textB s, by simp only [textX, bytesP_append], by rw [List.length_append]; omega⟩
/-- The bytes of a command. -/
def putB (c : Cmd) : List UInt8 := numB c.kind ++ (if c.kind = 0 then [] else numB c.client ++ (numB c.seq ++ (textB c.key ++ (if c.kind = 2 then textB c.val else if c.kind = 4 then textB c.old ++ textB c.val else if c.kind = 5 then textB c.fin else []))))
noncomputable def putX (xs : List (List PD)) (c : Cmd) : List (List PD) := if rightC c then xs ++ bytesP (putB c) else xs
def okC (c : Cmd) : Prop := r64 c.kind ∧ r64 c.client ∧ r64 c.seq ∧ c.key.size ≤ 1048576 ∧ c.fin.size ≤ 1048576 ∧ c.old.size ≤ 1048576 ∧ c.val.size ≤ 1048576
def ofC (kind client : Int) (key fin : ByteArray) : Cmd := ⟨kind, client, 2, key, fin, none8, none8⟩
structure Fs6 where
  put : List (List PD) → Cmd → List (List PD)
  of : Int → Int → ByteArray → ByteArray → Cmd
  isBk : Nat → List (List PD) → Prop
  okC : Cmd → Prop
  runs : Bool
noncomputable def Fs60 : Fs6 where
  put := putX
  of := ofC
  isBk := isBk
  okC := okC
  runs := true
set_option maxRecDepth 100000 in
theorem v_put (xs : List (List PD)) (c : Cmd) (hp0 : Fs60.isBk 4000000 xs) (hp1 : Fs60.okC c) : FnV Try.prog 33 [.d (.slc 1 xs), Cmd.D c] (.d (.slc 1 (putX xs c))) := by
  obtain ⟨c_kind, c_client, c_seq, c_key, c_fin, c_old, c_val⟩ := c
  obtain ⟨GFs5, hGFs5⟩ : ∃ F, F = Fs50 := ⟨_, rfl⟩
  obtain ⟨GFsQ, hGFsQ⟩ : ∃ F, F = FsQ0 := ⟨_, rfl⟩
  have hH : SoundK Try.prog [kn_right GFs5, kn_num GFsQ, kn_text GFsQ] := by subst hGFs5 hGFsQ; exact orK_ok ok_right (orK_ok ok_num (orK_ok ok_text noK_ok))
  refine FnD_cbv (T := fun _ => tabY [] []) (H := fun _ => [kn_right GFs5, kn_num GFsQ, kn_text GFsQ]) (tabY_ok _ _) hH follows_mixed Try.func33 rfl Try.ntmps33 (by simp) fun A X W hA hX hW => ?_
  clear hH
  cbv
  obtain ⟨bs, hxs, hb⟩ : isBk 4000000 xs := hp0
  obtain ⟨k1, k2, k3, k4, k5, k6, k7⟩ := hp1
  simp only at k1 k2 k3 k4 k5 k6 k7
  have hl : xs.length = bs.length := by rw [hxs]; exact bytesP_length bs
  refine part (fun h => ?_) (fun h => ?_)
  · cbv
    refine appendNilL hX tab_ok (e := 5) (sz := 1) (by8 := 1) (z := [.d (.sc (.int .u8 0))]) (xs := xs) rfl rfl rfl rfl (by decide) rfl rfl ⟨by omega, by omega⟩ (fun e => ?_) (fun cs n hcs hn e => ?_)
    · cbv
      subst hA hX hW hGFs5
      simp only [A0, Fs50, Bool.not_eq_true'] at h
      refine ret_nil (sz := 1) ?_
      simp [putX, h, e]
    · cbv
      subst hA hX hW hGFs5
      simp only [A0, Fs50, Bool.not_eq_true'] at h
      refine ret_bytes (bs := bs) rfl (by omega) (by rw [hcs, hxs]) ?_
      simp [putX, h, hxs]
  · cbv
    have h0 : isBk 4000000 xs := ⟨bs, hxs, hb⟩
    repeat' first
      | (refine part (fun h => ?_) (fun h => ?_) <;> try cbv)
      | (refine And.intro ?_ ?_)
    all_goals subst hA hX hW hGFs5 hGFsQ
    all_goals try (show Region.lexB _ _ = true; kernel_rfl)
    all_goals try (show turnsB _ = true; kernel_rfl)
    all_goals simp only [A0, FsQ0, Fs50, Bool.not_eq_false', decide_eq_true_eq, decide_eq_false_iff_not] at *
    all_goals first
      | exact k1
      | exact k2
      | exact k3
      | (unfold szT; omega)
      | exact h0.le (by omega)
      | exact (h0.num _).le (by omega)
      | exact ((h0.num _).num _).le (by omega)
      | exact (((h0.num _).num _).num _).le (by omega)
      | exact ((((h0.num _).num _).num _).text _ k4).le (by omega)
      | exact (((((h0.num _).num _).num _).text _ k4).text _ k6).le (by omega)
      | (refine ret_v ?_ rfl
         rename_i q1
         first
           | (subst q1; simp [putX, putB, numX, textX, ← bytesP_append, h]; done)
           | (simp_all [putX, putB, numX, textX, ← bytesP_append]; done)
           | (simp [putX, putB, numX, textX, ← bytesP_append, *]; done))
def kn_put (F : Fs6) : FuncId × (List DV → RV) := (33, fun args => match args with
  | [.d (.slc 1 xs), .agg [.d (.sc (.int .i64 c_kind)), .d (.sc (.int .i64 c_client)), .d (.sc (.int .i64 c_seq)), .d (.sc (.string c_key)), .d (.sc (.string c_fin)), .d (.sc (.string c_old)), .d (.sc (.string c_val))]] => some ([F.isBk 4000000 xs, F.okC ⟨c_kind, c_client, c_seq, c_key, c_fin, c_old, c_val⟩], .d (.slc 1 (F.put xs ⟨c_kind, c_client, c_seq, c_key, c_fin, c_old, c_val⟩)))
  | [.d (.sc (.slice none 0 0)), .agg [.d (.sc (.int .i64 c_kind)), .d (.sc (.int .i64 c_client)), .d (.sc (.int .i64 c_seq)), .d (.sc (.string c_key)), .d (.sc (.string c_fin)), .d (.sc (.string c_old)), .d (.sc (.string c_val))]] => some ([F.isBk 4000000 [], F.okC ⟨c_kind, c_client, c_seq, c_key, c_fin, c_old, c_val⟩], .d (.slc 1 (F.put [] ⟨c_kind, c_client, c_seq, c_key, c_fin, c_old, c_val⟩)))
  | _ => none)
theorem ok_put (args : List DV) (cs : List Prop) (r : DV) (h : (kn_put Fs60).2 args = some (cs, r)) (hc : allP cs True) : FnV Try.prog 33 args r ∧ closedL 0 args = true := by
  unfold kn_put at h
  simp only at h
  split at h
  · cases h; exact ⟨v_put _ ⟨_, _, _, _, _, _, _⟩ hc.1 hc.2.1, rfl⟩
  · cases h; exact ⟨FnP.nils (v_put [] ⟨_, _, _, _, _, _, _⟩ hc.1 hc.2.1) ⟨.inr ⟨rfl, _, rfl⟩, ⟨.inl rfl, trivial⟩⟩, rfl⟩
  · cases h
end Go.Proofs.Ytbhapclaochcnaa
