/- Numbers, texts, flags as bytes: what the functions give. No condition. -/
import Derived.Test.YtbhapclaochcnaaAm30
import Derived.Test.YtbhapclaochcnaaTy
namespace Go.Proofs.Ytbhapclaochcnaa
open Go.RowKit
set_option linter.all false

/-- The bytes of a number: sevens of bits, the lowest first. -/
def numF : Nat → Nat → List UInt8
  | 0, _ => []
  | f + 1, u => if u < 128 then [UInt8.ofNat u] else UInt8.ofNat (u % 128 + 128) :: numF f (u / 128)
def zig (n : Int) : Int := if n < 0 then -2 * n - 1 else 2 * n
def numB (n : Int) : List UInt8 := numF 10 (zig n).toNat
def r64 (n : Int) : Prop := -9223372036854775808 ≤ n ∧ n ≤ 9223372036854775807
theorem zig_range {n : Int} (h : r64 n) : 0 ≤ zig n ∧ zig n < 18446744073709551616 := by unfold r64 at h; unfold zig; split <;> omega

structure FsP where
  zig : Int → Int
  r64 : Int → Prop
def FsP0 : FsP where
  zig := zig
  r64 := r64

theorem numF_step (f u : Nat) (h : ¬ u < 128) : numF (f + 1) u = UInt8.ofNat (u % 128 + 128) :: numF f (u / 128) := by rw [numF, if_neg h]
theorem numF_last (f u : Nat) (h : u < 128) : numF (f + 1) u = [UInt8.ofNat u] := by rw [numF, if_pos h]
theorem fdiv128 (u : Nat) : (u : Int).fdiv (2 ^ min (Int.toNat 7) (IntKind.bits .u64)) = ((u / 128 : Nat) : Int) := by
  rw [show (2 : Int) ^ min (Int.toNat 7) (IntKind.bits .u64) = 128 by decide, Int.fdiv_eq_ediv_of_nonneg _ (by omega)]
  rfl
theorem low8 (u : Nat) (h : u < 128) : IntKind.wrap .u8 (u : Int) = ((UInt8.ofNat u).toNat : Int) := by
  simp [IntKind.wrap, IntKind.bits, IntKind.signed]
theorem or128f : ∀ x : Fin 256, bitsV .u8 (· ||| ·) (x.val : Int) 128 = (((UInt8.ofNat (x.val % 128 + 128)).toNat : Nat) : Int) := by decide +kernel
theorem or128 (u : Nat) : bitsV .u8 (· ||| ·) (IntKind.wrap .u8 (u : Int)) 128 = (((UInt8.ofNat (u % 128 + 128)).toNat : Nat) : Int) := by
  have e : IntKind.wrap .u8 (u : Int) = ((u % 256 : Nat) : Int) := by
    simp [IntKind.wrap, IntKind.bits, IntKind.signed]
  rw [e]
  have := or128f ⟨u % 256, Nat.mod_lt _ (by decide)⟩
  simp only at this
  rw [this, show u % 256 % 128 = u % 128 by omega]
theorem wrap64_of {a : Int} (h0 : 0 ≤ a) (h : a < 18446744073709551616) : IntKind.wrap .u64 a = a := by
  simp [IntKind.wrap, IntKind.bits, IntKind.signed]
  omega
theorem xor_zero (a : Int) (h0 : 0 ≤ a) (h : a < 18446744073709551616) : bitsV .u64 (· ^^^ ·) a 0 = a := by
  obtain ⟨n, rfl⟩ := Int.eq_ofNat_of_zero_le h0
  have e : BitVec.ofInt 64 (n : Int) ^^^ BitVec.ofInt 64 0 = BitVec.ofNat 64 n := by
    rw [show BitVec.ofInt 64 0 = 0#64 from rfl, BitVec.xor_zero]
    simp
  show IntKind.wrap .u64 ((BitVec.ofInt 64 (n : Int) ^^^ BitVec.ofInt 64 0).toNat : Int) = n
  rw [e, BitVec.toNat_ofNat, Nat.mod_eq_of_lt (by omega)]
  exact wrap64_of h0 h
theorem xor_ones (a : Int) (h0 : 0 ≤ a) (h : a < 18446744073709551616) : bitsV .u64 (· ^^^ ·) a 18446744073709551615 = 18446744073709551615 - a := by
  obtain ⟨n, rfl⟩ := Int.eq_ofNat_of_zero_le h0
  have e : BitVec.ofInt 64 (n : Int) ^^^ BitVec.ofInt 64 18446744073709551615 = ~~~ (BitVec.ofNat 64 n) := by
    rw [show BitVec.ofInt 64 18446744073709551615 = BitVec.allOnes 64 from rfl, BitVec.xor_allOnes]
    simp
  show IntKind.wrap .u64 ((BitVec.ofInt 64 (n : Int) ^^^ BitVec.ofInt 64 18446744073709551615).toNat : Int) = _
  rw [e, BitVec.toNat_not, BitVec.toNat_ofNat, Nat.mod_eq_of_lt (show n < 2 ^ 64 by omega)]
  rw [wrap64_of (by omega) (by omega)]
  omega
theorem zig_bits (n : Int) (h : r64 n) : bitsV .u64 (· ^^^ ·) (IntKind.wrap .u64 (IntKind.wrap .u64 n * 2 ^ min (Int.toNat 1) (IntKind.bits .u64))) (IntKind.wrap .u64 (n.fdiv (2 ^ min (Int.toNat 63) (IntKind.bits .i64)))) = zig n := by
  have hr := zig_range h
  unfold r64 at h
  have e1 : (2 : Int) ^ min (Int.toNat 1) (IntKind.bits .u64) = 2 := by decide
  have e2 : (2 : Int) ^ min (Int.toNat 63) (IntKind.bits .i64) = 9223372036854775808 := by decide
  rw [e1, e2]
  have hf : n.fdiv 9223372036854775808 = if n < 0 then -1 else 0 := by
    rw [Int.fdiv_eq_ediv_of_nonneg _ (by omega)]
    split <;> omega
  rw [hf]
  unfold zig at hr ⊢
  by_cases hn : n < 0
  · rw [if_pos hn, if_pos hn]
    rw [show IntKind.wrap .u64 (-1) = 18446744073709551615 from by decide]
    have : IntKind.wrap .u64 (IntKind.wrap .u64 n * 2) = 18446744073709551616 + 2 * n := by
      simp [IntKind.wrap, IntKind.bits, IntKind.signed]
      omega
    rw [this, xor_ones _ (by omega) (by omega)]
    omega
  · rw [if_neg hn, if_neg hn]
    rw [show IntKind.wrap .u64 0 = 0 from by decide]
    have : IntKind.wrap .u64 (IntKind.wrap .u64 n * 2) = 2 * n := by
      simp [IntKind.wrap, IntKind.bits, IntKind.signed]
      omega
    rw [this, xor_zero _ (by omega) (by omega)]

set_option maxRecDepth 100000 in
theorem v_zig (n : Int) (hp0 : FsP0.r64 n) : FnV Try.prog 82 [intD n] (.d (.sc (.int .u64 ((zig n))))) := by
  refine FnD_cbv (T := fun _ => tabY [] []) (H := fun _ => []) (tabY_ok _ _) noK_ok follows_mixed Try.func82 rfl Try.ntmps82 (by simp) fun A X W hA hX hW => ?_
  cbv
  repeat' first
    | (refine part (fun h => ?_) (fun h => ?_) <;> try cbv)
    | (refine And.intro ?_ ?_)
  all_goals subst hA hX hW
  all_goals try (show Region.lexB _ _ = true; kernel_rfl)
  all_goals try (show turnsB _ = true; kernel_rfl)
  all_goals simp only [A0, FsP0, decide_eq_true_eq, decide_eq_false_iff_not, Bool.not_eq_true', Bool.not_eq_false'] at *
  all_goals first
    | (refine ret_v ?_ rfl
       rw [zig_bits n hp0])
    | decide
def kn_zig (F : FsP) : FuncId × (List DV → RV) := (82, fun args => match args with
  | [.d (.sc (.int .i64 n))] => some ([F.r64 n], .d (.sc (.int .u64 ((F.zig n)))))
  | _ => none)
theorem ok_zig (args : List DV) (cs : List Prop) (r : DV) (h : (kn_zig FsP0).2 args = some (cs, r)) (hc : allP cs True) : FnV Try.prog 82 args r ∧ closedL 0 args = true := by
  unfold kn_zig at h
  simp only at h
  split at h
  · cases h; exact ⟨v_zig _ hc.1, rfl⟩
  · cases h

theorem w_grown (bs : List UInt8) (xs : List (List PD)) (n : Int) (hxs : xs = bytesP bs) (h0 : 0 ≤ n) (hn : n ≤ 8388608) (hb : bs.length ≤ 8388608) : FnD Try.prog 66 [.d (.slc 1 xs), intD n] [] (fun r st' => ∃ cs m, cs = rowsD (bytesP bs) ∧ m = bs.length ∧ r = .view 1 0 1 0 m ∧ st' = [⟨5, cs, true, 1, true⟩]) := by
  refine FnD_cbv (T := fun _ => tabY [] []) (H := fun _ => []) (tabY_ok _ _) noK_ok follows_mixed Try.func66 rfl Try.ntmps66 (by simp) fun A X W hA hX hW => ?_
  cbv
  have hl : xs.length = bs.length := by rw [hxs]; exact bytesP_length bs
  repeat' first
    | (refine And.intro ?_ ?_)
  all_goals subst hA hX hW
  · simp only [A0]
    rw [hl]
    simp [IntKind.wrap, IntKind.bits, IntKind.signed]
    omega
  · rfl
  · simp [A0]
  · simp only [A0]
    omega
  · refine RetW.refl ⟨_, _, ?_, ?_, rfl, rfl⟩
    · simp [A0, hxs]
    · simp [A0, hl]

theorem w_num (bs : List UInt8) (cs : List DV) (m : Nat) (n : Int) (ver : Nat) (hcs : cs = rowsD (bytesP bs)) (hm : m = bs.length) (hn : r64 n) (hl : bs.length ≤ 8388608) : FnD Try.prog 73 [.view 1 0 ver 0 m, intD n] [⟨5, cs, true, ver, true⟩] (fun r st' => ∃ v cs' m', cs' = rowsD (bytesP (bs ++ numB n)) ∧ m' = (bs ++ numB n).length ∧ r = .view 1 0 v 0 m' ∧ st' = [⟨5, cs', true, v, true⟩]) := by
  obtain ⟨F, hF⟩ : ∃ F, F = FsP0 := ⟨_, rfl⟩
  have hH : SoundK Try.prog [kn_zig F] := by subst hF; exact orK_ok ok_zig noK_ok
  refine FnD_cbv (T := fun _ => tabY [] []) (H := fun _ => [kn_zig F]) (tabY_ok _ _) hH follows_mixed Try.func73 rfl Try.ntmps73 (by simp) fun A X W hA hX hW => ?_
  cbv
  refine And.intro (by subst hF; exact hn) ?_
  refine loopL (T := fun _ => tabY [] []) (H := fun _ => [kn_zig F]) (tabY_ok _ _) hH follows_mixed hA hX (fun x : List DV × Int × Nat × Nat => ∃ (bs1 : List UInt8) (f u : Nat), x.1 = rowsD (bytesP bs1) ∧ x.2.1 = u ∧ x.2.2.2 = bs1.length ∧ bs1 ++ numF (f + 1) u = bs ++ numB n ∧ u < 128 ^ (f + 1) ∧ u < 18446744073709551616 ∧ f + bs1.length ≤ 8388620)
    (fun x => [(0, .view 1 0 x.2.2.1 0 x.2.2.2), (5, .d (.sc (.int .u64 x.2.1)))]) (fun x => [⟨5, x.1, true, x.2.2.1, true⟩])
    (fun x => x.2.1.toNat) (cs, zig n, ver, m) ?_ ?_ ?_
  · have hz := zig_range hn
    have hz2 : ((zig n).toNat : Int) = zig n := Int.toNat_of_nonneg hz.1
    refine ⟨bs, 9, (zig n).toNat, hcs, hz2.symm, hm, rfl, ?_, ?_, ?_⟩
    all_goals omega
  · subst hF
    refine told_less ?_
    simp [toldP, getS, FsP0]
  rintro R ⟨cells, u, v, len⟩ hR ⟨bs1, f, u1, h1, h2, h3, e1, e2, e3, e4⟩
  replace h1 : cells = rowsD (bytesP bs1) := h1
  replace h3 : len = bs1.length := h3
  cbv
  refine part (fun h => ?_) (fun h => ?_)
  · cbv
    repeat' first
      | (refine And.intro ?_ ?_)
    all_goals subst hR hA hX hW hF
    all_goals simp only [A0, decide_eq_true_eq] at h ⊢
    all_goals try (first | rfl | (simp; done) | omega)
    · rw [h1, rowsB_length, h3, Nat.mul_one]
    · replace h2 : u = (u1 : Int) := h2
      subst h2
      have hf : (u1 : Int).fdiv (2 ^ min (Int.toNat 7) (IntKind.bits .u64)) = ((u1 / 128 : Nat) : Int) := fdiv128 u1
      obtain ⟨f1, rfl⟩ : ∃ f1, f = f1 + 1 := by
        cases f with
        | zero => omega
        | succ f1 => exact ⟨f1, rfl⟩
      have hu : u1 / 128 < 128 ^ (f1 + 1) := by
        rw [Nat.pow_succ] at e2
        exact Nat.div_lt_of_lt_mul (by rw [Nat.mul_comm]; exact e2)
      refine ⟨(cells ++ [.d (.sc (.int .u8 ((UInt8.ofNat (u1 % 128 + 128)).toNat : Int)))], ((u1 / 128 : Nat) : Int), v + 1, len + 1), ⟨bs1 ++ [UInt8.ofNat (u1 % 128 + 128)], f1, u1 / 128, ?_, rfl, ?_, ?_, hu, ?_, ?_⟩, ?_, told_keep [0] rfl ?_ ?_⟩
      · simp only [rowsB_append, rowsB_one, h1]
      · simp [h3]
      · rw [← e1, numF_step (f1 + 1) u1 (by omega)]
        simp only [List.append_assoc, List.singleton_append]
      · omega
      · simp only [List.length_append, List.length_singleton]; omega
      · simp only; omega
      · simp only [or128 u1]
        simp [keepSt, pullBox, pullL_eq, h1, pull_rows, pullD]
      · rw [hf]
        simp [toldP, getS, pullD]
  · cbv
    repeat' first
      | (refine And.intro ?_ ?_)
    all_goals subst hR hA hX hW hF
    all_goals simp only [A0, decide_eq_false_iff_not] at h ⊢
    all_goals try (first | rfl | (simp; done) | omega)
    · rw [h1, rowsB_length, h3, Nat.mul_one]
    · replace h2 : u = (u1 : Int) := h2
      subst h2
      have hb : numF (f + 1) u1 = [UInt8.ofNat u1] := by exact numF_last f u1 (by omega)
      rw [hb] at e1
      refine ret_keep [0] rfl ⟨v + 1, _, _, rfl, rfl, ?_, ?_⟩
      · simp [pullD, ← e1, h3]
      · rw [← e1, rowsB_append, rowsB_one, ← h1, low8 u1 (by omega)]
        simp [keepSt, pullBox, pullL_eq, h1, pull_rows, pullD]

theorem numF_length : ∀ (f u : Nat), (numF f u).length ≤ f
  | 0, _ => Nat.le_refl 0
  | f + 1, u => by
      unfold numF
      split
      · simp
      · have := numF_length f (u / 128)
        simp only [List.length_cons]
        omega
theorem numB_length (n : Int) : (numB n).length ≤ 10 := numF_length 10 _
/-- Plain bytes, not too many. -/
def isB (xs : List (List PD)) : Prop := ∃ bs, xs = bytesP bs ∧ bs.length ≤ 8000000
noncomputable def numX (xs : List (List PD)) (n : Int) : List (List PD) := xs ++ bytesP (numB n)
def textB (s : ByteArray) : List UInt8 := numB s.size ++ s.data.toList
noncomputable def textX (xs : List (List PD)) (s : ByteArray) : List (List PD) := xs ++ bytesP (textB s)
noncomputable def flagX (xs : List (List PD)) (b : Bool) : List (List PD) := xs ++ bytesP [if b then 1 else 0]
def szT (s : ByteArray) : Prop := s.size ≤ 4194304
theorem ret_bytes {r : DV} {st : Store} {b ver n ty : Nat} {e : Bool} {cs : List DV} {bs : List UInt8} (hb : st[b]? = some ⟨ty, cs, e, ver, true⟩) (hn : n = bs.length) (hcells : cs = rowsD (bytesP bs)) (hr : r = .d (.slc 1 (bytesP bs))) :
    RetW 0 (fun x st => st = [] ∧ pureD x = true ∧ x = r) (.view 1 b ver 0 n) st :=
  ret_slice hb rfl rfl (by rw [bytesP_length]; exact hn) hcells (by intro x hx; simp only [bytesP, List.mem_map] at hx; obtain ⟨_, _, rfl⟩ := hx; rfl) hr

def within3 (n lo hi : Int) : Int := lo + n % (hi - lo + 1)
def span3 (lo hi : Int) : Prop := lo ≤ hi ∧ -1099511627776 ≤ lo ∧ hi ≤ 1099511627776
noncomputable def sameX (xs ys : List (List PD)) : Bool := @decide (xs = ys) (Classical.propDecidable _)
theorem tmod_cases (n W : Int) (hW : 0 < W) : (n.tmod W < 0 → n.tmod W + W = n % W) ∧ (¬ n.tmod W < 0 → n.tmod W = n % W) := by
  have h1 := Int.emod_nonneg n (show W ≠ 0 by omega)
  have h2 := Int.emod_lt_of_pos n hW
  rw [Int.tmod_eq_emod]
  have h3 : ((W.natAbs : Nat) : Int) = W := by omega
  split
  · omega
  · rw [h3]; omega
theorem wrap_i64 {a : Int} (h : r64 a) : IntKind.wrap .i64 a = a := by
  unfold r64 at h
  simp only [IntKind.wrap, IntKind.bits, IntKind.signed]
  simp
  omega
theorem rowB {bs : List UInt8} {xs : List (List PD)} (hxs : xs = bytesP bs) {i : Int} (h0 : 0 ≤ i) (h1 : i < bs.length) : xs.getD i.toNat [] = [.sc (.int .u8 ((bs[i.toNat]'(by omega)).toNat : Int))] := by
  subst hxs
  have : i.toNat < bs.length := by omega
  simp [bytesP, List.getD_eq_getElem?_getD, this]

structure FsQ where
  num : List (List PD) → Int → List (List PD)
  text : List (List PD) → ByteArray → List (List PD)
  flag : List (List PD) → Bool → List (List PD)
  same : List (List PD) → List (List PD) → Bool
  within3 : Int → Int → Int → Int
  isB : List (List PD) → Prop
  r64 : Int → Prop
  sz : ByteArray → Prop
  span3 : Int → Int → Prop
noncomputable def FsQ0 : FsQ where
  num := numX
  text := textX
  flag := flagX
  same := sameX
  within3 := within3
  isB := isB
  r64 := r64
  sz := szT
  span3 := span3
set_option maxRecDepth 100000 in
theorem v_within3 (n : Int) (lo : Int) (hi : Int) (hp0 : FsQ0.r64 n) (hp1 : FsQ0.span3 lo hi) : FnV Try.prog 20 [intD n, intD lo, intD hi] (intD ((within3 n lo hi))) := by
  refine FnD_cbv (T := fun _ => tabY [] []) (H := fun _ => []) (tabY_ok _ _) noK_ok follows_mixed Try.func20 rfl Try.ntmps20 (by simp) fun A X W hA hX hW => ?_
  cbv
  repeat' first
    | (refine part (fun h => ?_) (fun h => ?_) <;> try cbv)
    | (refine And.intro ?_ ?_)
  all_goals subst hA hX hW
  all_goals try (show Region.lexB _ _ = true; kernel_rfl)
  all_goals try (show turnsB _ = true; kernel_rfl)
  all_goals simp only [A0, FsQ0, decide_eq_true_eq, decide_eq_false_iff_not, Bool.not_eq_true', Bool.not_eq_false'] at *
  all_goals
    have hr : r64 n := hp0
    have hs : span3 lo hi := hp1
    unfold span3 at hs
    have e1 : IntKind.wrap .i64 (hi - lo) = hi - lo := wrap_i64 (by unfold r64; omega)
    have e2 : IntKind.wrap .i64 (hi - lo + 1) = hi - lo + 1 := wrap_i64 (by unfold r64; omega)
    have hc := tmod_cases n (hi - lo + 1) (by omega)
    have h1 := Int.emod_nonneg n (show hi - lo + 1 ≠ 0 by omega)
    have h2 := Int.emod_lt_of_pos n (show 0 < hi - lo + 1 by omega)
    simp only [e1, e2] at *
  · omega
  · refine ret_v ?_ rfl
    have h3 := hc.1 h
    have e3 : IntKind.wrap .i64 (n.tmod (hi - lo + 1) + hi) = n.tmod (hi - lo + 1) + hi := wrap_i64 (by unfold r64; omega)
    have e4 : IntKind.wrap .i64 (n.tmod (hi - lo + 1) + hi - lo) = n.tmod (hi - lo + 1) + hi - lo := wrap_i64 (by unfold r64; omega)
    have e5 : IntKind.wrap .i64 (n.tmod (hi - lo + 1) + hi - lo + 1) = n % (hi - lo + 1) := by rw [wrap_i64 (by unfold r64; omega)]; omega
    have e6 : IntKind.wrap .i64 (lo + n % (hi - lo + 1)) = lo + n % (hi - lo + 1) := wrap_i64 (by unfold r64; omega)
    rw [e3, e4, e5, e6]
    rfl
  · refine ret_v ?_ rfl
    rw [hc.2 h]
    have e6 : IntKind.wrap .i64 (lo + n % (hi - lo + 1)) = lo + n % (hi - lo + 1) := wrap_i64 (by unfold r64; omega)
    rw [e6]
    rfl
def kn_within3 (F : FsQ) : FuncId × (List DV → RV) := (20, fun args => match args with
  | [.d (.sc (.int .i64 n)), .d (.sc (.int .i64 lo)), .d (.sc (.int .i64 hi))] => some ([F.r64 n, F.span3 lo hi], intD ((F.within3 n lo hi)))
  | _ => none)
theorem ok_within3 (args : List DV) (cs : List Prop) (r : DV) (h : (kn_within3 FsQ0).2 args = some (cs, r)) (hc : allP cs True) : FnV Try.prog 20 args r ∧ closedL 0 args = true := by
  unfold kn_within3 at h
  simp only at h
  split at h
  · cases h; exact ⟨v_within3 _ _ _ hc.1 hc.2.1, rfl⟩
  · cases h
set_option maxRecDepth 100000 in
theorem v_num (xs : List (List PD)) (n : Int) (hp0 : FsQ0.isB xs) (hp1 : FsQ0.r64 n) : FnV Try.prog 31 [.d (.slc 1 xs), intD n] (.d (.slc 1 (numX xs n))) := by
  obtain ⟨bs, hxs, hb⟩ := hp0
  refine FnD_cbv (T := fun _ => tabY [] []) (H := fun _ => []) (tabY_ok _ _) noK_ok follows_mixed Try.func31 rfl Try.ntmps31 (by simp) fun A X W hA hX hW => ?_
  cbv
  refine callL hX ((w_grown bs xs 10 hxs (by decide) (by decide) (by omega)).mono ?_)
  rintro r st ⟨cs, m, hcs, hm, rfl, rfl⟩
  cbv
  refine callL hX ((w_num bs cs m n 1 hcs hm hp1 (by omega)).mono ?_)
  rintro r st ⟨v, cs2, m2, hcs2, hm2, rfl, rfl⟩
  cbv
  subst hA hX hW
  exact ret_bytes rfl hm2 hcs2 (by simp [numX, hxs, bytesP_append])
def kn_num (F : FsQ) : FuncId × (List DV → RV) := (31, fun args => match args with
  | [.d (.slc 1 xs), .d (.sc (.int .i64 n))] => some ([F.isB xs, F.r64 n], .d (.slc 1 (F.num xs n)))
  | [.d (.sc (.slice none 0 0)), .d (.sc (.int .i64 n))] => some ([F.isB [], F.r64 n], .d (.slc 1 (F.num [] n)))
  | _ => none)
theorem ok_num (args : List DV) (cs : List Prop) (r : DV) (h : (kn_num FsQ0).2 args = some (cs, r)) (hc : allP cs True) : FnV Try.prog 31 args r ∧ closedL 0 args = true := by
  unfold kn_num at h
  simp only at h
  split at h
  · cases h; exact ⟨v_num _ _ hc.1 hc.2.1, rfl⟩
  · cases h; exact ⟨FnP.nils (v_num [] _ hc.1 hc.2.1) ⟨.inr ⟨rfl, _, rfl⟩, ⟨.inl rfl, trivial⟩⟩, rfl⟩
  · cases h
set_option maxRecDepth 100000 in
theorem v_text (xs : List (List PD)) (s : ByteArray) (hp0 : FsQ0.isB xs) (hp1 : FsQ0.sz s) : FnV Try.prog 35 [.d (.slc 1 xs), strD s] (.d (.slc 1 (textX xs s))) := by
  obtain ⟨bs, hxs, hb⟩ := hp0
  have hs : s.size ≤ 4194304 := hp1
  refine FnD_cbv (T := fun _ => tabY [] []) (H := fun _ => []) (tabY_ok _ _) noK_ok follows_mixed Try.func35 rfl Try.ntmps35 (by simp) fun A X W hA hX hW => ?_
  cbv
  have e1 : IntKind.wrap .i64 (10 + (s.size : Int)) = 10 + (s.size : Int) := wrap_i64 (by unfold r64; omega)
  refine callL hX ((w_grown bs xs _ hxs ?_ ?_ (by omega)).mono ?_)
  · subst hA
    show 0 ≤ IntKind.wrap .i64 (10 + (s.size : Int))
    rw [e1]; omega
  · subst hA
    show IntKind.wrap .i64 (10 + (s.size : Int)) ≤ 8388608
    rw [e1]; omega
  rintro r st ⟨cs, m, hcs, hm, rfl, rfl⟩
  cbv
  refine callL hX ((w_num bs cs m _ 1 hcs hm ?_ (by omega)).mono ?_)
  · subst hA
    show r64 (s.size : Int)
    unfold r64; omega
  rintro r st ⟨v, cs2, m2, hcs2, hm2, rfl, rfl⟩
  cbv
  have hn := numB_length (s.size : Int)
  subst hA hX hW
  replace hcs2 : cs2 = rowsD (bytesP (bs ++ numB (s.size : Int))) := hcs2
  replace hm2 : m2 = (bs ++ numB (s.size : Int)).length := hm2
  have hsz : s.data.toList.length = s.size := by rw [Array.length_toList]; rfl
  refine And.intro rfl (And.intro ?_ (And.intro ?_ ?_))
  · simp only [A0]
    rw [hcs2, rowsB_length, hm2, Nat.mul_one]
  · simp only [A0]
    rw [hm2, List.length_append]
    omega
  · refine ret_bytes (bs := bs ++ textB s) rfl ?_ ?_ (by simp [textX, hxs, bytesP_append])
    · simp only [A0, hm2, textB, List.length_append, hsz]
      omega
    · simp only [A0, hcs2, textB]
      rw [← List.append_assoc, rowsB_append (bs ++ numB s.size)]
def kn_text (F : FsQ) : FuncId × (List DV → RV) := (35, fun args => match args with
  | [.d (.slc 1 xs), .d (.sc (.string s))] => some ([F.isB xs, F.sz s], .d (.slc 1 (F.text xs s)))
  | [.d (.sc (.slice none 0 0)), .d (.sc (.string s))] => some ([F.isB [], F.sz s], .d (.slc 1 (F.text [] s)))
  | _ => none)
theorem ok_text (args : List DV) (cs : List Prop) (r : DV) (h : (kn_text FsQ0).2 args = some (cs, r)) (hc : allP cs True) : FnV Try.prog 35 args r ∧ closedL 0 args = true := by
  unfold kn_text at h
  simp only at h
  split at h
  · cases h; exact ⟨v_text _ _ hc.1 hc.2.1, rfl⟩
  · cases h; exact ⟨FnP.nils (v_text [] _ hc.1 hc.2.1) ⟨.inr ⟨rfl, _, rfl⟩, ⟨.inl rfl, trivial⟩⟩, rfl⟩
  · cases h
set_option maxRecDepth 100000 in
theorem v_same (xs : List (List PD)) (ys : List (List PD)) (hp0 : FsQ0.isB xs) (hp1 : FsQ0.isB ys) : FnV Try.prog 10 [.d (.slc 1 xs), .d (.slc 1 ys)] (boolD ((sameX xs ys))) := by
  obtain ⟨bs, hxs, hb⟩ := hp0
  obtain ⟨ds, hys, hd⟩ := hp1
  have hlx : xs.length = bs.length := by rw [hxs]; exact bytesP_length bs
  have hly : ys.length = ds.length := by rw [hys]; exact bytesP_length ds
  have heq : xs = ys ↔ bs = ds := by rw [hxs, hys]; exact bytesP_inj
  refine FnD_cbv (T := fun _ => tabY [19, 23] []) (H := fun _ => []) (tabY_ok _ _) noK_ok follows_mixed Try.func10 rfl Try.ntmps10 (by simp) fun A X W hA hX hW => ?_
  cbv
  refine part (fun h => ?_) (fun h => ?_)
  · cbv
    subst hA hX hW
    simp only [A0] at h
    refine ret_v ?_ rfl
    have hne : ¬ xs = ys := by
      intro e
      subst e
      simp at h
    simp [boolD, sameX, hne]
  · cbv
    refine loopL (T := fun _ => tabY [19, 23] []) (H := fun _ => []) (tabY_ok _ _) noK_ok follows_mixed hA hX (fun i : Int => 0 ≤ i ∧ i ≤ bs.length ∧ bs.take i.toNat = ds.take i.toNat)
      (fun i => [(0, .d (.slc 1 xs)), (1, .d (.slc 1 ys)), (5, .d (.sc (.int .i64 i)))]) (fun _ => [])
      (fun i => (bs.length : Int).toNat - i.toNat) 0 ?_ ?_ ?_
    · exact ⟨by omega, by omega, by simp⟩
    · exact told_less (by simp [toldP, getS])
    rintro R i hR ⟨i0, i1, i2⟩
    cbv
    have hlen : bs.length = ds.length := by
      subst hA
      simp only [A0] at h
      simp only [Bool.not_eq_false', decide_eq_true_eq] at h
      omega
    refine part (fun h2 => ?_) (fun h2 => ?_)
    · cbv
      have hi : i < bs.length := by
        subst hA
        simp only [A0, decide_eq_true_eq] at h2
        omega
      have hj : i.toNat < bs.length := by omega
      have hj2 : i.toNat < ds.length := by omega
      have hrx : xs.getD i.toNat [] = [.sc (.int .u8 ((bs[i.toNat]'hj).toNat : Int))] := rowB hxs i0 hi
      have hry : ys.getD i.toNat [] = [.sc (.int .u8 ((ds[i.toNat]'hj2).toNat : Int))] := rowB hys i0 (by omega)
      refine And.intro ?_ (And.intro ?_ (And.intro ?_ (And.intro ?_ (And.intro ?_ ?_))))
      · subst hA; show Region.lexB _ _ = true; kernel_rfl
      · subst hA; simp only [A0]; omega
      · subst hA; simp only [A0, hrx]; simp
      · subst hA; simp only [A0]; omega
      · subst hA; simp only [A0, hry]; simp
      · have key : A.gi (A.lift (A.row xs i)) 0 = ((bs[i.toNat]'hj).toNat : Int) ∧ A.gi (A.lift (A.row ys i)) 0 = ((ds[i.toNat]'hj2).toNat : Int) := by
          subst hA
          simp only [A0, hrx, hry]
          simp
        refine part (fun h3 => ?_) (fun h3 => ?_)
        · cbv
          subst hA hX hW hR
          have h4 : A0.cmp .neq (A0.gi (A0.lift (A0.row xs i)) 0) (A0.gi (A0.lift (A0.row ys i)) 0) = true := h3
          rw [key.1, key.2] at h4
          refine ret_v ?_ rfl
          have hne : ¬ xs = ys := by
            intro e
            have e2 := heq.1 e
            subst e2
            simp [A0] at h4
          simp [boolD, sameX, hne]
        · cbv
          subst hA hX hW hR
          have h4 : A0.cmp .neq (A0.gi (A0.lift (A0.row xs i)) 0) (A0.gi (A0.lift (A0.row ys i)) 0) = false := h3
          rw [key.1, key.2] at h4
          have he : bs[i.toNat]'hj = ds[i.toNat]'hj2 := by
            have h5 : ((bs[i.toNat]'hj).toNat : Int) = ((ds[i.toNat]'hj2).toNat : Int) := by
              simp only [A0, Bool.not_eq_false', decide_eq_true_eq] at h4
              exact h4
            exact UInt8.toNat_inj.1 (Int.ofNat.inj h5)
          have hw : IntKind.wrap .i64 (i + 1) = i + 1 := wrap_i64 (by unfold r64; omega)
          refine ⟨i + 1, ⟨by omega, by omega, ?_⟩, ?_, told_less ?_⟩
          · rw [show (i + 1).toNat = i.toNat + 1 by omega, List.take_succ_eq_append_getElem hj, List.take_succ_eq_append_getElem hj2, i2, he]
          · simp only [Int.toNat_natCast]
            omega
          · simp [toldP, getS, A0, hw]
    · cbv
      subst hA hX hW hR
      simp only [A0, decide_eq_false_iff_not] at h2
      replace h2 : ¬ i < (xs.length : Int) := h2
      replace i1 : i ≤ (bs.length : Int) := i1
      refine ret_v ?_ rfl
      have hil : i.toNat = bs.length := by omega
      rw [hil, List.take_length] at i2
      have e : xs = ys := heq.2 (by rw [i2, hlen, List.take_length])
      simp [boolD, sameX, e]
def kn_same (F : FsQ) : FuncId × (List DV → RV) := (10, fun args => match args with
  | [.d (.slc 1 xs), .d (.slc 1 ys)] => some ([F.isB xs, F.isB ys], boolD ((F.same xs ys)))
  | [.d (.sc (.slice none 0 0)), .d (.slc 1 ys)] => some ([F.isB [], F.isB ys], boolD ((F.same [] ys)))
  | [.d (.slc 1 xs), .d (.sc (.slice none 0 0))] => some ([F.isB xs, F.isB []], boolD ((F.same xs [])))
  | [.d (.sc (.slice none 0 0)), .d (.sc (.slice none 0 0))] => some ([F.isB [], F.isB []], boolD ((F.same [] [])))
  | _ => none)
theorem ok_same (args : List DV) (cs : List Prop) (r : DV) (h : (kn_same FsQ0).2 args = some (cs, r)) (hc : allP cs True) : FnV Try.prog 10 args r ∧ closedL 0 args = true := by
  unfold kn_same at h
  simp only at h
  split at h
  · cases h; exact ⟨v_same _ _ hc.1 hc.2.1, rfl⟩
  · cases h; exact ⟨FnP.nils (v_same [] _ hc.1 hc.2.1) ⟨.inr ⟨rfl, _, rfl⟩, ⟨.inl rfl, trivial⟩⟩, rfl⟩
  · cases h; exact ⟨FnP.nils (v_same _ [] hc.1 hc.2.1) ⟨.inl rfl, ⟨.inr ⟨rfl, _, rfl⟩, trivial⟩⟩, rfl⟩
  · cases h; exact ⟨FnP.nils (v_same [] [] hc.1 hc.2.1) ⟨.inr ⟨rfl, _, rfl⟩, ⟨.inr ⟨rfl, _, rfl⟩, trivial⟩⟩, rfl⟩
  · cases h
end Go.Proofs.Ytbhapclaochcnaa
