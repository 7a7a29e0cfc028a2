/- Numbers, texts, flags behind bytes: the document's functions and the law's own. No condition. -/
import Derived.Test.YtligainhbdidgaaRd5
import Derived.Test.YtligainhbdidgaaRm
namespace Go.Proofs.Ytligainhbdidgaa
open Go.RowKit
set_option linter.all false


theorem or1 (w : Nat) (h : w * 2 + 1 < 18446744073709551616) : bitsV .u64 (· ||| ·) ((w * 2 : Nat) : Int) 1 = ((w * 2 + 1 : Nat) : Int) := by
  have := or_add 1 w 1 (by decide) (by omega)
  show IntKind.wrap .u64 ((BitVec.ofInt 64 ((w * 2 : Nat) : Int) ||| BitVec.ofInt 64 1).toNat : Int) = _
  rw [BitVec.or_comm]
  have e : ((w * 2 + 1 : Nat) : Int) = ((1 + w * 2 ^ 1 : Nat) : Int) := by omega
  rw [e, ← this]
  rfl
theorem zig2_neg (n : Int) (h : r64 n) (hn : n < 0) : bitsV .u64 (· ||| ·) (IntKind.wrap .u64 (IntKind.wrap .u64 (bitsV .i64 (· ^^^ ·) (-1) n) * 2 ^ min (Int.toNat 1) (IntKind.bits .u64))) 1 = zig n := by
  unfold r64 at h
  rw [(xor_i64 n h).2.2]
  obtain ⟨w, hw⟩ : ∃ w : Nat, -n - 1 = w := ⟨(-n - 1).toNat, by omega⟩
  rw [hw, wrap64_of (a := (w : Int)) (by omega) (by omega)]
  have e1 : (w : Int) * 2 ^ min (Int.toNat 1) (IntKind.bits .u64) = ((w * 2 : Nat) : Int) := by
    rw [show (2 : Int) ^ min (Int.toNat 1) (IntKind.bits .u64) = 2 by decide]; omega
  rw [e1, wrap64_of (by omega) (by omega), or1 w (by omega)]
  unfold zig
  rw [if_pos hn]
  omega
theorem zig2_pos (n : Int) (h : r64 n) (hn : ¬ n < 0) : IntKind.wrap .u64 (IntKind.wrap .u64 n * 2 ^ min (Int.toNat 1) (IntKind.bits .u64)) = zig n := by
  unfold r64 at h
  rw [wrap64_of (a := n) (by omega) (by omega), show (2 : Int) ^ min (Int.toNat 1) (IntKind.bits .u64) = 2 by decide, wrap64_of (by omega) (by omega)]
  unfold zig
  rw [if_neg hn]
  omega
noncomputable def putX (xs : List (List PD)) (k n : Int) (s : ByteArray) (f : Bool) : List (List PD) := if k = 1 ∨ k = 4 then numX xs n else if k = 2 then textX xs s else if k = 3 then flagX xs f else xs
theorem and127n (u : Nat) : IntKind.wrap .u8 (bitsV .u64 (· &&& ·) (u : Int) 127) = ((u % 128 : Nat) : Int) := by
  have e : bitsV .u64 (· &&& ·) (u : Int) 127 = ((u % 18446744073709551616 % 128 : Nat) : Int) := by
    show IntKind.wrap .u64 ((BitVec.ofInt 64 (u : Int) &&& BitVec.ofInt 64 127).toNat : Int) = _
    rw [ofInt_nat, show (BitVec.ofInt 64 127 : BitVec 64) = BitVec.ofNat 64 127 from rfl, BitVec.toNat_and, BitVec.toNat_ofNat, BitVec.toNat_ofNat]
    have := Nat.and_two_pow_sub_one_eq_mod (u % 2 ^ 64) 7
    rw [show (127 % 2 ^ 64 : Nat) = 2 ^ 7 - 1 by decide, this, wrap64_of (by omega) (by omega)]
  rw [e]
  have : u % 18446744073709551616 % 128 = u % 128 := by omega
  rw [this]
  simp [IntKind.wrap, IntKind.bits, IntKind.signed]
  try omega
theorem or128n (u : Nat) : bitsV .u8 (· ||| ·) ((u % 128 : Nat) : Int) 128 = (((UInt8.ofNat (u % 128 + 128)).toNat : Nat) : Int) := by
  have := or128f ⟨u % 128, by omega⟩
  simp only at this
  rw [this, show u % 128 % 128 = u % 128 by omega]

structure FsW where
  zig2 : Int → Int
  rnum : List (List PD) → Int → List (List PD)
  rtext : List (List PD) → ByteArray → List (List PD)
  rflag : List (List PD) → Bool → List (List PD)
  pflag : List (List PD) → Bool → List (List PD)
  put : List (List PD) → Int → Int → ByteArray → Bool → List (List PD)
  isB : List (List PD) → Prop
  r64 : Int → Prop
  sz : ByteArray → Prop
noncomputable def FsW0 : FsW where
  zig2 := zig
  rnum := numX
  rtext := textX
  rflag := flagX
  pflag := flagX
  put := putX
  isB := isB
  r64 := r64
  sz := szT
set_option maxRecDepth 100000 in
theorem v_zig2 (n : Int) (hp0 : FsW0.r64 n) : FnV Try.prog 94 [intD n] (.d (.sc (.int .u64 ((zig n))))) := by
  refine FnD_cbv (T := fun _ => tabY [] []) (H := fun _ => []) (tabY_ok _ _) noK_ok follows_mixed Try.func94 rfl Try.ntmps94 (by simp) fun A X W hA hX hW => ?_
  cbv
  repeat' first
    | (refine part (fun h => ?_) (fun h => ?_) <;> try cbv)
    | (refine And.intro ?_ ?_)
  all_goals subst hA hX hW
  all_goals try (show Region.lexB _ _ = true; kernel_rfl)
  all_goals try (show turnsB _ = true; kernel_rfl)
  all_goals simp only [A0, FsW0, decide_eq_true_eq, decide_eq_false_iff_not, Bool.not_eq_true', Bool.not_eq_false'] at *
  all_goals try (first | decide | done)
  · refine ret_v ?_ rfl
    rw [show (if IntKind.i64.signed = true then (-1 : Int) else IntKind.i64.max) = -1 from rfl, zig2_neg n hp0 h]
  · refine ret_v ?_ rfl
    rw [zig2_pos n hp0 h]
def kn_zig2 (F : FsW) : FuncId × (List DV → RV) := (94, fun args => match args with
  | [.d (.sc (.int .i64 n))] => some ([F.r64 n], .d (.sc (.int .u64 ((F.zig2 n)))))
  | _ => none)
theorem ok_zig2 (args : List DV) (cs : List Prop) (r : DV) (h : (kn_zig2 FsW0).2 args = some (cs, r)) (hc : allP cs True) : FnV Try.prog 94 args r ∧ closedL 0 args = true := by
  unfold kn_zig2 at h
  simp only at h
  split at h
  · cases h; exact ⟨v_zig2 _ hc.1, rfl⟩
  · cases h
set_option maxRecDepth 100000 in
theorem w_rnum (bs : List UInt8) (xs : List (List PD)) (n : Int) (hxs : xs = bytesP bs) (hb : bs.length ≤ 8000000) (hp1 : r64 n) : FnD Try.prog 68 [.d (.slc 1 xs), intD n] [] (fun r st' => ∃ v cs m, cs = rowsD (bytesP (bs ++ numB n)) ∧ m = (bs ++ numB n).length ∧ r = .view 1 0 v 0 m ∧ st' = [⟨5, cs, true, v, true⟩]) := by
  obtain ⟨GFsW, hFsW⟩ : ∃ F, F = FsW0 := ⟨_, rfl⟩
  have hH : SoundK Try.prog [kn_zig2 GFsW] := by subst hFsW; exact orK_ok ok_zig2 noK_ok
  have hB : SoundB Try.prog [] := by subst hFsW; exact noB_ok
  refine FnD_cbv (T := fun _ => tabY [] []) (H := fun _ => [kn_zig2 GFsW]) (tabY_ok _ _) hH follows_mixed Try.func68 rfl Try.ntmps68 (by simp) fun A X W hA hX hW => ?_
  cbv
  have hz := zig_range hp1
  have hz2 : ((zig n).toNat : Int) = zig n := Int.toNat_of_nonneg hz.1
  have hl : xs.length = bs.length := by rw [hxs]; exact bytesP_length bs
  refine And.intro ?_ (And.intro ?_ (And.intro ?_ (And.intro ?_ ?_)))
  · subst hA; simp only [A0]
  · subst hA; simp only [A0]; rfl
  · subst hA; simp only [A0]; omega
  · subst hFsW; exact hp1
  refine loopL (T := fun _ => tabY [] []) (H := fun _ => [kn_zig2 GFsW]) (tabY_ok _ _) hH follows_mixed hA hX (fun x : List DV × Int × Nat × Nat => ∃ (bs1 : List UInt8) (f u : Nat), x.1 = rowsD (bytesP bs1) ∧ x.2.1 = u ∧ x.2.2.2 = bs1.length ∧ bs1 ++ numF (f + 1) u = bs ++ numB n ∧ u < 128 ^ (f + 1) ∧ u < 18446744073709551616 ∧ f + bs1.length ≤ 8388620)
    (fun x => [(5, .view 1 0 x.2.2.1 0 x.2.2.2), (6, .d (.sc (.int .u64 x.2.1)))]) (fun x => [⟨5, x.1, true, x.2.2.1, true⟩])
    (fun x => x.2.1.toNat) (rowsD (bytesP bs), zig n, 1, bs.length) ?_ ?_ ?_
  · refine ⟨bs, 9, (zig n).toNat, rfl, hz2.symm, rfl, rfl, ?_, ?_, ?_⟩
    all_goals omega
  · subst hA hFsW
    refine told_st ?_ ?_
    · simp [A0, hxs]
    · simp [toldP, getS, A0, FsW0, hl]
  rintro R ⟨cells, u, v, len⟩ hR ⟨bs1, f, u1, h1, h2, h3, e1, e2, e3, e4⟩
  replace h1 : cells = rowsD (bytesP bs1) := h1
  replace h3 : len = bs1.length := h3
  cbv
  repeat' first
    | (refine part (fun h => ?_) (fun h => ?_) <;> try cbv)
    | (refine And.intro ?_ ?_)
    | (with_reducible refine callB hX hB ?_) <;> cbv
  all_goals subst hR hA hX hW hFsW
  all_goals clear hH hB
  all_goals simp only [A0, FsW0, decide_eq_true_eq, decide_eq_false_iff_not] at *
  all_goals replace h2 : u = (u1 : Int) := h2
  all_goals subst h2
  all_goals first
    | rfl
    | decide
    | omega
    | (rw [h1, rowsB_length, h3, Nat.mul_one]; done)
    | (simp; done)
    | (have hf : (u1 : Int).fdiv (2 ^ min (Int.toNat 7) (IntKind.bits .u64)) = ((u1 / 128 : Nat) : Int) := fdiv128 u1
       obtain ⟨f1, rfl⟩ : ∃ f1, f = f1 + 1 := by
         cases f with
         | zero => omega
         | succ f1 => exact ⟨f1, rfl⟩
       have hu : u1 / 128 < 128 ^ (f1 + 1) := by
         rw [Nat.pow_succ] at e2
         exact Nat.div_lt_of_lt_mul (by rw [Nat.mul_comm]; exact e2)
       refine ⟨(cells ++ [.d (.sc (.int .u8 ((UInt8.ofNat (u1 % 128 + 128)).toNat : Int)))], ((u1 / 128 : Nat) : Int), v + 1, len + 1), ⟨bs1 ++ [UInt8.ofNat (u1 % 128 + 128)], f1, u1 / 128, ?_, rfl, ?_, ?_, hu, ?_, ?_⟩, ?_, told_keep [0] rfl ?_ ?_⟩
       · simp only [rowsB_append, rowsB_one, h1]
       · simp [h3]
       · rw [← e1, numF_step (f1 + 1) u1 (by omega)]
         simp only [List.append_assoc, List.singleton_append]
       · omega
       · simp only [List.length_append, List.length_singleton]; omega
       · simp only; omega
       · simp only [and127n, or128n]
         simp [keepSt, pullBox, pullL_eq, h1, pull_rows, pullD]
       · rw [hf]
         simp [toldP, getS, pullD])
    | (have hb2 : numF (f + 1) u1 = [UInt8.ofNat u1] := numF_last f u1 (by omega)
       rw [hb2] at e1
       refine ret_keep [0] rfl ⟨v + 1, _, _, rfl, rfl, ?_, ?_⟩
       · simp [pullD, ← e1, h3]
       · rw [← e1, rowsB_append, rowsB_one, ← h1, low8 u1 (by omega)]
         simp [keepSt, pullBox, pullL_eq, h1, pull_rows, pullD])
theorem v_rnum (xs : List (List PD)) (n : Int) (hp0 : isB xs) (hp1 : r64 n) : FnV Try.prog 68 [.d (.slc 1 xs), intD n] (.d (.slc 1 (numX xs n))) := by
  obtain ⟨bs, hxs, hb⟩ := hp0
  refine FnD.ret ((w_rnum bs xs n hxs hb hp1).mono ?_)
  rintro r st ⟨v, cs, m, hcs, hm, rfl, rfl⟩
  exact ret_bytes rfl hm hcs (by simp [numX, hxs, bytesP_append])

def kn_rnum (F : FsW) : FuncId × (List DV → RV) := (68, fun args => match args with
  | [.d (.slc 1 xs), .d (.sc (.int .i64 n))] => some ([F.isB xs, F.r64 n], .d (.slc 1 (F.rnum xs n)))
  | [.d (.sc (.slice none 0 0)), .d (.sc (.int .i64 n))] => some ([F.isB [], F.r64 n], .d (.slc 1 (F.rnum [] n)))
  | _ => none)
theorem ok_rnum (args : List DV) (cs : List Prop) (r : DV) (h : (kn_rnum FsW0).2 args = some (cs, r)) (hc : allP cs True) : FnV Try.prog 68 args r ∧ closedL 0 args = true := by
  unfold kn_rnum at h
  simp only at h
  split at h
  · cases h; exact ⟨v_rnum _ _ hc.1 hc.2.1, rfl⟩
  · cases h; exact ⟨FnP.nils (v_rnum [] _ hc.1 hc.2.1) ⟨.inr ⟨rfl, _, rfl⟩, ⟨.inl rfl, trivial⟩⟩, rfl⟩
  · cases h
theorem isB_numX {xs : List (List PD)} {n : Int} {k : Nat} (h : ∃ bs, xs = bytesP bs ∧ bs.length ≤ k) : ∃ bs, numX xs n = bytesP bs ∧ bs.length ≤ k + 10 := by
  obtain ⟨bs, rfl, hb⟩ := h
  refine ⟨bs ++ numB n, by rw [numX, bytesP_append], ?_⟩
  have := numB_length n
  simp only [List.length_append]; omega
set_option maxRecDepth 100000 in
theorem v_rtext (xs : List (List PD)) (s : ByteArray) (hp0 : isB xs) (hp1 : szT s) : FnV Try.prog 69 [.d (.slc 1 xs), strD s] (.d (.slc 1 (textX xs s))) := by
  have hs : s.size ≤ 4194304 := hp1
  obtain ⟨bs, hxs, hb⟩ := hp0
  have hH : SoundK Try.prog [] := by exact noK_ok
  have hB : SoundB Try.prog [] := by exact noB_ok
  refine FnD_cbv (T := fun _ => tabY [] []) (H := fun _ => []) (tabY_ok _ _) hH follows_mixed Try.func69 rfl Try.ntmps69 (by simp) fun A X W hA hX hW => ?_
  cbv
  refine callL hX ((w_rnum bs xs _ hxs hb ?_).mono ?_)
  · subst hA
    show r64 (s.size : Int)
    unfold r64; omega
  rintro r st ⟨v, cs2, m2, hcs2, hm2, rfl, rfl⟩
  cbv
  have hn := numB_length (s.size : Int)
  subst hA hX hW
  replace hcs2 : cs2 = rowsD (bytesP (bs ++ numB (s.size : Int))) := hcs2
  replace hm2 : m2 = (bs ++ numB (s.size : Int)).length := hm2
  have hsz : s.data.toList.length = s.size := by rw [Array.length_toList]; rfl
  refine And.intro rfl (And.intro ?_ (And.intro ?_ ?_))
  · simp only [A0]
    rw [hcs2, rowsB_length, hm2, Nat.mul_one]
  · simp only [A0]
    rw [hm2, List.length_append]
    omega
  · refine ret_bytes (bs := bs ++ textB s) rfl ?_ ?_ (by simp [textX, hxs, bytesP_append])
    · simp only [A0, hm2, textB, List.length_append, hsz]
      omega
    · simp only [A0, hcs2, textB]
      rw [← List.append_assoc, rowsB_append (bs ++ numB s.size)]
def kn_rtext (F : FsW) : FuncId × (List DV → RV) := (69, fun args => match args with
  | [.d (.slc 1 xs), .d (.sc (.string s))] => some ([F.isB xs, F.sz s], .d (.slc 1 (F.rtext xs s)))
  | [.d (.sc (.slice none 0 0)), .d (.sc (.string s))] => some ([F.isB [], F.sz s], .d (.slc 1 (F.rtext [] s)))
  | _ => none)
theorem ok_rtext (args : List DV) (cs : List Prop) (r : DV) (h : (kn_rtext FsW0).2 args = some (cs, r)) (hc : allP cs True) : FnV Try.prog 69 args r ∧ closedL 0 args = true := by
  unfold kn_rtext at h
  simp only at h
  split at h
  · cases h; exact ⟨v_rtext _ _ hc.1 hc.2.1, rfl⟩
  · cases h; exact ⟨FnP.nils (v_rtext [] _ hc.1 hc.2.1) ⟨.inr ⟨rfl, _, rfl⟩, ⟨.inl rfl, trivial⟩⟩, rfl⟩
  · cases h
set_option maxRecDepth 100000 in
theorem v_pflag (xs : List (List PD)) (b : Bool) (hp0 : isB xs) : FnV Try.prog 93 [.d (.slc 1 xs), boolD b] (.d (.slc 1 (flagX xs b))) := by
  obtain ⟨bs, hxs, hb⟩ := hp0
  cases b
  · have hH : SoundK Try.prog [] := by exact noK_ok
    have hB : SoundB Try.prog [] := by exact noB_ok
    refine FnD_cbv (T := fun _ => tabY [] []) (H := fun _ => []) (tabY_ok _ _) hH follows_mixed Try.func93 rfl Try.ntmps93 (by simp) fun A X W hA hX hW => ?_
    cbv
    refine callL hX ((w_grown bs xs _ hxs (by decide) (by decide) (by omega)).mono ?_)
    rintro r st ⟨cs, m, hcs, hm, rfl, rfl⟩
    cbv
    repeat' first
      | (refine And.intro ?_ ?_)
    all_goals subst hA hX hW
    all_goals clear hH hB
    all_goals simp only [A0] at *
    all_goals first
      | rfl
      | omega
      | (simp; done)
      | (simp; omega)
      | (rw [hxs, rowsB_length, bytesP_length]; simp; done)
      | (simp [hxs, rowsB_length, bytesP_length]; done)
      | (simp [hcs, rowsB_length, hm]; done)
      | (simp [hcs, rowsB_length, hm]; omega)
      | (refine ret_bytes (bs := bs ++ [1]) rfl ?_ ?_ (by simp [flagX, hxs, bytesP_append]) <;> simp [hxs, bytesP_length, rowsB_append, rowsB_one]; done)
      | (refine ret_bytes (bs := bs ++ [0]) rfl ?_ ?_ (by simp [flagX, hxs, bytesP_append]) <;> simp [hxs, bytesP_length, rowsB_append, rowsB_one]; done)
      | (refine ret_bytes (bs := bs ++ [1]) rfl ?_ ?_ (by simp [flagX, hxs, bytesP_append]) <;> simp [hcs, hm, rowsB_append, rowsB_one]; done)
      | (refine ret_bytes (bs := bs ++ [0]) rfl ?_ ?_ (by simp [flagX, hxs, bytesP_append]) <;> simp [hcs, hm, rowsB_append, rowsB_one]; done)

  · have hH : SoundK Try.prog [] := by exact noK_ok
    have hB : SoundB Try.prog [] := by exact noB_ok
    refine FnD_cbv (T := fun _ => tabY [] []) (H := fun _ => []) (tabY_ok _ _) hH follows_mixed Try.func93 rfl Try.ntmps93 (by simp) fun A X W hA hX hW => ?_
    cbv
    refine callL hX ((w_grown bs xs _ hxs (by decide) (by decide) (by omega)).mono ?_)
    rintro r st ⟨cs, m, hcs, hm, rfl, rfl⟩
    cbv
    repeat' first
      | (refine And.intro ?_ ?_)
    all_goals subst hA hX hW
    all_goals clear hH hB
    all_goals simp only [A0] at *
    all_goals first
      | rfl
      | omega
      | (simp; done)
      | (simp; omega)
      | (rw [hxs, rowsB_length, bytesP_length]; simp; done)
      | (simp [hxs, rowsB_length, bytesP_length]; done)
      | (simp [hcs, rowsB_length, hm]; done)
      | (simp [hcs, rowsB_length, hm]; omega)
      | (refine ret_bytes (bs := bs ++ [1]) rfl ?_ ?_ (by simp [flagX, hxs, bytesP_append]) <;> simp [hxs, bytesP_length, rowsB_append, rowsB_one]; done)
      | (refine ret_bytes (bs := bs ++ [0]) rfl ?_ ?_ (by simp [flagX, hxs, bytesP_append]) <;> simp [hxs, bytesP_length, rowsB_append, rowsB_one]; done)
      | (refine ret_bytes (bs := bs ++ [1]) rfl ?_ ?_ (by simp [flagX, hxs, bytesP_append]) <;> simp [hcs, hm, rowsB_append, rowsB_one]; done)
      | (refine ret_bytes (bs := bs ++ [0]) rfl ?_ ?_ (by simp [flagX, hxs, bytesP_append]) <;> simp [hcs, hm, rowsB_append, rowsB_one]; done)

set_option maxRecDepth 100000 in
theorem v_rflag (xs : List (List PD)) (b : Bool) (hp0 : isB xs) : FnV Try.prog 70 [.d (.slc 1 xs), boolD b] (.d (.slc 1 (flagX xs b))) := by
  obtain ⟨bs, hxs, hb⟩ := hp0
  have hl : xs.length = bs.length := by rw [hxs]; exact bytesP_length bs
  cases b
  · have hH : SoundK Try.prog [] := by exact noK_ok
    have hB : SoundB Try.prog [] := by exact noB_ok
    refine FnD_cbv (T := fun _ => tabY [] []) (H := fun _ => []) (tabY_ok _ _) hH follows_mixed Try.func70 rfl Try.ntmps70 (by simp) fun A X W hA hX hW => ?_
    cbv
    repeat' first
      | (refine part (fun h => ?_) (fun h => ?_) <;> try cbv)
      | (refine And.intro ?_ ?_)
    all_goals subst hA hX hW
    all_goals clear hH hB
    all_goals simp only [A0] at *
    all_goals first
      | rfl
      | omega
      | (simp; done)
      | (simp; omega)
      | (rw [hxs, rowsB_length, bytesP_length]; simp; done)
      | (simp [hxs, rowsB_length, bytesP_length]; done)
      | (simp [hcs, rowsB_length, hm]; done)
      | (simp [hcs, rowsB_length, hm]; omega)
      | (refine ret_bytes (bs := bs ++ [1]) rfl ?_ ?_ (by simp [flagX, hxs, bytesP_append]) <;> simp [hxs, bytesP_length, rowsB_append, rowsB_one]; done)
      | (refine ret_bytes (bs := bs ++ [0]) rfl ?_ ?_ (by simp [flagX, hxs, bytesP_append]) <;> simp [hxs, bytesP_length, rowsB_append, rowsB_one]; done)
      | (refine ret_bytes (bs := bs ++ [1]) rfl ?_ ?_ (by simp [flagX, hxs, bytesP_append]) <;> simp [hcs, hm, rowsB_append, rowsB_one]; done)
      | (refine ret_bytes (bs := bs ++ [0]) rfl ?_ ?_ (by simp [flagX, hxs, bytesP_append]) <;> simp [hcs, hm, rowsB_append, rowsB_one]; done)

  · have hH : SoundK Try.prog [] := by exact noK_ok
    have hB : SoundB Try.prog [] := by exact noB_ok
    refine FnD_cbv (T := fun _ => tabY [] []) (H := fun _ => []) (tabY_ok _ _) hH follows_mixed Try.func70 rfl Try.ntmps70 (by simp) fun A X W hA hX hW => ?_
    cbv
    repeat' first
      | (refine part (fun h => ?_) (fun h => ?_) <;> try cbv)
      | (refine And.intro ?_ ?_)
    all_goals subst hA hX hW
    all_goals clear hH hB
    all_goals simp only [A0] at *
    all_goals first
      | rfl
      | omega
      | (simp; done)
      | (simp; omega)
      | (rw [hxs, rowsB_length, bytesP_length]; simp; done)
      | (simp [hxs, rowsB_length, bytesP_length]; done)
      | (simp [hcs, rowsB_length, hm]; done)
      | (simp [hcs, rowsB_length, hm]; omega)
      | (refine ret_bytes (bs := bs ++ [1]) rfl ?_ ?_ (by simp [flagX, hxs, bytesP_append]) <;> simp [hxs, bytesP_length, rowsB_append, rowsB_one]; done)
      | (refine ret_bytes (bs := bs ++ [0]) rfl ?_ ?_ (by simp [flagX, hxs, bytesP_append]) <;> simp [hxs, bytesP_length, rowsB_append, rowsB_one]; done)
      | (refine ret_bytes (bs := bs ++ [1]) rfl ?_ ?_ (by simp [flagX, hxs, bytesP_append]) <;> simp [hcs, hm, rowsB_append, rowsB_one]; done)
      | (refine ret_bytes (bs := bs ++ [0]) rfl ?_ ?_ (by simp [flagX, hxs, bytesP_append]) <;> simp [hcs, hm, rowsB_append, rowsB_one]; done)

def kn_pflag (F : FsW) : FuncId × (List DV → RV) := (93, fun args => match args with
  | [.d (.slc 1 xs), .d (.sc (.bool b))] => some ([F.isB xs], .d (.slc 1 (F.pflag xs b)))
  | [.d (.sc (.slice none 0 0)), .d (.sc (.bool b))] => some ([F.isB []], .d (.slc 1 (F.pflag [] b)))
  | _ => none)
theorem ok_pflag (args : List DV) (cs : List Prop) (r : DV) (h : (kn_pflag FsW0).2 args = some (cs, r)) (hc : allP cs True) : FnV Try.prog 93 args r ∧ closedL 0 args = true := by
  unfold kn_pflag at h
  simp only at h
  split at h
  · cases h; exact ⟨v_pflag _ _ hc.1, rfl⟩
  · cases h; exact ⟨FnP.nils (v_pflag [] _ hc.1) ⟨.inr ⟨rfl, _, rfl⟩, ⟨.inl rfl, trivial⟩⟩, rfl⟩
  · cases h
def kn_rflag (F : FsW) : FuncId × (List DV → RV) := (70, fun args => match args with
  | [.d (.slc 1 xs), .d (.sc (.bool b))] => some ([F.isB xs], .d (.slc 1 (F.rflag xs b)))
  | [.d (.sc (.slice none 0 0)), .d (.sc (.bool b))] => some ([F.isB []], .d (.slc 1 (F.rflag [] b)))
  | _ => none)
theorem ok_rflag (args : List DV) (cs : List Prop) (r : DV) (h : (kn_rflag FsW0).2 args = some (cs, r)) (hc : allP cs True) : FnV Try.prog 70 args r ∧ closedL 0 args = true := by
  unfold kn_rflag at h
  simp only at h
  split at h
  · cases h; exact ⟨v_rflag _ _ hc.1, rfl⟩
  · cases h; exact ⟨FnP.nils (v_rflag [] _ hc.1) ⟨.inr ⟨rfl, _, rfl⟩, ⟨.inl rfl, trivial⟩⟩, rfl⟩
  · cases h
set_option maxRecDepth 100000 in
theorem v_put (xs : List (List PD)) (k n : Int) (s : ByteArray) (f : Bool) (hp0 : isB xs) (hp1 : r64 n) (hp2 : szT s) : FnV Try.prog 67 [.d (.slc 1 xs), .agg [intD k, intD n, strD s, boolD f]] (.d (.slc 1 (putX xs k n s f))) := by
  obtain ⟨bs, hxs, hb⟩ := hp0
  have hp0 : isB xs := ⟨bs, hxs, hb⟩
  have hl : xs.length = bs.length := by rw [hxs]; exact bytesP_length bs
  obtain ⟨GFsQ, hFsQ⟩ : ∃ F, F = FsQ0 := ⟨_, rfl⟩
  obtain ⟨GFsW, hFsW⟩ : ∃ F, F = FsW0 := ⟨_, rfl⟩
  have hH : SoundK Try.prog [kn_num GFsQ, kn_text GFsQ, kn_pflag GFsW] := by subst hFsQ hFsW; exact orK_ok ok_num (orK_ok ok_text (orK_ok ok_pflag noK_ok))
  have hB : SoundB Try.prog [] := by subst hFsQ hFsW; exact noB_ok
  refine FnD_cbv (T := fun _ => tabY [] []) (H := fun _ => [kn_num GFsQ, kn_text GFsQ, kn_pflag GFsW]) (tabY_ok _ _) hH follows_mixed Try.func67 rfl Try.ntmps67 (by simp) fun A X W hA hX hW => ?_
  cbv
  repeat' first
    | (refine part (fun h => ?_) (fun h => ?_) <;> try cbv)
    | (refine And.intro ?_ ?_)
    | (with_reducible refine callB hX hB ?_) <;> cbv
  all_goals subst hA hX hW hFsQ hFsW
  all_goals clear hH hB
  all_goals try (show Region.lexB _ _ = true; kernel_rfl)
  all_goals try (show turnsB _ = true; kernel_rfl)
  all_goals simp only [A0, FsQ0, FsW0, decide_eq_true_eq, decide_eq_false_iff_not, Bool.not_eq_true', Bool.not_eq_false'] at *
  all_goals first
    | assumption
    | rfl
    | omega
    | (simp; done)
    | (simp [hxs, rowsB_length, bytesP_length]; done)
    | (refine ret_v ?_ rfl; simp_all [putX]; done)
    | (refine ret_bytes (bs := bs) rfl ?_ ?_ ?_
       · simp [hxs, bytesP_length]
       · simp [hxs]
       · simp_all [putX]
       done)
def kn_put (F : FsW) : FuncId × (List DV → RV) := (67, fun args => match args with
  | [.d (.slc 1 xs), .agg [.d (.sc (.int .i64 k)), .d (.sc (.int .i64 n)), .d (.sc (.string s)), .d (.sc (.bool f))]] => some ([F.isB xs, F.r64 n, F.sz s], .d (.slc 1 (F.put xs k n s f)))
  | _ => none)
theorem ok_put (args : List DV) (cs : List Prop) (r : DV) (h : (kn_put FsW0).2 args = some (cs, r)) (hc : allP cs True) : FnV Try.prog 67 args r ∧ closedL 0 args = true := by
  unfold kn_put at h
  simp only at h
  split at h
  · cases h; exact ⟨v_put _ _ _ _ _ hc.1 hc.2.1 hc.2.2.1, rfl⟩
  · cases h
end Go.Proofs.Ytligainhbdidgaa
