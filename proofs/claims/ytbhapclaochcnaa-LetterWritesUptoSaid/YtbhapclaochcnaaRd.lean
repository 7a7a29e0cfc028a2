/- Readers of bytes: what their methods give and leave. No condition. -/
import Derived.Test.YtbhapclaochcnaaAm33
import Derived.Test.YtbhapclaochcnaaPack
namespace Go.Proofs.Ytbhapclaochcnaa
open Go.RowKit
set_option linter.all false

/-- What the bytes from a place on tell as a number. -/
inductive Got where
  | short
  | form
  | num (u k : Nat)
def sev : Nat → Nat → List UInt8 → Got
  | _, _, [] => .short
  | i, u, c :: l => if (0 < i ∧ c.toNat = 0) ∨ (i = 9 ∧ 1 < c.toNat) then .form else if c.toNat < 128 then .num (u + c.toNat % 128 * 2 ^ (7 * i)) (i + 1) else sev (i + 1) (u + c.toNat % 128 * 2 ^ (7 * i)) l
def zagI (u : Int) : Int := if u % 2 = 1 then -(u / 2) - 1 else u / 2
def u64 (u : Int) : Prop := 0 ≤ u ∧ u < 18446744073709551616
/-- A number, read: the answer, the place behind, the error. -/
def numL (bs : List UInt8) (a w : Int) : Int × Int × Int :=
  if w ≠ 0 then (0, a, w) else match sev 0 0 (bs.drop a.toNat) with
    | .short => (0, a, 3)
    | .form => (0, a, 4)
    | .num u k => (zagI u, a + k, 0)
def numR (xs : List (List PD)) (a w : Int) : Int × Int × Int := numL (bytesOf xs) a w
def cntL (bs : List UInt8) (a w most : Int) : Int × Int × Int :=
  if (numL bs a w).2.2 = 0 ∧ ((numL bs a w).1 < 0 ∨ most < (numL bs a w).1) then (0, a, 2) else numL bs a w
def cntR (xs : List (List PD)) (a w most : Int) : Int × Int × Int := cntL (bytesOf xs) a w most
def textL (bs : List UInt8) (a w most : Int) : ByteArray × Int × Int :=
  if (cntL bs a w most).2.2 ≠ 0 then (.empty, (cntL bs a w most).2.1, (cntL bs a w most).2.2) else
    if (bs.length : Int) - (cntL bs a w most).2.1 < (cntL bs a w most).1 then (.empty, a, 3) else
      (⟨((bs.drop (cntL bs a w most).2.1.toNat).take (cntL bs a w most).1.toNat).toArray⟩, (cntL bs a w most).2.1 + (cntL bs a w most).1, 0)
def textR (xs : List (List PD)) (a w most : Int) : ByteArray × Int × Int := textL (bytesOf xs) a w most
def flagL (bs : List UInt8) (a w : Int) : Bool × Int × Int :=
  if w ≠ 0 then (false, a, w) else match bs[a.toNat]? with
    | none => (false, a, 3)
    | some c => if 1 < (c.toNat : Int) then (false, a, 4) else (decide ((c.toNat : Int) = 1), a + 1, 0)
def flagR (xs : List (List PD)) (a w : Int) : Bool × Int × Int := flagL (bytesOf xs) a w
def endR (xs : List (List PD)) (a w : Int) : Int := if w = 0 ∧ a < xs.length then 5 else w
def errR (w e : Int) : Int := if w = 0 then e else w
theorem err0 (e : Int) : errR 0 e = e := by simp [errR]
def failR (w : Int) : Int := if w = 0 then 4 else w
/-- A reader's cells are right: bytes, a place in them, an error. -/
def isRd (xs : List (List PD)) (a w : Int) : Prop := (∃ bs, xs = bytesP bs ∧ bs.length ≤ 8000000) ∧ 0 ≤ a ∧ a ≤ xs.length ∧ 0 ≤ w ∧ w ≤ 100
abbrev rdB (t : Nat) (xs : List (List PD)) (a w : Int) : Box := ⟨t, [.d (.slc 1 xs), .d (.sc (.int .i64 a)), .d (.sc (.int .i64 w))], false, 0, true⟩
theorem and127f : ∀ x : Fin 256, bitsV .u8 (· &&& ·) (x.val : Int) 127 = ((x.val % 128 : Nat) : Int) := by decide +kernel
theorem ofInt_nat (n : Nat) : BitVec.ofInt 64 (n : Int) = BitVec.ofNat 64 n := by simp
theorem and1 (u : Int) (h : u64 u) : bitsV .u64 (· &&& ·) u 1 = u % 2 := by
  obtain ⟨n, rfl⟩ := Int.eq_ofNat_of_zero_le h.1
  have hn : n < 18446744073709551616 := by have := h.2; omega
  show IntKind.wrap .u64 ((BitVec.ofInt 64 (n : Int) &&& BitVec.ofInt 64 1).toNat : Int) = _
  rw [ofInt_nat, show (BitVec.ofInt 64 1 : BitVec 64) = BitVec.ofNat 64 1 from rfl, BitVec.toNat_and, BitVec.toNat_ofNat, BitVec.toNat_ofNat, Nat.mod_eq_of_lt (show n < 2 ^ 64 by omega), show 1 % 2 ^ 64 = 1 from rfl, Nat.and_one_is_mod]
  rw [wrap64_of (by omega) (by omega)]
  omega
theorem or_add (u w k : Nat) (hu : u < 2 ^ k) (hw : u + w * 2 ^ k < 18446744073709551616) : bitsV .u64 (· ||| ·) (u : Int) ((w * 2 ^ k : Nat) : Int) = ((u + w * 2 ^ k : Nat) : Int) := by
  show IntKind.wrap .u64 ((BitVec.ofInt 64 (u : Int) ||| BitVec.ofInt 64 ((w * 2 ^ k : Nat) : Int)).toNat : Int) = _
  rw [ofInt_nat, ofInt_nat, BitVec.toNat_or, BitVec.toNat_ofNat, BitVec.toNat_ofNat, Nat.mod_eq_of_lt (show u < 2 ^ 64 by omega), Nat.mod_eq_of_lt (show w * 2 ^ k < 2 ^ 64 by omega)]
  have := Nat.shiftLeft_add_eq_or_of_lt hu w
  rw [Nat.shiftLeft_eq] at this
  rw [Nat.or_comm, ← this, wrap64_of (by omega) (by omega)]
  omega
theorem xor_i64 (a : Int) (h : r64 a) : bitsV .i64 (· ^^^ ·) a 0 = a ∧ bitsV .i64 (· ^^^ ·) a (-1) = -a - 1 ∧ bitsV .i64 (· ^^^ ·) (-1) a = -a - 1 := by
  have hb : ((BitVec.ofInt 64 a).toNat : Int) = a % 18446744073709551616 := by
    rw [BitVec.toNat_ofInt]
    omega
  have hx : (BitVec.ofInt 64 (-1) : BitVec 64) = BitVec.allOnes 64 := by decide
  unfold r64 at h
  have hn : IntKind.wrap .i64 ((~~~ BitVec.ofInt 64 a).toNat : Int) = -a - 1 := by
    rw [BitVec.toNat_not]
    simp only [IntKind.wrap, IntKind.bits, IntKind.signed]
    simp
    omega
  refine ⟨?_, ?_, ?_⟩
  · show IntKind.wrap .i64 ((BitVec.ofInt 64 a ^^^ BitVec.ofInt 64 0).toNat : Int) = a
    rw [show BitVec.ofInt 64 0 = 0#64 from rfl, BitVec.xor_zero, hb]
    simp only [IntKind.wrap, IntKind.bits, IntKind.signed]
    simp
    omega
  · show IntKind.wrap .i64 ((BitVec.ofInt 64 a ^^^ BitVec.ofInt 64 (-1)).toNat : Int) = _
    rw [hx, BitVec.xor_allOnes, hn]
  · show IntKind.wrap .i64 ((BitVec.ofInt 64 (-1) ^^^ BitVec.ofInt 64 a).toNat : Int) = _
    rw [hx, BitVec.allOnes_xor, hn]
theorem zag_range (u : Int) (h : u64 u) : r64 (zagI u) := by
  unfold u64 at h
  unfold zagI r64
  split <;> omega
theorem zag_zig (n : Int) (h : r64 n) : zagI (zig n) = n := by
  unfold r64 at h
  unfold zagI zig
  split <;> split <;> omega
theorem half (u : Int) (h : u64 u) : u.fdiv (2 ^ min (Int.toNat 1) (IntKind.bits .u64)) = u / 2 ∧ r64 (u / 2) := by
  unfold u64 at h
  refine ⟨?_, by unfold r64; omega⟩
  rw [show (2 : Int) ^ min (Int.toNat 1) (IntKind.bits .u64) = 2 by decide, Int.fdiv_eq_ediv_of_nonneg _ (by omega)]
theorem zag_bits (u : Int) (h : u64 u) : bitsV .i64 (· ^^^ ·) (IntKind.wrap .i64 (u.fdiv (2 ^ min (Int.toNat 1) (IntKind.bits .u64)))) (IntKind.wrap .i64 (0 - IntKind.wrap .i64 (bitsV .u64 (· &&& ·) u 1))) = zagI u := by
  rw [(half u h).1, and1 u h, wrap_i64 (half u h).2]
  have hx := xor_i64 _ (half u h).2
  unfold zagI
  rcases (show u % 2 = 0 ∨ u % 2 = 1 by omega) with e | e
  · rw [e, if_neg (by decide), show IntKind.wrap .i64 (0 - IntKind.wrap .i64 0) = 0 by decide, hx.1]
  · rw [e, if_pos rfl, show IntKind.wrap .i64 (0 - IntKind.wrap .i64 1) = -1 by decide, hx.2.1]

structure FsR where
  zag : Int → Int
  zag2 : Int → Int
  u64 : Int → Prop
  zig : Int → Int
  r64 : Int → Prop
  rd : List (List PD) → Int → Int → Prop
  num : List (List PD) → Int → Int → Int × Int × Int
  cnt : List (List PD) → Int → Int → Int → Int × Int × Int
  text : List (List PD) → Int → Int → Int → ByteArray × Int × Int
  flag : List (List PD) → Int → Int → Bool × Int × Int
  fin : List (List PD) → Int → Int → Int
  fail : Int → Int
  err : Int → Int → Int
def FsR0 : FsR where
  zag := zagI
  zag2 := zagI
  u64 := u64
  zig := zig
  r64 := r64
  rd := isRd
  num := numR
  cnt := cntR
  text := textR
  flag := flagR
  fin := endR
  fail := failR
  err := errR
set_option maxRecDepth 100000 in
theorem v_zag (u : Int) (hp0 : FsR0.u64 u) : FnV Try.prog 75 [.d (.sc (.int .u64 u))] (intD ((zagI u))) := by
  refine FnD_cbv (T := fun _ => tabY [] []) (H := fun _ => []) (tabY_ok _ _) noK_ok follows_mixed Try.func75 rfl Try.ntmps75 (by simp) fun A X W hA hX hW => ?_
  cbv
  repeat' first
    | (refine part (fun h => ?_) (fun h => ?_) <;> try cbv)
    | (refine And.intro ?_ ?_)
  all_goals subst hA hX hW
  all_goals try (show Region.lexB _ _ = true; kernel_rfl)
  all_goals try (show turnsB _ = true; kernel_rfl)
  all_goals simp only [A0, FsR0, decide_eq_true_eq, decide_eq_false_iff_not, Bool.not_eq_true', Bool.not_eq_false'] at *
  all_goals first
    | decide
    | (refine ret_v ?_ rfl
       rw [zag_bits u hp0]
       rfl)
def kn_zag (F : FsR) : FuncId × (List DV → RV) := (75, fun args => match args with
  | [.d (.sc (.int .u64 u))] => some ([F.u64 u], intD ((F.zag u)))
  | _ => none)
theorem ok_zag (args : List DV) (cs : List Prop) (r : DV) (h : (kn_zag FsR0).2 args = some (cs, r)) (hc : allP cs True) : FnV Try.prog 75 args r ∧ closedL 0 args = true := by
  unfold kn_zag at h
  simp only at h
  split at h
  · cases h; exact ⟨v_zag _ hc.1, rfl⟩
  · cases h
set_option maxRecDepth 100000 in
theorem v_zag2 (u : Int) (hp0 : FsR0.u64 u) : FnV Try.prog 81 [.d (.sc (.int .u64 u))] (intD ((zagI u))) := by
  refine FnD_cbv (T := fun _ => tabY [] []) (H := fun _ => []) (tabY_ok _ _) noK_ok follows_mixed Try.func81 rfl Try.ntmps81 (by simp) fun A X W hA hX hW => ?_
  cbv
  repeat' first
    | (refine part (fun h => ?_) (fun h => ?_) <;> try cbv)
    | (refine And.intro ?_ ?_)
  all_goals subst hA hX hW
  all_goals try (show Region.lexB _ _ = true; kernel_rfl)
  all_goals try (show turnsB _ = true; kernel_rfl)
  all_goals simp only [A0, FsR0, decide_eq_true_eq, decide_eq_false_iff_not, Bool.not_eq_true', Bool.not_eq_false'] at *
  all_goals try (first | decide | done)
  all_goals
    replace hp0 : u64 u := hp0
    have h2 := half u hp0
    rw [and1 u hp0] at h
    rw [h2.1, wrap_i64 h2.2]
    refine ret_v ?_ rfl
    simp only [zagI]
  · rw [show (if IntKind.i64.signed = true then (-1 : Int) else IntKind.i64.max) = -1 from rfl, (xor_i64 _ h2.2).2.2, if_pos h]; rfl
  · rw [if_neg h]; rfl
def kn_zag2 (F : FsR) : FuncId × (List DV → RV) := (81, fun args => match args with
  | [.d (.sc (.int .u64 u))] => some ([F.u64 u], intD ((F.zag2 u)))
  | _ => none)
theorem ok_zag2 (args : List DV) (cs : List Prop) (r : DV) (h : (kn_zag2 FsR0).2 args = some (cs, r)) (hc : allP cs True) : FnV Try.prog 81 args r ∧ closedL 0 args = true := by
  unfold kn_zag2 at h
  simp only at h
  split at h
  · cases h; exact ⟨v_zag2 _ hc.1, rfl⟩
  · cases h
theorem RetW.ofEq {k : Nat} {r res : DV} {st st2 : Store} (h1 : r = res) (h2 : st = st2) : RetW k (fun r st' => r = res ∧ st' = st2) r st := RetW.refl ⟨h1, h2⟩
set_option maxRecDepth 100000 in
theorem v_pfail (xs : List (List PD)) (a w : Int) (a2 : Int) (e : Int) (hp0 : FsR0.rd xs a w) : FnD Try.prog 74 [.ref 0 0 0, .d (.sc (.int .i64 a2)), .d (.sc (.int .i64 e))] [rdB 95 xs a w] (fun r st' => r = .tup [] ∧ st' = [rdB 95 xs a2 e]) := by
  obtain ⟨F, hF⟩ : ∃ F, F = FsR0 := ⟨_, rfl⟩
  refine FnD_cbv (T := fun _ => tabY [] []) (H := fun _ => []) (tabY_ok _ _) noK_ok follows_mixed Try.func74 rfl Try.ntmps74 (by simp) fun A X W hA hX hW => ?_
  cbv
  subst hA hX hW
  exact RetW.refl ⟨rfl, rfl⟩
def kb_pfail (F : FsR) : FuncId × (List DV → Store → SV) := (74, fun args st => match args with
  | [.ref b ver o, .d (.sc (.int .i64 a2)), .d (.sc (.int .i64 e))] => (match st[b]? with
    | some ⟨t, [.d (.slc 1 xs), .d (.sc (.int .i64 a)), .d (.sc (.int .i64 w))], false, v, true⟩ => (bif (ver == 0) && (o == 0) && (v == 0) && (t == 95) then some ([F.rd xs a w], .tup [], st.set b (rdB 95 xs a2 e)) else none)
    | _ => none)
  | _ => none)
theorem okb_pfail (args : List DV) (st : Store) (cs : List Prop) (r : DV) (st' : Store) (h : (kb_pfail FsR0).2 args st = some (cs, r, st')) (hc : allP cs True) (K : DV → Store → Prop) (hk : K r st') : FnD Try.prog 74 args st K := by
  unfold kb_pfail at h
  simp only at h
  split at h
  · split at h
    · rename_i hb
      simp only [cond_eq_ite, Bool.and_eq_true, beq_iff_eq, Option.ite_none_right_eq_some] at h
      obtain ⟨⟨⟨⟨rfl, rfl⟩, rfl⟩, rfl⟩, h⟩ := h
      cases h
      exact FnD.one _ (v_pfail _ _ _ _ _ hc.1) hb rfl rfl rfl rfl hk
    · cases h
  · cases h
set_option maxRecDepth 100000 in
theorem v_pwrong (xs : List (List PD)) (a w : Int) (hp0 : FsR0.rd xs a w) : FnD Try.prog 27 [.ref 0 0 0] [rdB 95 xs a w] (fun r st' => r = .d (.sc (.int .i64 w)) ∧ st' = [rdB 95 xs a w]) := by
  obtain ⟨F, hF⟩ : ∃ F, F = FsR0 := ⟨_, rfl⟩
  refine FnD_cbv (T := fun _ => tabY [] []) (H := fun _ => []) (tabY_ok _ _) noK_ok follows_mixed Try.func27 rfl Try.ntmps27 (by simp) fun A X W hA hX hW => ?_
  cbv
  subst hA hX hW
  exact RetW.refl ⟨rfl, rfl⟩
def kb_pwrong (F : FsR) : FuncId × (List DV → Store → SV) := (27, fun args st => match args with
  | [.ref b ver o] => (match st[b]? with
    | some ⟨t, [.d (.slc 1 xs), .d (.sc (.int .i64 a)), .d (.sc (.int .i64 w))], false, v, true⟩ => (bif (ver == 0) && (o == 0) && (v == 0) && (t == 95) then some ([F.rd xs a w], .d (.sc (.int .i64 w)), st.set b (rdB 95 xs a w)) else none)
    | _ => none)
  | _ => none)
theorem okb_pwrong (args : List DV) (st : Store) (cs : List Prop) (r : DV) (st' : Store) (h : (kb_pwrong FsR0).2 args st = some (cs, r, st')) (hc : allP cs True) (K : DV → Store → Prop) (hk : K r st') : FnD Try.prog 27 args st K := by
  unfold kb_pwrong at h
  simp only at h
  split at h
  · split at h
    · rename_i hb
      simp only [cond_eq_ite, Bool.and_eq_true, beq_iff_eq, Option.ite_none_right_eq_some] at h
      obtain ⟨⟨⟨⟨rfl, rfl⟩, rfl⟩, rfl⟩, h⟩ := h
      cases h
      exact FnD.one _ (v_pwrong _ _ _ hc.1) hb rfl rfl rfl rfl hk
    · cases h
  · cases h
set_option maxRecDepth 100000 in
theorem v_pFail (xs : List (List PD)) (a w : Int) (hp0 : FsR0.rd xs a w) : FnD Try.prog 71 [.ref 0 0 0] [rdB 95 xs a w] (fun r st' => r = .tup [] ∧ st' = [rdB 95 xs a (FsR0.fail w)]) := by
  obtain ⟨F, hF⟩ : ∃ F, F = FsR0 := ⟨_, rfl⟩
  refine FnD_cbv (T := fun _ => tabY [] []) (H := fun _ => []) (tabY_ok _ _) noK_ok follows_mixed Try.func71 rfl Try.ntmps71 (by simp) fun A X W hA hX hW => ?_
  cbv
  refine part (fun h => ?_) (fun h => ?_)
  all_goals
    cbv
    subst hA hX hW hF
    simp only [A0, decide_eq_true_eq, decide_eq_false_iff_not] at h
    refine RetW.refl ⟨rfl, ?_⟩
    simp [FsR0, failR, h]
def kb_pFail (F : FsR) : FuncId × (List DV → Store → SV) := (71, fun args st => match args with
  | [.ref b ver o] => (match st[b]? with
    | some ⟨t, [.d (.slc 1 xs), .d (.sc (.int .i64 a)), .d (.sc (.int .i64 w))], false, v, true⟩ => (bif (ver == 0) && (o == 0) && (v == 0) && (t == 95) then some ([F.rd xs a w], .tup [], st.set b (rdB 95 xs a (F.fail w))) else none)
    | _ => none)
  | _ => none)
theorem okb_pFail (args : List DV) (st : Store) (cs : List Prop) (r : DV) (st' : Store) (h : (kb_pFail FsR0).2 args st = some (cs, r, st')) (hc : allP cs True) (K : DV → Store → Prop) (hk : K r st') : FnD Try.prog 71 args st K := by
  unfold kb_pFail at h
  simp only at h
  split at h
  · split at h
    · rename_i hb
      simp only [cond_eq_ite, Bool.and_eq_true, beq_iff_eq, Option.ite_none_right_eq_some] at h
      obtain ⟨⟨⟨⟨rfl, rfl⟩, rfl⟩, rfl⟩, h⟩ := h
      cases h
      exact FnD.one _ (v_pFail _ _ _ hc.1) hb rfl rfl rfl rfl hk
    · cases h
  · cases h
set_option maxRecDepth 100000 in
theorem v_rfail (xs : List (List PD)) (a w : Int) (e : Int) (hp0 : FsR0.rd xs a w) : FnD Try.prog 80 [.ref 0 0 0, .d (.sc (.int .i64 e))] [rdB 59 xs a w] (fun r st' => r = .tup [] ∧ st' = [rdB 59 xs a (FsR0.err w e)]) := by
  obtain ⟨F, hF⟩ : ∃ F, F = FsR0 := ⟨_, rfl⟩
  refine FnD_cbv (T := fun _ => tabY [] []) (H := fun _ => []) (tabY_ok _ _) noK_ok follows_mixed Try.func80 rfl Try.ntmps80 (by simp) fun A X W hA hX hW => ?_
  cbv
  refine part (fun h => ?_) (fun h => ?_)
  all_goals
    cbv
    subst hA hX hW hF
    simp only [A0, decide_eq_true_eq, decide_eq_false_iff_not] at h
    refine RetW.refl ⟨rfl, ?_⟩
    simp [FsR0, errR, h]
def kb_rfail (F : FsR) : FuncId × (List DV → Store → SV) := (80, fun args st => match args with
  | [.ref b ver o, .d (.sc (.int .i64 e))] => (match st[b]? with
    | some ⟨t, [.d (.slc 1 xs), .d (.sc (.int .i64 a)), .d (.sc (.int .i64 w))], false, v, true⟩ => (bif (ver == 0) && (o == 0) && (v == 0) && (t == 59) then some ([F.rd xs a w], .tup [], st.set b (rdB 59 xs a (F.err w e))) else none)
    | _ => none)
  | _ => none)
theorem okb_rfail (args : List DV) (st : Store) (cs : List Prop) (r : DV) (st' : Store) (h : (kb_rfail FsR0).2 args st = some (cs, r, st')) (hc : allP cs True) (K : DV → Store → Prop) (hk : K r st') : FnD Try.prog 80 args st K := by
  unfold kb_rfail at h
  simp only at h
  split at h
  · split at h
    · rename_i hb
      simp only [cond_eq_ite, Bool.and_eq_true, beq_iff_eq, Option.ite_none_right_eq_some] at h
      obtain ⟨⟨⟨⟨rfl, rfl⟩, rfl⟩, rfl⟩, h⟩ := h
      cases h
      exact FnD.one _ (v_rfail _ _ _ _ hc.1) hb rfl rfl rfl rfl hk
    · cases h
  · cases h
theorem isRd_len {xs : List (List PD)} {a w : Int} (h : isRd xs a w) : ∃ bs, xs = bytesP bs ∧ bytesOf xs = bs ∧ xs.length = bs.length ∧ bs.length ≤ 8000000 ∧ 0 ≤ a ∧ a ≤ bs.length ∧ 0 ≤ w ∧ w ≤ 100 := by
  obtain ⟨⟨bs, rfl, hb⟩, h1, h2, h3, h4⟩ := h
  rw [bytesP_length] at h2
  exact ⟨bs, rfl, bytesOf_bytesP bs, bytesP_length bs, hb, h1, h2, h3, h4⟩
theorem isRd_row {xs : List (List PD)} {a w : Int} (h : isRd xs a w) : (a = xs.length ∧ (bytesOf xs)[a.toNat]? = none) ∨ ∃ (b : UInt8) (c : Nat), b.toNat = c ∧ c < 256 ∧ a < xs.length ∧ (bytesOf xs)[a.toNat]? = some b ∧ xs.getD a.toNat [] = [.sc (.int .u8 (c : Int))] := by
  obtain ⟨bs, rfl, hby, hl, hb, h0, h1, _⟩ := isRd_len h
  rw [hby, hl]
  rcases Int.lt_or_eq_of_le h1 with h2 | h2
  · have hj : a.toNat < bs.length := by omega
    exact .inr ⟨bs[a.toNat], _, rfl, UInt8.toNat_lt _, h2, List.getElem?_eq_getElem hj, rowB rfl h0 h2⟩
  · exact .inl ⟨h2, List.getElem?_eq_none (by omega)⟩
set_option maxRecDepth 100000 in
theorem v_pEnd (xs : List (List PD)) (a w : Int) (hp0 : FsR0.rd xs a w) : FnD Try.prog 29 [.ref 0 0 0] [rdB 95 xs a w] (fun r st' => r = .d (.sc (.int .i64 (FsR0.fin xs a w))) ∧ st' = [rdB 95 xs a (FsR0.fin xs a w)]) := by
  obtain ⟨F, hF⟩ : ∃ F, F = FsR0 := ⟨_, rfl⟩
  refine FnD_cbv (T := fun _ => tabY [] []) (H := fun _ => []) (tabY_ok _ _) noK_ok follows_mixed Try.func29 rfl Try.ntmps29 (by simp) fun A X W hA hX hW => ?_
  cbv
  repeat' first
    | (refine part (fun h => ?_) (fun h => ?_) <;> try cbv)
    | (refine And.intro ?_ ?_)
    | (with_reducible refine callB hX hB ?_) <;> cbv
  all_goals subst hA hX hW hF
  all_goals have hrow := isRd_row hp0
  all_goals obtain ⟨bs, hxs, hby, hlx, hb, h0, h1, hw0, hw1⟩ := isRd_len hp0
  all_goals have hwa : IntKind.wrap .i64 (a + 1) = a + 1 := wrap_i64 (by unfold r64; omega)
  all_goals try (show Region.lexB _ _ = true; kernel_rfl)
  all_goals try (show turnsB _ = true; kernel_rfl)
  all_goals simp only [A0, FsR0, decide_eq_true_eq, decide_eq_false_iff_not, Bool.not_eq_true', Bool.not_eq_false', Bool.and_eq_true] at *
  all_goals first
    | assumption
    | exact id
    | (intros; first | assumption | trivial | (simp_all; done))
    | (refine RetW.ofEq ?_ ?_ <;> simp_all [endR, errR] <;> omega)
    | (refine RetW.ofEq ?_ ?_ <;> simp_all [endR, errR])
def kb_pEnd (F : FsR) : FuncId × (List DV → Store → SV) := (29, fun args st => match args with
  | [.ref b ver o] => (match st[b]? with
    | some ⟨t, [.d (.slc 1 xs), .d (.sc (.int .i64 a)), .d (.sc (.int .i64 w))], false, v, true⟩ => (bif (ver == 0) && (o == 0) && (v == 0) && (t == 95) then some ([F.rd xs a w], .d (.sc (.int .i64 (F.fin xs a w))), st.set b (rdB 95 xs a (F.fin xs a w))) else none)
    | _ => none)
  | _ => none)
theorem okb_pEnd (args : List DV) (st : Store) (cs : List Prop) (r : DV) (st' : Store) (h : (kb_pEnd FsR0).2 args st = some (cs, r, st')) (hc : allP cs True) (K : DV → Store → Prop) (hk : K r st') : FnD Try.prog 29 args st K := by
  unfold kb_pEnd at h
  simp only at h
  split at h
  · split at h
    · rename_i hb
      simp only [cond_eq_ite, Bool.and_eq_true, beq_iff_eq, Option.ite_none_right_eq_some] at h
      obtain ⟨⟨⟨⟨rfl, rfl⟩, rfl⟩, rfl⟩, h⟩ := h
      cases h
      exact FnD.one _ (v_pEnd _ _ _ hc.1) hb rfl rfl rfl rfl hk
    · cases h
  · cases h
set_option maxRecDepth 100000 in
theorem v_rEnd (xs : List (List PD)) (a w : Int) (hp0 : FsR0.rd xs a w) : FnD Try.prog 65 [.ref 0 0 0] [rdB 59 xs a w] (fun r st' => r = .d (.sc (.int .i64 (FsR0.fin xs a w))) ∧ st' = [rdB 59 xs a (FsR0.fin xs a w)]) := by
  obtain ⟨F, hF⟩ : ∃ F, F = FsR0 := ⟨_, rfl⟩
  have hB : SoundB Try.prog [kb_rfail F] := by subst hF; exact orB_ok okb_rfail noB_ok
  refine FnD_cbv (T := fun _ => tabY [] []) (H := fun _ => []) (tabY_ok _ _) noK_ok follows_mixed Try.func65 rfl Try.ntmps65 (by simp) fun A X W hA hX hW => ?_
  cbv
  repeat' first
    | (refine part (fun h => ?_) (fun h => ?_) <;> try cbv)
    | (refine And.intro ?_ ?_)
    | (with_reducible refine callB hX hB ?_) <;> cbv
  all_goals subst hA hX hW hF
  all_goals have hrow := isRd_row hp0
  all_goals obtain ⟨bs, hxs, hby, hlx, hb, h0, h1, hw0, hw1⟩ := isRd_len hp0
  all_goals have hwa : IntKind.wrap .i64 (a + 1) = a + 1 := wrap_i64 (by unfold r64; omega)
  all_goals try (show Region.lexB _ _ = true; kernel_rfl)
  all_goals try (show turnsB _ = true; kernel_rfl)
  all_goals simp only [A0, FsR0, decide_eq_true_eq, decide_eq_false_iff_not, Bool.not_eq_true', Bool.not_eq_false', Bool.and_eq_true] at *
  all_goals first
    | assumption
    | exact id
    | (intros; first | assumption | trivial | (simp_all; done))
    | (refine RetW.ofEq ?_ ?_ <;> simp_all [endR, errR] <;> omega)
    | (refine RetW.ofEq ?_ ?_ <;> simp_all [endR, errR])
def kb_rEnd (F : FsR) : FuncId × (List DV → Store → SV) := (65, fun args st => match args with
  | [.ref b ver o] => (match st[b]? with
    | some ⟨t, [.d (.slc 1 xs), .d (.sc (.int .i64 a)), .d (.sc (.int .i64 w))], false, v, true⟩ => (bif (ver == 0) && (o == 0) && (v == 0) && (t == 59) then some ([F.rd xs a w], .d (.sc (.int .i64 (F.fin xs a w))), st.set b (rdB 59 xs a (F.fin xs a w))) else none)
    | _ => none)
  | _ => none)
theorem okb_rEnd (args : List DV) (st : Store) (cs : List Prop) (r : DV) (st' : Store) (h : (kb_rEnd FsR0).2 args st = some (cs, r, st')) (hc : allP cs True) (K : DV → Store → Prop) (hk : K r st') : FnD Try.prog 65 args st K := by
  unfold kb_rEnd at h
  simp only at h
  split at h
  · split at h
    · rename_i hb
      simp only [cond_eq_ite, Bool.and_eq_true, beq_iff_eq, Option.ite_none_right_eq_some] at h
      obtain ⟨⟨⟨⟨rfl, rfl⟩, rfl⟩, rfl⟩, h⟩ := h
      cases h
      exact FnD.one _ (v_rEnd _ _ _ hc.1) hb rfl rfl rfl rfl hk
    · cases h
  · cases h
set_option maxRecDepth 100000 in
theorem v_pFlag (xs : List (List PD)) (a w : Int) (hp0 : FsR0.rd xs a w) : FnD Try.prog 70 [.ref 0 0 0] [rdB 95 xs a w] (fun r st' => r = .d (.sc (.bool (FsR0.flag xs a w).1)) ∧ st' = [rdB 95 xs (FsR0.flag xs a w).2.1 (FsR0.flag xs a w).2.2]) := by
  obtain ⟨F, hF⟩ : ∃ F, F = FsR0 := ⟨_, rfl⟩
  have hB : SoundB Try.prog [kb_pfail F] := by subst hF; exact orB_ok okb_pfail noB_ok
  refine FnD_cbv (T := fun _ => tabY [33] []) (H := fun _ => []) (tabY_ok _ _) noK_ok follows_mixed Try.func70 rfl Try.ntmps70 (by simp) fun A X W hA hX hW => ?_
  cbv
  repeat' first
    | (refine part (fun h => ?_) (fun h => ?_) <;> try cbv)
    | (refine And.intro ?_ ?_)
    | (with_reducible refine callB hX hB ?_) <;> cbv
  all_goals subst hA hX hW hF
  all_goals have hrow := isRd_row hp0
  all_goals obtain ⟨bs, hxs, hby, hlx, hb, h0, h1, hw0, hw1⟩ := isRd_len hp0
  all_goals have hwa : IntKind.wrap .i64 (a + 1) = a + 1 := wrap_i64 (by unfold r64; omega)
  all_goals try (show Region.lexB _ _ = true; kernel_rfl)
  all_goals try (show turnsB _ = true; kernel_rfl)
  all_goals simp only [A0, FsR0, decide_eq_true_eq, decide_eq_false_iff_not, Bool.not_eq_true', Bool.not_eq_false', Bool.and_eq_true] at *
  all_goals first
    | assumption
    | omega
    | skip
  all_goals rcases hrow with ⟨ha, hn⟩ | ⟨b, c, hbc, hc, ha, hn, hr⟩
  all_goals first
    | omega
    | (refine RetW.ofEq ?_ ?_ <;> (simp_all [flagR, flagL, errR]; done))
    | (refine RetW.ofEq ?_ ?_ <;> simp_all [flagR, flagL, errR] <;> (split <;> first | (exfalso; omega) | simp))
    | (exfalso; simp_all; omega)
    | (simp_all; done)
def kb_pFlag (F : FsR) : FuncId × (List DV → Store → SV) := (70, fun args st => match args with
  | [.ref b ver o] => (match st[b]? with
    | some ⟨t, [.d (.slc 1 xs), .d (.sc (.int .i64 a)), .d (.sc (.int .i64 w))], false, v, true⟩ => (bif (ver == 0) && (o == 0) && (v == 0) && (t == 95) then some ([F.rd xs a w], .d (.sc (.bool (F.flag xs a w).1)), st.set b (rdB 95 xs (F.flag xs a w).2.1 (F.flag xs a w).2.2)) else none)
    | _ => none)
  | _ => none)
theorem okb_pFlag (args : List DV) (st : Store) (cs : List Prop) (r : DV) (st' : Store) (h : (kb_pFlag FsR0).2 args st = some (cs, r, st')) (hc : allP cs True) (K : DV → Store → Prop) (hk : K r st') : FnD Try.prog 70 args st K := by
  unfold kb_pFlag at h
  simp only at h
  split at h
  · split at h
    · rename_i hb
      simp only [cond_eq_ite, Bool.and_eq_true, beq_iff_eq, Option.ite_none_right_eq_some] at h
      obtain ⟨⟨⟨⟨rfl, rfl⟩, rfl⟩, rfl⟩, h⟩ := h
      cases h
      exact FnD.one _ (v_pFlag _ _ _ hc.1) hb rfl rfl rfl rfl hk
    · cases h
  · cases h
set_option maxRecDepth 100000 in
theorem v_rFlag (xs : List (List PD)) (a w : Int) (hp0 : FsR0.rd xs a w) : FnD Try.prog 72 [.ref 0 0 0] [rdB 59 xs a w] (fun r st' => r = .d (.sc (.bool (FsR0.flag xs a w).1)) ∧ st' = [rdB 59 xs (FsR0.flag xs a w).2.1 (FsR0.flag xs a w).2.2]) := by
  obtain ⟨F, hF⟩ : ∃ F, F = FsR0 := ⟨_, rfl⟩
  have hB : SoundB Try.prog [kb_rfail F] := by subst hF; exact orB_ok okb_rfail noB_ok
  refine FnD_cbv (T := fun _ => tabY [29] []) (H := fun _ => []) (tabY_ok _ _) noK_ok follows_mixed Try.func72 rfl Try.ntmps72 (by simp) fun A X W hA hX hW => ?_
  cbv
  repeat' first
    | (refine part (fun h => ?_) (fun h => ?_) <;> try cbv)
    | (refine And.intro ?_ ?_)
    | (with_reducible refine callB hX hB ?_) <;> cbv
  all_goals subst hA hX hW hF
  all_goals have hrow := isRd_row hp0
  all_goals obtain ⟨bs, hxs, hby, hlx, hb, h0, h1, hw0, hw1⟩ := isRd_len hp0
  all_goals have hwa : IntKind.wrap .i64 (a + 1) = a + 1 := wrap_i64 (by unfold r64; omega)
  all_goals try (show Region.lexB _ _ = true; kernel_rfl)
  all_goals try (show turnsB _ = true; kernel_rfl)
  all_goals simp only [A0, FsR0, decide_eq_true_eq, decide_eq_false_iff_not, Bool.not_eq_true', Bool.not_eq_false', Bool.and_eq_true] at *
  all_goals first
    | assumption
    | omega
    | skip
  all_goals rcases hrow with ⟨ha, hn⟩ | ⟨b, c, hbc, hc, ha, hn, hr⟩
  all_goals first
    | omega
    | (refine RetW.ofEq ?_ ?_ <;> (simp_all [flagR, flagL, errR]; done))
    | (refine RetW.ofEq ?_ ?_ <;> simp_all [flagR, flagL, errR] <;> (split <;> first | (exfalso; omega) | simp))
    | (exfalso; simp_all; omega)
    | (simp_all; done)
def kb_rFlag (F : FsR) : FuncId × (List DV → Store → SV) := (72, fun args st => match args with
  | [.ref b ver o] => (match st[b]? with
    | some ⟨t, [.d (.slc 1 xs), .d (.sc (.int .i64 a)), .d (.sc (.int .i64 w))], false, v, true⟩ => (bif (ver == 0) && (o == 0) && (v == 0) && (t == 59) then some ([F.rd xs a w], .d (.sc (.bool (F.flag xs a w).1)), st.set b (rdB 59 xs (F.flag xs a w).2.1 (F.flag xs a w).2.2)) else none)
    | _ => none)
  | _ => none)
theorem okb_rFlag (args : List DV) (st : Store) (cs : List Prop) (r : DV) (st' : Store) (h : (kb_rFlag FsR0).2 args st = some (cs, r, st')) (hc : allP cs True) (K : DV → Store → Prop) (hk : K r st') : FnD Try.prog 72 args st K := by
  unfold kb_rFlag at h
  simp only at h
  split at h
  · split at h
    · rename_i hb
      simp only [cond_eq_ite, Bool.and_eq_true, beq_iff_eq, Option.ite_none_right_eq_some] at h
      obtain ⟨⟨⟨⟨rfl, rfl⟩, rfl⟩, rfl⟩, h⟩ := h
      cases h
      exact FnD.one _ (v_rFlag _ _ _ hc.1) hb rfl rfl rfl rfl hk
    · cases h
  · cases h
theorem lor_eq (a b c : Bool) : (a || b && c) = true ↔ (a = true ∨ b = true ∧ c = true) := by cases a <;> cases b <;> cases c <;> simp
theorem sev_lt : ∀ (l : List UInt8) (i u : Nat), i ≤ 9 → u < 2 ^ (7 * i) → ∀ m k, sev i u l = .num m k → m < 18446744073709551616 ∧ i < k ∧ k ≤ i + l.length ∧ k ≤ 10
  | [], i, u, _, _, m, k, h => by simp [sev] at h
  | c :: l, i, u, hi, hu, m, k, h => by
      have hc : c.toNat < 256 := c.toNat_lt
      unfold sev at h
      split at h
      · cases h
      · rename_i hf
        have hb : u + c.toNat % 128 * 2 ^ (7 * i) < 18446744073709551616 := by
          rcases Nat.lt_or_eq_of_le hi with h9 | h9
          · have h1 : c.toNat % 128 < 128 := Nat.mod_lt _ (by decide)
            have h2 : u + c.toNat % 128 * 2 ^ (7 * i) < 128 * 2 ^ (7 * i) := by
              have : c.toNat % 128 * 2 ^ (7 * i) + 2 ^ (7 * i) ≤ 128 * 2 ^ (7 * i) := by
                rw [← Nat.succ_mul]
                exact Nat.mul_le_mul_right _ h1
              omega
            have h3 : 128 * 2 ^ (7 * i) ≤ 128 * 2 ^ (7 * 8) := Nat.mul_le_mul_left _ (Nat.pow_le_pow_right (by decide) (by omega))
            omega
          · subst h9
            have : c.toNat % 128 ≤ 1 := by
              simp only [not_or, not_and] at hf
              have := hf.2 trivial
              omega
            have h1 : u < 2 ^ 63 := by simpa using hu
            have h2 : c.toNat % 128 * 2 ^ (7 * 9) ≤ 1 * 2 ^ (7 * 9) := Nat.mul_le_mul_right _ this
            omega
        split at h
        · cases h
          simp only [List.length_cons]
          omega
        · rename_i h128
          rcases Nat.lt_or_eq_of_le hi with h9 | h9
          · have := sev_lt l (i + 1) _ (by omega) (by
              have h1 : c.toNat % 128 < 128 := Nat.mod_lt _ (by decide)
              have : c.toNat % 128 * 2 ^ (7 * i) + 2 ^ (7 * i) ≤ 128 * 2 ^ (7 * i) := by
                rw [← Nat.succ_mul]
                exact Nat.mul_le_mul_right _ h1
              have e : 2 ^ (7 * (i + 1)) = 128 * 2 ^ (7 * i) := by rw [Nat.mul_add, Nat.pow_add, Nat.mul_comm]
              omega) m k h
            simp only [List.length_cons]
            omega
          · subst h9
            simp only [not_or, not_and] at hf
            have := hf.2 trivial
            omega
/-- One byte of a number: what the loop takes of it. -/
theorem sev_step {bs : List UInt8} {n i u : Nat} {b : UInt8} (hb : bs[n + i]? = some b) : sev i u (bs.drop (n + i)) = if (0 < i ∧ b.toNat = 0) ∨ (i = 9 ∧ 1 < b.toNat) then .form else if b.toNat < 128 then .num (u + b.toNat % 128 * 2 ^ (7 * i)) (i + 1) else sev (i + 1) (u + b.toNat % 128 * 2 ^ (7 * i)) (bs.drop (n + (i + 1))) := by
  have hj : n + i < bs.length := (List.getElem?_eq_some_iff.1 hb).1
  have e : bs[n + i] = b := (List.getElem?_eq_some_iff.1 hb).2
  rw [List.drop_eq_getElem_cons hj, e]
  rfl
theorem sev_end {bs : List UInt8} {n i u : Nat} (hb : bs.length ≤ n + i) : sev i u (bs.drop (n + i)) = .short := by
  rw [List.drop_eq_nil_of_le hb]
  rfl
/-- The bits of one byte, laid in. -/
theorem lay (u i c : Nat) (hc : c < 256) (hi : i ≤ 9) (hu : u < 2 ^ (7 * i)) (h9 : i = 9 → c ≤ 1) :
    bitsV .u64 (· ||| ·) (u : Int) (IntKind.wrap .u64 (IntKind.wrap .u64 (bitsV .u8 (· &&& ·) (c : Int) 127) * 2 ^ min (Int.toNat ((7 * i : Nat) : Int)) (IntKind.bits .u64))) = ((u + c % 128 * 2 ^ (7 * i) : Nat) : Int) ∧ u + c % 128 * 2 ^ (7 * i) < 18446744073709551616 := by
  have hlt : u + c % 128 * 2 ^ (7 * i) < 18446744073709551616 := by
    rcases Nat.lt_or_eq_of_le hi with h | h
    · have h1 : c % 128 < 128 := Nat.mod_lt _ (by decide)
      have : c % 128 * 2 ^ (7 * i) + 2 ^ (7 * i) ≤ 128 * 2 ^ (7 * i) := by
        rw [← Nat.succ_mul]
        exact Nat.mul_le_mul_right _ h1
      have h3 : 128 * 2 ^ (7 * i) ≤ 128 * 2 ^ (7 * 8) := Nat.mul_le_mul_left _ (Nat.pow_le_pow_right (by decide) (by omega))
      omega
    · subst h
      have := h9 rfl
      have h1 : u < 2 ^ 63 := by simpa using hu
      have h2 : c % 128 * 2 ^ (7 * 9) ≤ 1 * 2 ^ (7 * 9) := Nat.mul_le_mul_right _ (by omega)
      omega
  refine ⟨?_, hlt⟩
  have e1 := and127f ⟨c, hc⟩
  simp only at e1
  rw [e1]
  have e3 : min (Int.toNat ((7 * i : Nat) : Int)) (IntKind.bits .u64) = 7 * i := by
    show min (7 * i) 64 = 7 * i
    omega
  have ew : IntKind.wrap .u64 ((c % 128 : Nat) : Int) = ((c % 128 : Nat) : Int) := wrap64_of (by omega) (by omega)
  rw [e3, ew]
  have e4 : ((c % 128 : Nat) : Int) * 2 ^ (7 * i) = ((c % 128 * 2 ^ (7 * i) : Nat) : Int) := by push_cast; rfl
  have ew2 : IntKind.wrap .u64 ((c % 128 * 2 ^ (7 * i) : Nat) : Int) = ((c % 128 * 2 ^ (7 * i) : Nat) : Int) := wrap64_of (by omega) (by omega)
  rw [e4, ew2]
  exact or_add u (c % 128) (7 * i) hu hlt
theorem lay_more (u i c : Nat) (hu : u < 2 ^ (7 * i)) : u + c % 128 * 2 ^ (7 * i) < 2 ^ (7 * (i + 1)) := by
  have h1 : c % 128 < 128 := Nat.mod_lt _ (by decide)
  have : c % 128 * 2 ^ (7 * i) + 2 ^ (7 * i) ≤ 128 * 2 ^ (7 * i) := by
    rw [← Nat.succ_mul]
    exact Nat.mul_le_mul_right _ h1
  have e : 2 ^ (7 * (i + 1)) = 128 * 2 ^ (7 * i) := by rw [Nat.mul_add, Nat.pow_add, Nat.mul_comm]
  omega
theorem num_short {xs : List (List PD)} {bs : List UInt8} {a : Int} {n m : Nat} (hby : bytesOf xs = bs) (h : sev 0 0 (bs.drop a.toNat) = sev n m (bs.drop (a.toNat + n))) (hl : bs.length ≤ a.toNat + n) : numR xs a 0 = (0, a, 3) := by
  simp [numR, numL, hby, h, sev_end hl]
theorem num_form {xs : List (List PD)} {bs : List UInt8} {a : Int} {n m c : Nat} {b : UInt8} (hby : bytesOf xs = bs) (h : sev 0 0 (bs.drop a.toNat) = sev n m (bs.drop (a.toNat + n))) (hb : bs[a.toNat + n]? = some b) (hbc : b.toNat = c) (hc : (0 < n ∧ c = 0) ∨ (n = 9 ∧ 1 < c)) : numR xs a 0 = (0, a, 4) := by
  rw [sev_step hb, hbc, if_pos hc] at h
  simp [numR, numL, hby, h]
theorem num_num {xs : List (List PD)} {bs : List UInt8} {a : Int} {n m c : Nat} {b : UInt8} (hby : bytesOf xs = bs) (h : sev 0 0 (bs.drop a.toNat) = sev n m (bs.drop (a.toNat + n))) (hb : bs[a.toNat + n]? = some b) (hbc : b.toNat = c) (hc : ¬ ((0 < n ∧ c = 0) ∨ (n = 9 ∧ 1 < c))) (h8 : c < 128) : numR xs a 0 = (zagI ((m + c % 128 * 2 ^ (7 * n) : Nat) : Int), a + n + 1, 0) := by
  rw [sev_step hb, hbc, if_neg hc, if_pos h8] at h
  simp [numR, numL, hby, h]
  omega
theorem num_next {bs : List UInt8} {a : Int} {n m c : Nat} {b : UInt8} (h : sev 0 0 (bs.drop a.toNat) = sev n m (bs.drop (a.toNat + n))) (hb : bs[a.toNat + n]? = some b) (hbc : b.toNat = c) (hc : ¬ ((0 < n ∧ c = 0) ∨ (n = 9 ∧ 1 < c))) (h8 : ¬ c < 128) : sev 0 0 (bs.drop a.toNat) = sev (n + 1) (m + c % 128 * 2 ^ (7 * n)) (bs.drop (a.toNat + (n + 1))) := by
  rw [sev_step hb, hbc, if_neg hc, if_neg h8] at h
  exact h

theorem isRd.at {xs : List (List PD)} {a w a' w' : Int} (h : isRd xs a w) (_ : True) (h0 : 0 ≤ a' ∧ a' ≤ xs.length) (h1 : 0 ≤ w' ∧ w' ≤ 100) : isRd xs a' w' := ⟨h.1, h0.1, h0.2, h1.1, h1.2⟩
/-- The loop's state: the place, the count, the bits. -/
def NumI (bs : List UInt8) (a p i u : Int) : Prop := ∃ n m : Nat, i = n ∧ u = m ∧ p = a + n ∧ n ≤ 9 ∧ m < 2 ^ (7 * n) ∧ a + n ≤ bs.length ∧ sev 0 0 (bs.drop a.toNat) = sev n m (bs.drop (a.toNat + n))
set_option maxRecDepth 100000 in
theorem v_pNum (xs : List (List PD)) (a w : Int) (hp0 : FsR0.rd xs a w) : FnD Try.prog 36 [.ref 0 0 0] [rdB 95 xs a w] (fun r st' => r = .d (.sc (.int .i64 (FsR0.num xs a w).1)) ∧ st' = [rdB 95 xs (FsR0.num xs a w).2.1 (FsR0.num xs a w).2.2]) := by
  obtain ⟨F, hF⟩ : ∃ F, F = FsR0 := ⟨_, rfl⟩
  have hH : SoundK Try.prog [kn_zag F] := by subst hF; exact orK_ok ok_zag noK_ok
  have hB : SoundB Try.prog [kb_pfail F] := by subst hF; exact orB_ok okb_pfail noB_ok
  refine FnD_cbv (T := fun _ => tabY [39] []) (H := fun _ => [kn_zag F]) (tabY_ok _ _) hH follows_mixed Try.func36 rfl Try.ntmps36 (by simp) fun A X W hA hX hW => ?_
  cbv
  refine part (fun h => ?_) (fun h => ?_)
  · cbv
    subst hA hX hW hF
    have hw : ¬ w = 0 := by simpa [A0] using h
    refine RetW.ofEq ?_ ?_ <;> simp [FsR0, numR, numL, hw]
  · have hw : w = 0 := by subst hA; simpa [A0] using h
    subst hw
    cbv
    obtain ⟨bs, hxs, hby, hlx, hb, h0, h1, -, -⟩ := isRd_len hp0
    refine loopL (T := fun _ => tabY [39] []) (H := fun _ => [kn_zag F]) (tabY_ok _ _) hH follows_mixed hA hX (fun x : Int × Int × Int => NumI bs a x.1 x.2.1 x.2.2)
      (fun x => [(0, .ref 0 0 0), (3, .d (.sc (.int .i64 a))), (4, .d (.sc (.int .u64 x.2.2))), (5, .d (.sc (.int .i64 x.2.1)))]) (fun x => [rdB 95 xs x.1 0])
      (fun x => bs.length - x.1.toNat) (a, 0, 0) ?_ ?_ ?_
    · exact ⟨0, 0, rfl, rfl, by simp, by omega, by simp, by simpa using h1, by simp⟩
    · subst hF
      exact told_less (by simp [toldP, getS])
    rintro R ⟨p, i, u⟩ hR hinv
    cbv
    repeat' first
      | (refine part (fun h => ?_) (fun h => ?_) <;> try cbv)
      | (refine And.intro ?_ ?_)
      | (with_reducible refine callB hX hB ?_) <;> cbv
    all_goals subst hR hA hX hW hF
    all_goals try (show Region.lexB _ _ = true; kernel_rfl)
    all_goals replace hinv : NumI bs a p i u := hinv
    all_goals obtain ⟨n, m, hi, hu, hp, i1, i2, i3, i4⟩ := hinv
    all_goals have hrow := isRd_row (xs := xs) (a := p) (w := 0) ⟨⟨bs, hxs, hb⟩, by omega, by omega, by omega, by omega⟩
    all_goals subst hi hu
    all_goals have e7 : IntKind.wrap .i64 (7 * (n : Int)) = ((7 * n : Nat) : Int) := by rw [wrap_i64 (by unfold r64; omega)]; omega
    all_goals have e7u : IntKind.wrap .u64 ((7 * n : Nat) : Int) = ((7 * n : Nat) : Int) := wrap64_of (by omega) (by omega)
    all_goals have ep : IntKind.wrap .i64 (p + 1) = p + 1 := wrap_i64 (by unfold r64; omega)
    all_goals have ei : IntKind.wrap .i64 ((n : Int) + 1) = ((n + 1 : Nat) : Int) := by rw [wrap_i64 (by unfold r64; omega)]; omega
    all_goals have epp : IntKind.wrap .i64 (a + (n : Int)) = p := by rw [wrap_i64 (by unfold r64; omega)]; omega
    all_goals rcases hrow with ⟨hpe, hn⟩ | ⟨b, c, hbc, hc, hpl, hn, hr⟩
    all_goals simp only [A0, FsR0, err0, e7, e7u, epp, ep, ei, decide_eq_true_eq, decide_eq_false_iff_not, Bool.not_eq_true', Bool.not_eq_false', Bool.and_eq_true] at *
    all_goals try simp only [hr, List.map_cons, List.getElem?_cons_zero, e7, e7u, epp, ep, ei] at *
    all_goals first
      | assumption
      | omega
      | exact id
      | exact hp0.at trivial (by omega) (by omega)
      | (intros; first | assumption | trivial | (simp_all; done))
      | (have e := num_short hby i4 (by omega)
         refine RetW.ofEq ?_ ?_ <;> rw [e])
      | (have hcf : (0 < n ∧ c = 0) ∨ (n = 9 ∧ 1 < c) := by
           simp at h
           omega
         have e := num_form hby i4 (b := b) (by rw [← hby, ← hn]; congr 1; omega) hbc hcf
         refine RetW.ofEq ?_ ?_ <;> rw [e])
      | (rintro ⟨h2, h3⟩; exact ⟨h2, by simp [h3]⟩)
      | (intro h2; rw [h2]; rfl)
      | (have hz := ‹(_ : Bool) = false›
         have hcn : ¬ ((0 < n ∧ c = 0) ∨ (n = 9 ∧ 1 < c)) := by
           simp at hz
           omega
         have hl := lay m n c hc i1 i2 (by omega)
         first
           | (rw [hl.1]; exact ⟨by omega, by omega⟩)
           | (have e := num_num hby i4 (b := b) (by rw [← hby, ← hn]; congr 1; omega) hbc hcn (by omega)
              rw [hl.1]
              refine RetW.ofEq ?_ ?_ <;> rw [e]
              try rw [hp])
           | (refine ⟨(p + 1, ((n + 1 : Nat) : Int), ((m + c % 128 * 2 ^ (7 * n) : Nat) : Int)), ⟨n + 1, _, rfl, rfl, by simp only; omega, by omega, lay_more m n c i2, by omega, num_next i4 (b := b) (by rw [← hby, ← hn]; congr 1; omega) hbc hcn (by omega)⟩, by simp only; omega, told_less ?_⟩
              simp only [hl.1]
              simp [toldP, getS])
           | skip)
def kb_pNum (F : FsR) : FuncId × (List DV → Store → SV) := (36, fun args st => match args with
  | [.ref b ver o] => (match st[b]? with
    | some ⟨t, [.d (.slc 1 xs), .d (.sc (.int .i64 a)), .d (.sc (.int .i64 w))], false, v, true⟩ => (bif (ver == 0) && (o == 0) && (v == 0) && (t == 95) then some ([F.rd xs a w], .d (.sc (.int .i64 (F.num xs a w).1)), st.set b (rdB 95 xs (F.num xs a w).2.1 (F.num xs a w).2.2)) else none)
    | _ => none)
  | _ => none)
theorem okb_pNum (args : List DV) (st : Store) (cs : List Prop) (r : DV) (st' : Store) (h : (kb_pNum FsR0).2 args st = some (cs, r, st')) (hc : allP cs True) (K : DV → Store → Prop) (hk : K r st') : FnD Try.prog 36 args st K := by
  unfold kb_pNum at h
  simp only at h
  split at h
  · split at h
    · rename_i hb
      simp only [cond_eq_ite, Bool.and_eq_true, beq_iff_eq, Option.ite_none_right_eq_some] at h
      obtain ⟨⟨⟨⟨rfl, rfl⟩, rfl⟩, rfl⟩, h⟩ := h
      cases h
      exact FnD.one _ (v_pNum _ _ _ hc.1) hb rfl rfl rfl rfl hk
    · cases h
  · cases h
set_option maxRecDepth 100000 in
theorem v_rNum (xs : List (List PD)) (a w : Int) (hp0 : FsR0.rd xs a w) : FnD Try.prog 59 [.ref 0 0 0] [rdB 59 xs a w] (fun r st' => r = .d (.sc (.int .i64 (FsR0.num xs a w).1)) ∧ st' = [rdB 59 xs (FsR0.num xs a w).2.1 (FsR0.num xs a w).2.2]) := by
  obtain ⟨F, hF⟩ : ∃ F, F = FsR0 := ⟨_, rfl⟩
  have hH : SoundK Try.prog [kn_zag2 F] := by subst hF; exact orK_ok ok_zag2 noK_ok
  have hB : SoundB Try.prog [kb_rfail F] := by subst hF; exact orB_ok okb_rfail noB_ok
  refine FnD_cbv (T := fun _ => tabY [37] []) (H := fun _ => [kn_zag2 F]) (tabY_ok _ _) hH follows_mixed Try.func59 rfl Try.ntmps59 (by simp) fun A X W hA hX hW => ?_
  cbv
  refine part (fun h => ?_) (fun h => ?_)
  · cbv
    subst hA hX hW hF
    have hw : ¬ w = 0 := by simpa [A0] using h
    refine RetW.ofEq ?_ ?_ <;> simp [FsR0, numR, numL, hw]
  · have hw : w = 0 := by subst hA; simpa [A0] using h
    subst hw
    cbv
    obtain ⟨bs, hxs, hby, hlx, hb, h0, h1, -, -⟩ := isRd_len hp0
    refine loopL (T := fun _ => tabY [37] []) (H := fun _ => [kn_zag2 F]) (tabY_ok _ _) hH follows_mixed hA hX (fun x : Int × Int × Int => NumI bs a x.1 x.2.1 x.2.2)
      (fun x => [(0, .ref 0 0 0), (3, .d (.sc (.int .u64 x.2.2))), (4, .d (.sc (.int .i64 x.2.1)))]) (fun x => [rdB 59 xs a 0])
      (fun x => bs.length - x.1.toNat) (a, 0, 0) ?_ ?_ ?_
    · exact ⟨0, 0, rfl, rfl, by simp, by omega, by simp, by simpa using h1, by simp⟩
    · subst hF
      exact told_less (by simp [toldP, getS])
    rintro R ⟨p, i, u⟩ hR hinv
    cbv
    repeat' first
      | (refine part (fun h => ?_) (fun h => ?_) <;> try cbv)
      | (refine And.intro ?_ ?_)
      | (with_reducible refine callB hX hB ?_) <;> cbv
    all_goals subst hR hA hX hW hF
    all_goals try (show Region.lexB _ _ = true; kernel_rfl)
    all_goals replace hinv : NumI bs a p i u := hinv
    all_goals obtain ⟨n, m, hi, hu, hp, i1, i2, i3, i4⟩ := hinv
    all_goals have hrow := isRd_row (xs := xs) (a := p) (w := 0) ⟨⟨bs, hxs, hb⟩, by omega, by omega, by omega, by omega⟩
    all_goals subst hi hu
    all_goals have e7 : IntKind.wrap .i64 (7 * (n : Int)) = ((7 * n : Nat) : Int) := by rw [wrap_i64 (by unfold r64; omega)]; omega
    all_goals have e7u : IntKind.wrap .u64 ((7 * n : Nat) : Int) = ((7 * n : Nat) : Int) := wrap64_of (by omega) (by omega)
    all_goals have ep : IntKind.wrap .i64 (p + 1) = p + 1 := wrap_i64 (by unfold r64; omega)
    all_goals have ei : IntKind.wrap .i64 ((n : Int) + 1) = ((n + 1 : Nat) : Int) := by rw [wrap_i64 (by unfold r64; omega)]; omega
    all_goals have epp : IntKind.wrap .i64 (a + (n : Int)) = p := by rw [wrap_i64 (by unfold r64; omega)]; omega
    all_goals rcases hrow with ⟨hpe, hn⟩ | ⟨b, c, hbc, hc, hpl, hn, hr⟩
    all_goals simp only [A0, FsR0, err0, e7, e7u, epp, ep, ei, decide_eq_true_eq, decide_eq_false_iff_not, Bool.not_eq_true', Bool.not_eq_false', Bool.and_eq_true] at *
    all_goals try simp only [hr, List.map_cons, List.getElem?_cons_zero, e7, e7u, epp, ep, ei] at *
    all_goals first
      | assumption
      | omega
      | exact id
      | exact hp0.at trivial (by omega) (by omega)
      | (intros; first | assumption | trivial | (simp_all; done))
      | (have e := num_short hby i4 (by omega)
         refine RetW.ofEq ?_ ?_ <;> rw [e])
      | (have hcf : (0 < n ∧ c = 0) ∨ (n = 9 ∧ 1 < c) := by
           simp at h
           omega
         have e := num_form hby i4 (b := b) (by rw [← hby, ← hn]; congr 1; omega) hbc hcf
         refine RetW.ofEq ?_ ?_ <;> rw [e])
      | (rintro ⟨h2, h3⟩; exact ⟨h2, by simp [h3]⟩)
      | (intro h2; rw [h2]; rfl)
      | (have hz := ‹(_ : Bool) = false›
         have hcn : ¬ ((0 < n ∧ c = 0) ∨ (n = 9 ∧ 1 < c)) := by
           simp at hz
           omega
         have hl := lay m n c hc i1 i2 (by omega)
         first
           | (rw [hl.1]; exact ⟨by omega, by omega⟩)
           | (have e := num_num hby i4 (b := b) (by rw [← hby, ← hn]; congr 1; omega) hbc hcn (by omega)
              rw [hl.1]
              refine RetW.ofEq ?_ ?_ <;> rw [e]
              try rw [hp])
           | (refine ⟨(p + 1, ((n + 1 : Nat) : Int), ((m + c % 128 * 2 ^ (7 * n) : Nat) : Int)), ⟨n + 1, _, rfl, rfl, by simp only; omega, by omega, lay_more m n c i2, by omega, num_next i4 (b := b) (by rw [← hby, ← hn]; congr 1; omega) hbc hcn (by omega)⟩, by simp only; omega, told_less ?_⟩
              simp only [hl.1]
              simp [toldP, getS])
           | skip)
def kb_rNum (F : FsR) : FuncId × (List DV → Store → SV) := (59, fun args st => match args with
  | [.ref b ver o] => (match st[b]? with
    | some ⟨t, [.d (.slc 1 xs), .d (.sc (.int .i64 a)), .d (.sc (.int .i64 w))], false, v, true⟩ => (bif (ver == 0) && (o == 0) && (v == 0) && (t == 59) then some ([F.rd xs a w], .d (.sc (.int .i64 (F.num xs a w).1)), st.set b (rdB 59 xs (F.num xs a w).2.1 (F.num xs a w).2.2)) else none)
    | _ => none)
  | _ => none)
theorem okb_rNum (args : List DV) (st : Store) (cs : List Prop) (r : DV) (st' : Store) (h : (kb_rNum FsR0).2 args st = some (cs, r, st')) (hc : allP cs True) (K : DV → Store → Prop) (hk : K r st') : FnD Try.prog 59 args st K := by
  unfold kb_rNum at h
  simp only at h
  split at h
  · split at h
    · rename_i hb
      simp only [cond_eq_ite, Bool.and_eq_true, beq_iff_eq, Option.ite_none_right_eq_some] at h
      obtain ⟨⟨⟨⟨rfl, rfl⟩, rfl⟩, rfl⟩, h⟩ := h
      cases h
      exact FnD.one _ (v_rNum _ _ _ hc.1) hb rfl rfl rfl rfl hk
    · cases h
  · cases h
end Go.Proofs.Ytbhapclaochcnaa
