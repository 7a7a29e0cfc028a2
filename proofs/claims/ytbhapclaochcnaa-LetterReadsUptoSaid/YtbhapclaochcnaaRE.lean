/- Ballots, attributes and cells come back. No condition. -/
import Derived.Test.YtbhapclaochcnaaRC
namespace Go.Proofs.Ytbhapclaochcnaa
open Go.RowKit
set_option linter.all false
set_option maxHeartbeats 4000000
theorem numF_pos (f u : Nat) : 0 < (numF (f + 1) u).length := by
  by_cases hu : u < 128
  · rw [numF_last f u hu]; simp
  · rw [numF_step f u hu]; simp
/-- How many sevens a number has. -/
def sevens : Nat → Nat → Int
  | 0, _ => 0
  | f + 1, u => if u < 128 then 1 else sevens f (u / 128) + 1
end Go.Proofs.Ytbhapclaochcnaa
namespace Go.Proofs.Ytbhapclaochcnaa
open Go.RowKit
set_option linter.all false
set_option maxHeartbeats 4000000
def sizeL (m : Letter) : Nat := m.data.size + m.mkey.size + m.mfin.size + m.mold.size + m.mval.size + m.lckey.size + m.lcfin.size + m.lcold.size + m.lcval.size
def lightL (m : Letter) : Bool := decide ((sizeL m : Int) < 5000)
structure FsL9 where
  light : Letter → Bool
  okLet : Letter → Prop
def FsL90 : FsL9 where
  light := lightL
  okLet := okLet
set_option maxRecDepth 100000 in
theorem v_light (m : Letter) (hp0 : FsL90.okLet m) : FnV Try.prog 12 [Letter.D m] (boolD ((lightL m))) := by
  obtain ⟨m_lkind, m_src, m_dst, m_irep, m_islot, m_be, m_br, m_mkind, m_mclient, m_mseq, m_mkey, m_mfin, m_mold, m_mval, m_tseq, m_td0, m_td1, m_td2, m_td3, m_td4, m_td5, m_td6, m_lstatus, m_lpe, m_lpr, m_lve, m_lvr, m_lckind, m_lcclient, m_lcseq, m_lckey, m_lcfin, m_lcold, m_lcval, m_laseq, m_lad0, m_lad1, m_lad2, m_lad3, m_lad4, m_lad5, m_lad6, m_lsame, m_fd0, m_fd1, m_fd2, m_fd3, m_fd4, m_fd5, m_fd6, m_data⟩ := m
  refine FnD_cbv (T := fun _ => tabY [5003, 18] []) (H := fun _ => []) (tabY_ok _ _) noK_ok follows_mixed Try.func12 rfl Try.ntmps12 (by simp) fun A X W hA hX hW => ?_
  cbv
  have l0 : A.cmp .lss 0 2 = true := by subst hA; rfl
  cbv at l0
  have l1 : A.cmp .lss 1 2 = true := by subst hA; rfl
  cbv at l1
  have l2 : A.cmp .lss 2 2 = false := by subst hA; rfl
  cbv at l2
  have b0 : A.bin .add .i64 0 1 = 1 := by subst hA; rfl
  cbv at b0
  have b1 : A.bin .add .i64 1 1 = 2 := by subst hA; rfl
  cbv at b1
  have o0_0 : A.off 0 0 1 = 0 := by subst hA; rfl
  cbv at o0_0
  have o0_1 : A.off 0 1 1 = 1 := by subst hA; rfl
  cbv at o0_1
  have i2 : A.int 2 = 2 := by subst hA; rfl
  cbv at i2
  have v0 : A.off 0 0 7 = 0 := by subst hA; rfl
  cbv at v0
  have v1 : A.off 0 1 7 = 7 := by subst hA; rfl
  cbv at v1
  refine And.intro (by subst hA; rfl) ?_
  refine unrollL (T := fun _ => tabY [5003, 18] []) (H := fun _ => []) (tabY_ok _ _) noK_ok follows_mixed hA hX 3 fun R hR => ?_
  repeat' first
    | (simp only [l0, l1, l2, b0, b1, o0_0, o0_1, i2, v0, v1, decide_true]; cbv)
    | (refine part (fun h => ?_) (fun h => ?_) <;> try cbv)
    | (refine And.intro ?_ ?_)
    | (refine hR _ _ _ ?_; cbv)
  all_goals clear l0 l1 l2 b0 b1 o0_0 o0_1 i2 v0 v1
  all_goals try clear hR
  all_goals subst hA hX hW
  all_goals obtain ⟨_, _, _, ⟨_, _, _, k1, k2, k3, k4⟩, _, ⟨_, _, _, ⟨_, _, _, k5, k6, k7, k8⟩, _⟩, _, kd⟩ : okLet (⟨m_lkind, m_src, m_dst, m_irep, m_islot, m_be, m_br, m_mkind, m_mclient, m_mseq, m_mkey, m_mfin, m_mold, m_mval, m_tseq, m_td0, m_td1, m_td2, m_td3, m_td4, m_td5, m_td6, m_lstatus, m_lpe, m_lpr, m_lve, m_lvr, m_lckind, m_lcclient, m_lcseq, m_lckey, m_lcfin, m_lcold, m_lcval, m_laseq, m_lad0, m_lad1, m_lad2, m_lad3, m_lad4, m_lad5, m_lad6, m_lsame, m_fd0, m_fd1, m_fd2, m_fd3, m_fd4, m_fd5, m_fd6, m_data⟩ : Letter) := hp0
  all_goals simp only [Letter.cmd, Letter.cell, Cell.cmd] at k1 k2 k3 k4 k5 k6 k7 k8 kd
  rotate_right 1
  · refine ret_v ?_ rfl
    simp only [A0, nc, List.getElem?_cons_succ, List.getElem?_cons_zero, Nat.zero_add]
    rw [wrap_i64 (a := (m_data.size : Int) + m_mkey.size) (by unfold r64; omega), wrap_i64 (a := (m_data.size : Int) + m_mkey.size + m_mfin.size) (by unfold r64; omega), wrap_i64 (a := (m_data.size : Int) + m_mkey.size + m_mfin.size + m_mold.size) (by unfold r64; omega), wrap_i64 (a := (m_data.size : Int) + m_mkey.size + m_mfin.size + m_mold.size + m_mval.size) (by unfold r64; omega), wrap_i64 (a := (m_data.size : Int) + m_mkey.size + m_mfin.size + m_mold.size + m_mval.size + m_lckey.size) (by unfold r64; omega), wrap_i64 (a := (m_data.size : Int) + m_mkey.size + m_mfin.size + m_mold.size + m_mval.size + m_lckey.size + m_lcfin.size) (by unfold r64; omega), wrap_i64 (a := (m_data.size : Int) + m_mkey.size + m_mfin.size + m_mold.size + m_mval.size + m_lckey.size + m_lcfin.size + m_lcold.size) (by unfold r64; omega), wrap_i64 (a := (m_data.size : Int) + m_mkey.size + m_mfin.size + m_mold.size + m_mval.size + m_lckey.size + m_lcfin.size + m_lcold.size + m_lcval.size) (by unfold r64; omega)]
    have e : (m_data.size : Int) + m_mkey.size + m_mfin.size + m_mold.size + m_mval.size + m_lckey.size + m_lcfin.size + m_lcold.size + m_lcval.size = ((m_data.size + m_mkey.size + m_mfin.size + m_mold.size + m_mval.size + m_lckey.size + m_lcfin.size + m_lcold.size + m_lcval.size : Nat) : Int) := by omega
    rw [e]
    rfl
  all_goals first
    | (show (0 : Nat) = 0; rfl)
    | exact ⟨by decide, by decide⟩
    | exact ⟨rfl, Nat.le_of_ble_eq_true rfl, rfl⟩
    | (simp; done)
def kn_light (F : FsL9) : FuncId × (List DV → RV) := (12, fun args => match args with
  | [.agg m_cs] => (match decLetter m_cs with | some m => some ([F.okLet m], boolD ((F.light m))) | none => none)
  | _ => none)
set_option maxRecDepth 100000 in
theorem ok_light (args : List DV) (cs : List Prop) (r : DV) (h : (kn_light FsL90).2 args = some (cs, r)) (hc : allP cs True) : FnV Try.prog 12 args r ∧ closedL 0 args = true := by
  unfold kn_light at h
  simp only at h
  split at h
  · split at h
    · rename_i e0
      cases h
      rw [decLetter_eq e0]
      exact ⟨v_light _ hc.1, rfl⟩
    · cases h
  · cases h
end Go.Proofs.Ytbhapclaochcnaa
namespace Go.Proofs.Ytbhapclaochcnaa
open Go.RowKit
set_option linter.all false
set_option maxHeartbeats 4000000
/-- What stands between two places. -/
def Took (bs : List UInt8) (a a2 : Int) (p : List UInt8) : Prop := bs.take a2.toNat = bs.take a.toNat ++ p
theorem Took.trans {bs : List UInt8} {a b c : Int} {p q : List UInt8} (h1 : Took bs a b p) (h2 : Took bs b c q) : Took bs a c (p ++ q) := by
  unfold Took at *
  rw [h2, h1, List.append_assoc]
theorem Took.refl {bs : List UInt8} {a : Int} : Took bs a a [] := (List.append_nil _).symm
end Go.Proofs.Ytbhapclaochcnaa
namespace Go.Proofs.Ytbhapclaochcnaa
open Go.RowKit
set_option linter.all false
set_option maxHeartbeats 4000000
/-- The bytes of a letter behind its kind, from whom and to whom. -/
def restB (m : Letter) (p : Parts) : List UInt8 :=
  (bif p.inst then numB m.irep ++ numB m.islot else []) ++ ((bif p.ballot then ballotB m.ballot else []) ++ ((bif p.cmd then putB m.cmd else []) ++ ((bif p.attr then putD m.attr else []) ++ ((bif p.cell then cellB m.cell else []) ++ ((bif p.deps then numB m.fd0 ++ (numB m.fd1 ++ (numB m.fd2 ++ (numB m.fd3 ++ (numB m.fd4 ++ (numB m.fd5 ++ numB m.fd6))))) else []) ++ (bif p.data then textB m.data else []))))))
def putLB (m : Letter) (p : Parts) : List UInt8 := numB m.lkind ++ (numB m.src ++ (numB m.dst ++ restB m p))
theorem putLX_eq {m : Letter} {p : Parts} (hp : isParts p) (hc : rightC m.cmd = true) (hl : rightCell m.cell = true) : putLX m p = bytesP (putLB m p) := by
  unfold putLX putLB restB
  rcases hp with e | e | e | e | e | e | e | e <;> subst e <;> simp only [cond_true, cond_false, numX, ballotX, putX, hc, putA_eq, putCellX, hl, textX, ballotB, Letter.ballot, if_true, ← bytesP_append, List.append_assoc, List.nil_append, List.append_nil]
theorem eqLet_iff (a b : Letter) : eqLet a b = true ↔ a = b := by
  cases a
  cases b
  simp only [eqLet, Bool.and_eq_true, decide_eq_true_eq, Letter.mk.injEq, and_true]
theorem rightL_bare {m : Letter} (h : rightL m = true) : (namedP m.lkind).2 = true ∧ placeR m.src = true ∧ placeR m.dst = true ∧ m.src ≠ m.dst ∧ m = bareL m (namedP m.lkind).1 := by
  unfold rightL at h
  cases h1 : badL1 m
  · rw [h1] at h
    unfold badL1 at h1
    have h5 : eqLet m (bareL m (namedP m.lkind).1) = true ∧ (namedP m.lkind).2 = true ∧ placeR m.src = true ∧ placeR m.dst = true ∧ decide (m.src = m.dst) = false := by
      revert h1
      cases (namedP m.lkind).2 <;> cases placeR m.src <;> cases placeR m.dst <;> cases decide (m.src = m.dst) <;> cases eqLet m (bareL m (namedP m.lkind).1) <;> simp
    exact ⟨h5.2.1, h5.2.2.1, h5.2.2.2.1, of_decide_eq_false h5.2.2.2.2, (eqLet_iff _ _).1 h5.1⟩
  · rw [h1] at h; cases h
theorem rightL_more {m : Letter} (h : rightL m = true) : ((namedP m.lkind).1.inst = true → rightI m.inst = true) ∧ rightB m.ballot = true ∧ rightA ⟨0, m.fd0, m.fd1, m.fd2, m.fd3, m.fd4, m.fd5, m.fd6⟩ = true ∧ (m.data.size : Int) ≤ 16384 := by
  unfold rightL at h
  cases h1 : badL1 m
  · rw [h1] at h
    cases h2 : badL2 m
    · rw [h2] at h
      simp only [cond_false] at h
      unfold badL2 at h2
      unfold lastL at h
      refine ⟨?_, ?_, ?_, ?_⟩
      · revert h2
        cases (namedP m.lkind).1.inst <;> cases rightI m.inst <;> simp
      · revert h2
        generalize (bif (namedP m.lkind).1.inst then !rightI m.inst else false) = q
        cases q <;> cases rightB m.ballot <;> simp
      · revert h
        cases rightA ⟨0, m.fd0, m.fd1, m.fd2, m.fd3, m.fd4, m.fd5, m.fd6⟩ <;> simp
      · revert h
        cases rightA ⟨0, m.fd0, m.fd1, m.fd2, m.fd3, m.fd4, m.fd5, m.fd6⟩ <;> simp
    · rw [h2] at h; cases h
  · rw [h1] at h; cases h
theorem cellB_small {c : Cell} (hr : rightCell c = true) : (cellB c).length ≤ 600 := by
  have h1 := putB_small (rightCell_parts hr).1
  have h3 := putD_small c.attr
  have p := numB_length
  have q0 := p c.status
  have q1 := p c.pe
  have q2 := p c.pr
  have q3 := p c.ve
  have q4 := p c.vr
  unfold cellB
  split
  · simp only [List.length_append, ballotB, Cell.prom, List.length_nil]; omega
  · simp only [List.length_append, ballotB, Cell.prom, Cell.voted, List.length_singleton]; omega
theorem bif_le {b : Bool} {l : List UInt8} {k : Nat} (h : l.length ≤ k) : (bif b then l else []).length ≤ k := by cases b <;> simp [h]
theorem putLB_small {m : Letter} (hr : rightL m = true) (p : Parts) : (putLB m p).length ≤ 100000 := by
  have hm := rightL_more hr
  have hp := rightL_parts hr
  have q := numB_length
  have h1 := q m.lkind
  have h2 := q m.src
  have h3 := q m.dst
  have h4 := q m.irep
  have h5 := q m.islot
  have h6 := q m.be
  have h7 := q m.br
  have g0 := q m.fd0
  have g1 := q m.fd1
  have g2 := q m.fd2
  have g3 := q m.fd3
  have g4 := q m.fd4
  have g5 := q m.fd5
  have g6 := q m.fd6
  have hc := putB_small hp.1
  have hd := putD_small m.attr
  have hl := cellB_small hp.2.2
  have ht := textB_length m.data
  have r1 := bif_le (b := p.inst) (l := numB m.irep ++ numB m.islot) (k := 20) (by rw [List.length_append]; omega)
  have r2 := bif_le (b := p.ballot) (l := ballotB m.ballot) (k := 20) (by simp only [ballotB, Letter.ballot, List.length_append]; omega)
  have r3 := bif_le (b := p.cmd) hc
  have r4 := bif_le (b := p.attr) hd
  have r5 := bif_le (b := p.cell) hl
  have r6 := bif_le (b := p.deps) (l := numB m.fd0 ++ (numB m.fd1 ++ (numB m.fd2 ++ (numB m.fd3 ++ (numB m.fd4 ++ (numB m.fd5 ++ numB m.fd6)))))) (k := 70) (by simp only [List.length_append]; omega)
  have r7 := bif_le (b := p.data) (l := textB m.data) (k := 20000) (by omega)
  unfold putLB restB
  simp only [List.length_append]
  omega
theorem putLet_eq {m : Letter} (hr : rightL m = true) : putLet m = bytesP (putLB m (namedP m.lkind).1) := by
  have hp := rightL_parts hr
  unfold putLet
  rw [if_pos hr, putLX_eq (named_parts _) hp.1 hp.2.2]
theorem putLB_pos (m : Letter) (p : Parts) : 0 < (putLB m p).length := by
  have : 0 < (numB m.lkind).length := numF_pos 9 _
  simp only [putLB, List.length_append]
  omega
end Go.Proofs.Ytbhapclaochcnaa
namespace Go.Proofs.Ytbhapclaochcnaa
open Go.RowKit
set_option linter.all false
set_option maxHeartbeats 8000000
structure FsK where
  runs15 : Bool
  cutB : List (List PD) → Prop
def FsK0 : FsK where
  runs15 := true
  cutB := isB
def kn_runs15 (F : FsK) : FuncId × (List DV → RV) := (3, fun args => match args with
  | [] => some ([], boolD F.runs15)
  | _ => none)
theorem ok_runs15 (args : List DV) (cs : List Prop) (r : DV) (h : (kn_runs15 FsK0).2 args = some (cs, r)) (hc : allP cs True) : FnV Try.prog 3 args r ∧ closedL 0 args = true := by
  unfold kn_runs15 at h
  simp only at h
  split at h
  · cases h; exact ⟨v_runs15, rfl⟩
  · cases h
end Go.Proofs.Ytbhapclaochcnaa
namespace Go.Proofs.Ytbhapclaochcnaa
open Go.RowKit
set_option linter.all false
set_option maxHeartbeats 8000000
theorem told_stR {k : Nat} {s s' : SL} {st st' : Store} (h : st = st') (hs : toldP id s s') : Told k s st s' st' := by subst h; exact told_less hs
theorem or1 (w : Nat) (h : w * 2 + 1 < 18446744073709551616) : bitsV .u64 (· ||| ·) ((w * 2 : Nat) : Int) 1 = ((w * 2 + 1 : Nat) : Int) := by
  have := or_add 1 w 1 (by decide) (by omega)
  show IntKind.wrap .u64 ((BitVec.ofInt 64 ((w * 2 : Nat) : Int) ||| BitVec.ofInt 64 1).toNat : Int) = _
  rw [BitVec.or_comm]
  have e : ((w * 2 + 1 : Nat) : Int) = ((1 + w * 2 ^ 1 : Nat) : Int) := by omega
  rw [e, ← this]
  rfl
theorem zig2_neg (n : Int) (h : r64 n) (hn : n < 0) : bitsV .u64 (· ||| ·) (IntKind.wrap .u64 (IntKind.wrap .u64 (bitsV .i64 (· ^^^ ·) (-1) n) * 2 ^ min (Int.toNat 1) (IntKind.bits .u64))) 1 = zig n := by
  unfold r64 at h
  rw [(xor_i64 n h).2.2]
  obtain ⟨w, hw⟩ : ∃ w : Nat, -n - 1 = w := ⟨(-n - 1).toNat, by omega⟩
  rw [hw, wrap64_of (a := (w : Int)) (by omega) (by omega)]
  have e1 : (w : Int) * 2 ^ min (Int.toNat 1) (IntKind.bits .u64) = ((w * 2 : Nat) : Int) := by
    rw [show (2 : Int) ^ min (Int.toNat 1) (IntKind.bits .u64) = 2 by decide]; omega
  rw [e1, wrap64_of (by omega) (by omega), or1 w (by omega)]
  unfold zig
  rw [if_pos hn]
  omega
theorem zig2_pos (n : Int) (h : r64 n) (hn : ¬ n < 0) : IntKind.wrap .u64 (IntKind.wrap .u64 n * 2 ^ min (Int.toNat 1) (IntKind.bits .u64)) = zig n := by
  unfold r64 at h
  rw [wrap64_of (a := n) (by omega) (by omega), show (2 : Int) ^ min (Int.toNat 1) (IntKind.bits .u64) = 2 by decide, wrap64_of (by omega) (by omega)]
  unfold zig
  rw [if_neg hn]
  omega
theorem and127n (u : Nat) : IntKind.wrap .u8 (bitsV .u64 (· &&& ·) (u : Int) 127) = ((u % 128 : Nat) : Int) := by
  have e : bitsV .u64 (· &&& ·) (u : Int) 127 = ((u % 18446744073709551616 % 128 : Nat) : Int) := by
    show IntKind.wrap .u64 ((BitVec.ofInt 64 (u : Int) &&& BitVec.ofInt 64 127).toNat : Int) = _
    rw [ofInt_nat, show (BitVec.ofInt 64 127 : BitVec 64) = BitVec.ofNat 64 127 from rfl, BitVec.toNat_and, BitVec.toNat_ofNat, BitVec.toNat_ofNat]
    have := Nat.and_two_pow_sub_one_eq_mod (u % 2 ^ 64) 7
    rw [show (127 % 2 ^ 64 : Nat) = 2 ^ 7 - 1 by decide, this, wrap64_of (by omega) (by omega)]
  rw [e]
  have : u % 18446744073709551616 % 128 = u % 128 := by omega
  rw [this]
  simp [IntKind.wrap, IntKind.bits, IntKind.signed]
  try omega
theorem or128n (u : Nat) : bitsV .u8 (· ||| ·) ((u % 128 : Nat) : Int) 128 = (((UInt8.ofNat (u % 128 + 128)).toNat : Nat) : Int) := by
  have := or128f ⟨u % 128, by omega⟩
  simp only at this
  rw [this, show u % 128 % 128 = u % 128 by omega]
structure FsW where
  zig2 : Int → Int
  rnum : List (List PD) → Int → List (List PD)
  rtext : List (List PD) → ByteArray → List (List PD)
  rflag : List (List PD) → Bool → List (List PD)
  isB : List (List PD) → Prop
  r64 : Int → Prop
  sz : ByteArray → Prop
noncomputable def FsW0 : FsW where
  zig2 := zig
  rnum := numX
  rtext := textX
  rflag := flagX
  isB := isB
  r64 := r64
  sz := szT
set_option maxRecDepth 100000 in
theorem v_zig2 (n : Int) (hp0 : FsW0.r64 n) : FnV Try.prog 77 [intD n] (.d (.sc (.int .u64 ((zig n))))) := by
  refine FnD_cbv (T := fun _ => tabY [] []) (H := fun _ => []) (tabY_ok _ _) noK_ok follows_mixed Try.func77 rfl Try.ntmps77 (by simp) fun A X W hA hX hW => ?_
  cbv
  repeat' first
    | (refine part (fun h => ?_) (fun h => ?_) <;> try cbv)
    | (refine And.intro ?_ ?_)
  all_goals subst hA hX hW
  all_goals try (show Region.lexB _ _ = true; kernel_rfl)
  all_goals try (show turnsB _ = true; kernel_rfl)
  all_goals simp only [A0, FsW0, decide_eq_true_eq, decide_eq_false_iff_not, Bool.not_eq_true', Bool.not_eq_false'] at *
  all_goals try (first | decide | done)
  · refine ret_v ?_ rfl
    rw [show (if IntKind.i64.signed = true then (-1 : Int) else IntKind.i64.max) = -1 from rfl, zig2_neg n hp0 h]
  · refine ret_v ?_ rfl
    rw [zig2_pos n hp0 h]
def kn_zig2 (F : FsW) : FuncId × (List DV → RV) := (77, fun args => match args with
  | [.d (.sc (.int .i64 n))] => some ([F.r64 n], .d (.sc (.int .u64 ((F.zig2 n)))))
  | _ => none)
theorem ok_zig2 (args : List DV) (cs : List Prop) (r : DV) (h : (kn_zig2 FsW0).2 args = some (cs, r)) (hc : allP cs True) : FnV Try.prog 77 args r ∧ closedL 0 args = true := by
  unfold kn_zig2 at h
  simp only at h
  split at h
  · cases h; exact ⟨v_zig2 _ hc.1, rfl⟩
  · cases h
set_option maxRecDepth 100000 in
theorem w_rnum (bs : List UInt8) (xs : List (List PD)) (n : Int) (hxs : xs = bytesP bs) (hb : bs.length ≤ 8000000) (hp1 : r64 n) : FnD Try.prog 43 [.d (.slc 1 xs), intD n] [] (fun r st' => ∃ v cs m, cs = rowsD (bytesP (bs ++ numB n)) ∧ m = (bs ++ numB n).length ∧ r = .view 1 0 v 0 m ∧ st' = [⟨5, cs, true, v, true⟩]) := by
  obtain ⟨GFsW, hFsW⟩ : ∃ F, F = FsW0 := ⟨_, rfl⟩
  have hH : SoundK Try.prog [kn_zig2 GFsW] := by subst hFsW; exact orK_ok ok_zig2 noK_ok
  have hB : SoundB Try.prog [] := by subst hFsW; exact noB_ok
  refine FnD_cbv (T := fun _ => tabY [] []) (H := fun _ => [kn_zig2 GFsW]) (tabY_ok _ _) hH follows_mixed Try.func43 rfl Try.ntmps43 (by simp) fun A X W hA hX hW => ?_
  cbv
  have hz := zig_range hp1
  have hz2 : ((zig n).toNat : Int) = zig n := Int.toNat_of_nonneg hz.1
  have hl : xs.length = bs.length := by rw [hxs]; exact bytesP_length bs
  refine And.intro ?_ (And.intro ?_ (And.intro ?_ (And.intro ?_ ?_)))
  · subst hA; simp only [A0]
  · subst hA; simp only [A0]; rfl
  · subst hA; simp only [A0]; omega
  · subst hFsW; exact hp1
  refine loopL (T := fun _ => tabY [] []) (H := fun _ => [kn_zig2 GFsW]) (tabY_ok _ _) hH follows_mixed hA hX (fun x : List DV × Int × Nat × Nat => ∃ (bs1 : List UInt8) (f u : Nat), x.1 = rowsD (bytesP bs1) ∧ x.2.1 = u ∧ x.2.2.2 = bs1.length ∧ bs1 ++ numF (f + 1) u = bs ++ numB n ∧ u < 128 ^ (f + 1) ∧ u < 18446744073709551616 ∧ f + bs1.length ≤ 8388620)
    (fun x => [(5, .view 1 0 x.2.2.1 0 x.2.2.2), (6, .d (.sc (.int .u64 x.2.1)))]) (fun x => [⟨5, x.1, true, x.2.2.1, true⟩])
    (fun x => x.2.1.toNat) (rowsD (bytesP bs), zig n, 1, bs.length) ?_ ?_ ?_
  · refine ⟨bs, 9, (zig n).toNat, rfl, hz2.symm, rfl, rfl, ?_, ?_, ?_⟩
    all_goals omega
  · subst hA hFsW
    refine told_stR ?_ ?_
    · simp [A0, hxs]
    · simp [toldP, getS, A0, FsW0, hl]
  rintro R ⟨cells, u, v, len⟩ hR ⟨bs1, f, u1, h1, h2, h3, e1, e2, e3, e4⟩
  replace h1 : cells = rowsD (bytesP bs1) := h1
  replace h3 : len = bs1.length := h3
  cbv
  repeat' first
    | (refine part (fun h => ?_) (fun h => ?_) <;> try cbv)
    | (refine And.intro ?_ ?_)
    | (with_reducible refine callB hX hB ?_) <;> cbv
  all_goals subst hR hA hX hW hFsW
  all_goals clear hH hB
  all_goals simp only [A0, FsW0, decide_eq_true_eq, decide_eq_false_iff_not] at *
  all_goals replace h2 : u = (u1 : Int) := h2
  all_goals subst h2
  all_goals first
    | rfl
    | decide
    | omega
    | (rw [h1, rowsB_length, h3, Nat.mul_one]; done)
    | (simp; done)
    | (have hf : (u1 : Int).fdiv (2 ^ min (Int.toNat 7) (IntKind.bits .u64)) = ((u1 / 128 : Nat) : Int) := fdiv128 u1
       obtain ⟨f1, rfl⟩ : ∃ f1, f = f1 + 1 := by
         cases f with
         | zero => omega
         | succ f1 => exact ⟨f1, rfl⟩
       have hu : u1 / 128 < 128 ^ (f1 + 1) := by
         rw [Nat.pow_succ] at e2
         exact Nat.div_lt_of_lt_mul (by rw [Nat.mul_comm]; exact e2)
       refine ⟨(cells ++ [.d (.sc (.int .u8 ((UInt8.ofNat (u1 % 128 + 128)).toNat : Int)))], ((u1 / 128 : Nat) : Int), v + 1, len + 1), ⟨bs1 ++ [UInt8.ofNat (u1 % 128 + 128)], f1, u1 / 128, ?_, rfl, ?_, ?_, hu, ?_, ?_⟩, ?_, told_keep [0] rfl ?_ ?_⟩
       · simp only [rowsB_append, rowsB_one, h1]
       · simp [h3]
       · rw [← e1, numF_step (f1 + 1) u1 (by omega)]
         simp only [List.append_assoc, List.singleton_append]
       · omega
       · simp only [List.length_append, List.length_singleton]; omega
       · simp only; omega
       · simp only [and127n, or128n]
         simp [keepSt, pullBox, pullL_eq, h1, pull_rows, pullD]
       · rw [hf]
         simp [toldP, getS, pullD])
    | (have hb2 : numF (f + 1) u1 = [UInt8.ofNat u1] := numF_last f u1 (by omega)
       rw [hb2] at e1
       refine ret_keep [0] rfl ⟨v + 1, _, _, rfl, rfl, ?_, ?_⟩
       · simp [pullD, ← e1, h3]
       · rw [← e1, rowsB_append, rowsB_one, ← h1, low8 u1 (by omega)]
         simp [keepSt, pullBox, pullL_eq, h1, pull_rows, pullD])
theorem v_rnum (xs : List (List PD)) (n : Int) (hp0 : isB xs) (hp1 : r64 n) : FnV Try.prog 43 [.d (.slc 1 xs), intD n] (.d (.slc 1 (numX xs n))) := by
  obtain ⟨bs, hxs, hb⟩ := hp0
  refine FnD.ret ((w_rnum bs xs n hxs hb hp1).mono ?_)
  rintro r st ⟨v, cs, m, hcs, hm, rfl, rfl⟩
  exact ret_bytes rfl hm hcs (by simp [numX, hxs, bytesP_append])
def kn_rnum (F : FsW) : FuncId × (List DV → RV) := (43, fun args => match args with
  | [.d (.slc 1 xs), .d (.sc (.int .i64 n))] => some ([F.isB xs, F.r64 n], .d (.slc 1 (F.rnum xs n)))
  | [.d (.sc (.slice none 0 0)), .d (.sc (.int .i64 n))] => some ([F.isB [], F.r64 n], .d (.slc 1 (F.rnum [] n)))
  | _ => none)
theorem ok_rnum (args : List DV) (cs : List Prop) (r : DV) (h : (kn_rnum FsW0).2 args = some (cs, r)) (hc : allP cs True) : FnV Try.prog 43 args r ∧ closedL 0 args = true := by
  unfold kn_rnum at h
  simp only at h
  split at h
  · cases h; exact ⟨v_rnum _ _ hc.1 hc.2.1, rfl⟩
  · cases h; exact ⟨FnP.nils (v_rnum [] _ hc.1 hc.2.1) ⟨.inr ⟨rfl, _, rfl⟩, ⟨.inl rfl, trivial⟩⟩, rfl⟩
  · cases h
set_option maxRecDepth 100000 in
theorem v_rtext (xs : List (List PD)) (s : ByteArray) (hp0 : isB xs) (hp1 : szT s) : FnV Try.prog 57 [.d (.slc 1 xs), strD s] (.d (.slc 1 (textX xs s))) := by
  have hs : s.size ≤ 4194304 := hp1
  obtain ⟨bs, hxs, hb⟩ := hp0
  have hH : SoundK Try.prog [] := by exact noK_ok
  have hB : SoundB Try.prog [] := by exact noB_ok
  refine FnD_cbv (T := fun _ => tabY [] []) (H := fun _ => []) (tabY_ok _ _) hH follows_mixed Try.func57 rfl Try.ntmps57 (by simp) fun A X W hA hX hW => ?_
  cbv
  refine callL hX ((w_rnum bs xs _ hxs hb ?_).mono ?_)
  · subst hA
    show r64 (s.size : Int)
    unfold r64; omega
  rintro r st ⟨v, cs2, m2, hcs2, hm2, rfl, rfl⟩
  cbv
  have hn := numB_length (s.size : Int)
  subst hA hX hW
  replace hcs2 : cs2 = rowsD (bytesP (bs ++ numB (s.size : Int))) := hcs2
  replace hm2 : m2 = (bs ++ numB (s.size : Int)).length := hm2
  have hsz : s.data.toList.length = s.size := by rw [Array.length_toList]; rfl
  refine And.intro rfl (And.intro ?_ (And.intro ?_ ?_))
  · simp only [A0]
    rw [hcs2, rowsB_length, hm2, Nat.mul_one]
  · simp only [A0]
    rw [hm2, List.length_append]
    omega
  · refine ret_bytes (bs := bs ++ textB s) rfl ?_ ?_ (by simp [textX, hxs, bytesP_append])
    · simp only [A0, hm2, textB, List.length_append, hsz]
      omega
    · simp only [A0, hcs2, textB]
      rw [← List.append_assoc, rowsB_append (bs ++ numB s.size)]
def kn_rtext (F : FsW) : FuncId × (List DV → RV) := (57, fun args => match args with
  | [.d (.slc 1 xs), .d (.sc (.string s))] => some ([F.isB xs, F.sz s], .d (.slc 1 (F.rtext xs s)))
  | [.d (.sc (.slice none 0 0)), .d (.sc (.string s))] => some ([F.isB [], F.sz s], .d (.slc 1 (F.rtext [] s)))
  | _ => none)
theorem ok_rtext (args : List DV) (cs : List Prop) (r : DV) (h : (kn_rtext FsW0).2 args = some (cs, r)) (hc : allP cs True) : FnV Try.prog 57 args r ∧ closedL 0 args = true := by
  unfold kn_rtext at h
  simp only at h
  split at h
  · cases h; exact ⟨v_rtext _ _ hc.1 hc.2.1, rfl⟩
  · cases h; exact ⟨FnP.nils (v_rtext [] _ hc.1 hc.2.1) ⟨.inr ⟨rfl, _, rfl⟩, ⟨.inl rfl, trivial⟩⟩, rfl⟩
  · cases h
set_option maxRecDepth 100000 in
theorem v_rflag (xs : List (List PD)) (b : Bool) (hp0 : isB xs) : FnV Try.prog 44 [.d (.slc 1 xs), boolD b] (.d (.slc 1 (flagX xs b))) := by
  obtain ⟨bs, hxs, hb⟩ := hp0
  have hl : xs.length = bs.length := by rw [hxs]; exact bytesP_length bs
  cases b
  · have hH : SoundK Try.prog [] := by exact noK_ok
    have hB : SoundB Try.prog [] := by exact noB_ok
    refine FnD_cbv (T := fun _ => tabY [] []) (H := fun _ => []) (tabY_ok _ _) hH follows_mixed Try.func44 rfl Try.ntmps44 (by simp) fun A X W hA hX hW => ?_
    cbv
    repeat' first
      | (refine part (fun h => ?_) (fun h => ?_) <;> try cbv)
      | (refine And.intro ?_ ?_)
    all_goals subst hA hX hW
    all_goals clear hH hB
    all_goals simp only [A0] at *
    all_goals first
      | rfl
      | omega
      | (simp; done)
      | (simp; omega)
      | (rw [hxs, rowsB_length, bytesP_length]; simp; done)
      | (simp [hxs, rowsB_length, bytesP_length]; done)
      | (simp [hcs, rowsB_length, hm]; done)
      | (simp [hcs, rowsB_length, hm]; omega)
      | (refine ret_bytes (bs := bs ++ [1]) rfl ?_ ?_ (by simp [flagX, hxs, bytesP_append]) <;> simp [hxs, bytesP_length, rowsB_append, rowsB_one]; done)
      | (refine ret_bytes (bs := bs ++ [0]) rfl ?_ ?_ (by simp [flagX, hxs, bytesP_append]) <;> simp [hxs, bytesP_length, rowsB_append, rowsB_one]; done)
      | (refine ret_bytes (bs := bs ++ [1]) rfl ?_ ?_ (by simp [flagX, hxs, bytesP_append]) <;> simp [hcs, hm, rowsB_append, rowsB_one]; done)
      | (refine ret_bytes (bs := bs ++ [0]) rfl ?_ ?_ (by simp [flagX, hxs, bytesP_append]) <;> simp [hcs, hm, rowsB_append, rowsB_one]; done)
  · have hH : SoundK Try.prog [] := by exact noK_ok
    have hB : SoundB Try.prog [] := by exact noB_ok
    refine FnD_cbv (T := fun _ => tabY [] []) (H := fun _ => []) (tabY_ok _ _) hH follows_mixed Try.func44 rfl Try.ntmps44 (by simp) fun A X W hA hX hW => ?_
    cbv
    repeat' first
      | (refine part (fun h => ?_) (fun h => ?_) <;> try cbv)
      | (refine And.intro ?_ ?_)
    all_goals subst hA hX hW
    all_goals clear hH hB
    all_goals simp only [A0] at *
    all_goals first
      | rfl
      | omega
      | (simp; done)
      | (simp; omega)
      | (rw [hxs, rowsB_length, bytesP_length]; simp; done)
      | (simp [hxs, rowsB_length, bytesP_length]; done)
      | (simp [hcs, rowsB_length, hm]; done)
      | (simp [hcs, rowsB_length, hm]; omega)
      | (refine ret_bytes (bs := bs ++ [1]) rfl ?_ ?_ (by simp [flagX, hxs, bytesP_append]) <;> simp [hxs, bytesP_length, rowsB_append, rowsB_one]; done)
      | (refine ret_bytes (bs := bs ++ [0]) rfl ?_ ?_ (by simp [flagX, hxs, bytesP_append]) <;> simp [hxs, bytesP_length, rowsB_append, rowsB_one]; done)
      | (refine ret_bytes (bs := bs ++ [1]) rfl ?_ ?_ (by simp [flagX, hxs, bytesP_append]) <;> simp [hcs, hm, rowsB_append, rowsB_one]; done)
      | (refine ret_bytes (bs := bs ++ [0]) rfl ?_ ?_ (by simp [flagX, hxs, bytesP_append]) <;> simp [hcs, hm, rowsB_append, rowsB_one]; done)
def kn_rflag (F : FsW) : FuncId × (List DV → RV) := (44, fun args => match args with
  | [.d (.slc 1 xs), .d (.sc (.bool b))] => some ([F.isB xs], .d (.slc 1 (F.rflag xs b)))
  | [.d (.sc (.slice none 0 0)), .d (.sc (.bool b))] => some ([F.isB []], .d (.slc 1 (F.rflag [] b)))
  | _ => none)
theorem ok_rflag (args : List DV) (cs : List Prop) (r : DV) (h : (kn_rflag FsW0).2 args = some (cs, r)) (hc : allP cs True) : FnV Try.prog 44 args r ∧ closedL 0 args = true := by
  unfold kn_rflag at h
  simp only at h
  split at h
  · cases h; exact ⟨v_rflag _ _ hc.1, rfl⟩
  · cases h; exact ⟨FnP.nils (v_rflag [] _ hc.1) ⟨.inr ⟨rfl, _, rfl⟩, ⟨.inl rfl, trivial⟩⟩, rfl⟩
  · cases h
/-- The document's way to say which cells may be. -/
def rightCellM (c : Cell) : Bool :=
  bif (bif (bif (bif (bif (bif (bif (bif decide (c.status < 0) then true else decide (3 < c.status)) then true else !rightB c.prom) then true else !rightB c.voted) then true else !rightCR c.cmd) then true else !rightA c.attr) then true else belowB c.prom c.voted) then true else (bif c.same then (bif !decide (c.status = 1) then true else !(decide (c.ve = 0) && (decide (c.vr = 0) && true))) else false)) then false else
  (bif !decide (c.status = 0) then true else (bif (bif (decide (c.ckind = 0) && (decide (c.cclient = 0) && (decide (c.cseq = 0) && (decide (c.ckey = none8) && (decide (c.cfin = none8) && (decide (c.cold = none8) && (decide (c.cval = none8) && true))))))) then (decide (c.aseq = 0) && (decide (c.ad0 = 0) && (decide (c.ad1 = 0) && (decide (c.ad2 = 0) && (decide (c.ad3 = 0) && (decide (c.ad4 = 0) && (decide (c.ad5 = 0) && (decide (c.ad6 = 0) && true)))))))) else false) then (decide (c.ve = 0) && (decide (c.vr = 0) && true)) else false))
theorem rightCellM_eq (c : Cell) : rightCellM c = rightCell c := by
  have e := rightR_eq c.cmd
  unfold rightCellM rightCell cellOnly
  rw [e]
  generalize rightC c.cmd = x1
  generalize rightA c.attr = x2
  generalize rightB c.prom = x3
  generalize rightB c.voted = x4
  generalize belowB c.prom c.voted = x5
  by_cases h0 : c.status = 0
  · have hn : ¬ c.status < 0 := by omega
    have h3 : ¬ 3 < c.status := by omega
    have h1 : ¬ c.status = 1 := by omega
    simp only [decide_eq_false hn, decide_eq_false h3, decide_eq_false h1, decide_eq_true h0, cond_false, cond_true, Bool.not_true, Bool.not_false, Bool.true_and, Bool.and_true, decide_true]
    generalize c.same = same
    rw [Bool.eq_iff_iff]
    cases x3 <;> cases x4 <;> cases x5 <;> cases x1 <;> cases x2 <;> cases same <;> simp only [cond_true, cond_false, Bool.not_true, Bool.not_false, Bool.and_true, decide_true, decide_false, Bool.cond_eq_ite, Bool.and_eq_true, decide_eq_true_eq, Bool.not_eq_true', Bool.false_eq_true, Bool.and_false, reduceCtorEq] <;> grind
  · simp only [decide_eq_false h0, cond_false, cond_true, Bool.not_true, Bool.not_false, Bool.false_and]
    generalize decide (c.status < 0) = z1
    generalize decide (3 < c.status) = z2
    generalize (bif c.same then (bif !decide (c.status = 1) then true else !(decide (c.ve = 0) && (decide (c.vr = 0) && true))) else false) = z3
    cases z1 <;> cases z2 <;> cases z3 <;> cases x1 <;> cases x2 <;> cases x3 <;> cases x4 <;> cases x5 <;> rfl
structure FsR5 where
  rightB2 : Ballot → Bool
  below2 : Ballot → Ballot → Bool
  rightI2 : Inst → Bool
  rightCell2 : Cell → Bool
  rightL2 : Letter → Bool
def FsR50 : FsR5 where
  rightB2 := rightB
  below2 := belowB
  rightI2 := rightI
  rightCell2 := rightCell
  rightL2 := rightL
set_option maxRecDepth 100000 in
theorem v_rightB2 (b : Ballot) : FnV Try.prog 38 [Ballot.D b] (boolD ((rightB b))) := by
  obtain ⟨b_epoch, b_replica⟩ := b
  refine FnD_cbv (T := fun _ => tabY [] []) (H := fun _ => []) (tabY_ok _ _) noK_ok follows_mixed Try.func38 rfl Try.ntmps38 (by simp) fun A X W hA hX hW => ?_
  cbv
  repeat' first
    | (refine part (fun h => ?_) (fun h => ?_) <;> try cbv)
    | (refine And.intro ?_ ?_)
  all_goals subst hA hX hW
  all_goals try (show Region.lexB _ _ = true; kernel_rfl)
  all_goals try (show turnsB _ = true; kernel_rfl)
  all_goals simp only [A0, FsR50, decide_eq_true_eq, decide_eq_false_iff_not, Bool.not_eq_true', Bool.not_eq_false'] at *
  all_goals first
    | (refine ret_v ?_ rfl
       first
         | rfl
         | (simp_all [rightB, Ballot.D, boolD, intD, strD]; done)
         | (simp_all [rightB, Ballot.D, boolD, intD, strD]; rfl)
         | (simp only [rightB, Ballot.D, boolD, intD, strD] at *; congr 3; grind)
         | (simp only [rightB, Ballot.D, boolD, intD, strD] at *; grind))
    | (intros; simp_all [bytes1, maxLen]; done)
    | (intros; simp only [bytes1, maxLen] at *; omega)
    | grind
def kn_rightB2 (F : FsR5) : FuncId × (List DV → RV) := (38, fun args => match args with
  | [.agg [.d (.sc (.int .i64 b_epoch)), .d (.sc (.int .i64 b_replica))]] => some ([], boolD ((F.rightB2 ⟨b_epoch, b_replica⟩)))
  | _ => none)
theorem ok_rightB2 (args : List DV) (cs : List Prop) (r : DV) (h : (kn_rightB2 FsR50).2 args = some (cs, r)) (hc : allP cs True) : FnV Try.prog 38 args r ∧ closedL 0 args = true := by
  unfold kn_rightB2 at h
  simp only at h
  split at h
  · cases h; exact ⟨v_rightB2 ⟨_, _⟩, rfl⟩
  · cases h
set_option maxRecDepth 100000 in
theorem v_below2 (a : Ballot) (b : Ballot) : FnV Try.prog 41 [Ballot.D a, Ballot.D b] (boolD ((belowB a b))) := by
  obtain ⟨a_epoch, a_replica⟩ := a
  obtain ⟨b_epoch, b_replica⟩ := b
  refine FnD_cbv (T := fun _ => tabY [] []) (H := fun _ => []) (tabY_ok _ _) noK_ok follows_mixed Try.func41 rfl Try.ntmps41 (by simp) fun A X W hA hX hW => ?_
  cbv
  repeat' first
    | (refine part (fun h => ?_) (fun h => ?_) <;> try cbv)
    | (refine And.intro ?_ ?_)
  all_goals subst hA hX hW
  all_goals try (show Region.lexB _ _ = true; kernel_rfl)
  all_goals try (show turnsB _ = true; kernel_rfl)
  all_goals simp only [A0, FsR50, decide_eq_true_eq, decide_eq_false_iff_not, Bool.not_eq_true', Bool.not_eq_false'] at *
  all_goals first
    | (refine ret_v ?_ rfl
       first
         | rfl
         | (simp_all [belowB, Ballot.D, boolD, intD, strD]; done)
         | (simp_all [belowB, Ballot.D, boolD, intD, strD]; rfl)
         | (simp only [belowB, Ballot.D, boolD, intD, strD] at *; congr 3; grind)
         | (simp only [belowB, Ballot.D, boolD, intD, strD] at *; grind))
    | (intros; simp_all [bytes1, maxLen]; done)
    | (intros; simp only [bytes1, maxLen] at *; omega)
    | grind
def kn_below2 (F : FsR5) : FuncId × (List DV → RV) := (41, fun args => match args with
  | [.agg [.d (.sc (.int .i64 a_epoch)), .d (.sc (.int .i64 a_replica))], .agg [.d (.sc (.int .i64 b_epoch)), .d (.sc (.int .i64 b_replica))]] => some ([], boolD ((F.below2 ⟨a_epoch, a_replica⟩ ⟨b_epoch, b_replica⟩)))
  | _ => none)
theorem ok_below2 (args : List DV) (cs : List Prop) (r : DV) (h : (kn_below2 FsR50).2 args = some (cs, r)) (hc : allP cs True) : FnV Try.prog 41 args r ∧ closedL 0 args = true := by
  unfold kn_below2 at h
  simp only at h
  split at h
  · cases h; exact ⟨v_below2 ⟨_, _⟩ ⟨_, _⟩, rfl⟩
  · cases h
set_option maxRecDepth 100000 in
theorem v_rightI2 (i : Inst) : FnV Try.prog 54 [Inst.D i] (boolD ((rightI i))) := by
  obtain ⟨i_replica, i_slot⟩ := i
  refine FnD_cbv (T := fun _ => tabY [] []) (H := fun _ => []) (tabY_ok _ _) noK_ok follows_mixed Try.func54 rfl Try.ntmps54 (by simp) fun A X W hA hX hW => ?_
  cbv
  repeat' first
    | (refine part (fun h => ?_) (fun h => ?_) <;> try cbv)
    | (refine And.intro ?_ ?_)
  all_goals subst hA hX hW
  all_goals try (show Region.lexB _ _ = true; kernel_rfl)
  all_goals try (show turnsB _ = true; kernel_rfl)
  all_goals simp only [A0, FsR50, decide_eq_true_eq, decide_eq_false_iff_not, Bool.not_eq_true', Bool.not_eq_false'] at *
  all_goals first
    | (refine ret_v ?_ rfl
       first
         | rfl
         | (simp_all [rightI, Inst.D, boolD, intD, strD]; done)
         | (simp_all [rightI, Inst.D, boolD, intD, strD]; rfl)
         | (simp only [rightI, Inst.D, boolD, intD, strD] at *; congr 3; grind)
         | (simp only [rightI, Inst.D, boolD, intD, strD] at *; grind))
    | (intros; simp_all [bytes1, maxLen]; done)
    | (intros; simp only [bytes1, maxLen] at *; omega)
    | grind
def kn_rightI2 (F : FsR5) : FuncId × (List DV → RV) := (54, fun args => match args with
  | [.agg [.d (.sc (.int .i64 i_replica)), .d (.sc (.int .i64 i_slot))]] => some ([], boolD ((F.rightI2 ⟨i_replica, i_slot⟩)))
  | _ => none)
theorem ok_rightI2 (args : List DV) (cs : List Prop) (r : DV) (h : (kn_rightI2 FsR50).2 args = some (cs, r)) (hc : allP cs True) : FnV Try.prog 54 args r ∧ closedL 0 args = true := by
  unfold kn_rightI2 at h
  simp only at h
  split at h
  · cases h; exact ⟨v_rightI2 ⟨_, _⟩, rfl⟩
  · cases h
set_option maxRecDepth 100000 in
theorem v_rightCell2 (c : Cell) : FnV Try.prog 13 [Cell.D c] (boolD ((rightCell c))) := by
  obtain ⟨c_status, c_pe, c_pr, c_ve, c_vr, c_ckind, c_cclient, c_cseq, c_ckey, c_cfin, c_cold, c_cval, c_aseq, c_ad0, c_ad1, c_ad2, c_ad3, c_ad4, c_ad5, c_ad6, c_same⟩ := c
  obtain ⟨F, hF⟩ : ∃ F, F = FsR50 := ⟨_, rfl⟩
  obtain ⟨GFs5, hGFs5⟩ : ∃ F, F = Fs50 := ⟨_, rfl⟩
  obtain ⟨GFsA, hGFsA⟩ : ∃ F, F = FsA0 := ⟨_, rfl⟩
  have hH : SoundK Try.prog [kn_rightB2 F, kn_below2 F, kn_rightR GFs5, kn_rightAR GFsA] := by subst hF hGFs5 hGFsA; exact orK_ok ok_rightB2 (orK_ok ok_below2 (orK_ok ok_rightR (orK_ok ok_rightAR noK_ok)))
  refine FnD_cbv (T := fun _ => tabY [] []) (H := fun _ => [kn_rightB2 F, kn_below2 F, kn_rightR GFs5, kn_rightAR GFsA]) (tabY_ok _ _) hH follows_mixed Try.func13 rfl Try.ntmps13 (by simp) fun A X W hA hX hW => ?_
  cbv
  repeat' first
    | (refine part (fun h => ?_) (fun h => ?_) <;> try cbv)
    | (refine And.intro ?_ ?_)
  all_goals subst hA hX hW hF hGFs5 hGFsA
  all_goals clear hH
  all_goals first
    | (show Region.lexB _ _ = true; kernel_rfl)
    | (simp only [A0]; intros; first | assumption | trivial | (simp_all; done))
    | (simp only [A0]; intro hq; simpa using hq)
    | skip
  all_goals try simp only [A0, nc, FsR50, Fs50, FsA0] at *
  all_goals first
    | (refine ret_v ?_ rfl; rw [← rightCellM_eq]; simp only [rightCellM, Cell.prom, Cell.voted, Cell.cmd, Cell.attr, boolD, *]; rfl)
def kn_rightCell2 (F : FsR5) : FuncId × (List DV → RV) := (13, fun args => match args with
  | [.agg [.d (.sc (.int .i64 c_status)), .d (.sc (.int .i64 c_pe)), .d (.sc (.int .i64 c_pr)), .d (.sc (.int .i64 c_ve)), .d (.sc (.int .i64 c_vr)), .d (.sc (.int .i64 c_ckind)), .d (.sc (.int .i64 c_cclient)), .d (.sc (.int .i64 c_cseq)), .d (.sc (.string c_ckey)), .d (.sc (.string c_cfin)), .d (.sc (.string c_cold)), .d (.sc (.string c_cval)), .d (.sc (.int .i64 c_aseq)), .d (.sc (.int .i64 c_ad0)), .d (.sc (.int .i64 c_ad1)), .d (.sc (.int .i64 c_ad2)), .d (.sc (.int .i64 c_ad3)), .d (.sc (.int .i64 c_ad4)), .d (.sc (.int .i64 c_ad5)), .d (.sc (.int .i64 c_ad6)), .d (.sc (.bool c_same))]] => some ([], boolD ((F.rightCell2 ⟨c_status, c_pe, c_pr, c_ve, c_vr, c_ckind, c_cclient, c_cseq, c_ckey, c_cfin, c_cold, c_cval, c_aseq, c_ad0, c_ad1, c_ad2, c_ad3, c_ad4, c_ad5, c_ad6, c_same⟩)))
  | _ => none)
theorem ok_rightCell2 (args : List DV) (cs : List Prop) (r : DV) (h : (kn_rightCell2 FsR50).2 args = some (cs, r)) (hc : allP cs True) : FnV Try.prog 13 args r ∧ closedL 0 args = true := by
  unfold kn_rightCell2 at h
  simp only at h
  split at h
  · cases h; exact ⟨v_rightCell2 ⟨_, _, _, _, _, _, _, _, _, _, _, _, _, _, _, _, _, _, _, _, _⟩, rfl⟩
  · cases h
end Go.Proofs.Ytbhapclaochcnaa
namespace Go.Proofs.Ytbhapclaochcnaa
open Go.RowKit
set_option linter.all false
set_option maxHeartbeats 8000000
theorem rightDs_eq (m : Letter) : rightA ⟨0, m.fd0, m.fd1, m.fd2, m.fd3, m.fd4, m.fd5, m.fd6⟩ = rightDs ⟨m.fd0, m.fd1, m.fd2, m.fd3, m.fd4, m.fd5, m.fd6⟩ := by
  simp [rightA, Attr.deps]
theorem rightL_form {m : Letter} {P : Parts} (hn : namedP m.lkind = (P, true)) : rightL m = (placeR m.src && placeR m.dst && !decide (m.src = m.dst) && eqLet m (bareL m P) && (!P.inst || rightI m.inst) && rightB m.ballot && rightC m.cmd && rightA m.attr && rightCell m.cell && rightDs ⟨m.fd0, m.fd1, m.fd2, m.fd3, m.fd4, m.fd5, m.fd6⟩ && decide ((m.data.size : Int) ≤ 16384)) := by
  have e := rightDs_eq m
  unfold rightL badL1 badL2 lastL
  rw [hn, e]
  simp only
  generalize eqLet m (bareL m P) = x1
  generalize placeR m.src = x2
  generalize placeR m.dst = x3
  generalize decide (m.src = m.dst) = x4
  cases x1 <;> cases x2 <;> cases x3 <;> cases x4 <;> simp
  generalize rightDs ⟨m.fd0, m.fd1, m.fd2, m.fd3, m.fd4, m.fd5, m.fd6⟩ = y1
  generalize decide ((m.data.size : Int) ≤ 16384) = y2
  generalize rightB m.ballot = y3
  generalize rightI m.inst = y4
  generalize rightCell m.cell = y5
  generalize rightA m.attr = y6
  generalize rightC m.cmd = y7
  generalize P.inst = y8
  cases y1 <;> cases y3 <;> cases y4 <;> cases y5 <;> cases y6 <;> cases y7 <;> cases y8 <;> simp
/-- What the document says of a letter whose kind has a place and a ballot. -/
theorem form_low {m : Letter} {P : Parts} (hn : namedP m.lkind = (P, true)) (hi : P.inst = true) (h1 : (bif (bif (bif (bif decide (m.src < 0) then true else decide (7 ≤ m.src)) then true else decide (m.dst < 0)) then true else decide (7 ≤ m.dst)) then true else decide (m.src = m.dst)) = false) (h2 : (bif !rightI m.inst then true else !rightB m.ballot) = false) :
    (bif (bif (bif (bif (bif eqLet m (bareL m P) then rightCR m.cmd else false) then rightA m.attr else false) then rightCell m.cell else false) then rightDs ⟨m.fd0, m.fd1, m.fd2, m.fd3, m.fd4, m.fd5, m.fd6⟩ else false) then decide ((m.data.size : Int) ≤ 16384) else false) = rightL m := by
  rw [rightL_form hn, rightR_eq, hi]
  have hp : placeR m.src = true ∧ placeR m.dst = true ∧ decide (m.src = m.dst) = false := by
    simp only [placeR, Bool.and_eq_true, decide_eq_true_eq, decide_eq_false_iff_not]
    simp only [cond_eq_ite] at h1
    grind
  have hb : rightI m.inst = true ∧ rightB m.ballot = true := by
    revert h2
    cases rightI m.inst <;> cases rightB m.ballot <;> simp
  rw [hp.1, hp.2.1, hp.2.2, hb.1, hb.2]
  cases eqLet m (bareL m P) <;> cases rightC m.cmd <;> cases rightA m.attr <;> cases rightCell m.cell <;> cases rightDs ⟨m.fd0, m.fd1, m.fd2, m.fd3, m.fd4, m.fd5, m.fd6⟩ <;> simp
theorem form_high {m : Letter} {P : Parts} (hn : namedP m.lkind = (P, true)) (hi : P.inst = false) (hq : P.ballot = false) (h1 : (bif (bif (bif (bif decide (m.src < 0) then true else decide (7 ≤ m.src)) then true else decide (m.dst < 0)) then true else decide (7 ≤ m.dst)) then true else decide (m.src = m.dst)) = false) :
    (bif (bif (bif (bif (bif eqLet m (bareL m P) then rightCR m.cmd else false) then rightA m.attr else false) then rightCell m.cell else false) then rightDs ⟨m.fd0, m.fd1, m.fd2, m.fd3, m.fd4, m.fd5, m.fd6⟩ else false) then decide ((m.data.size : Int) ≤ 16384) else false) = rightL m := by
  rw [rightL_form hn, rightR_eq, hi]
  have hp : placeR m.src = true ∧ placeR m.dst = true ∧ decide (m.src = m.dst) = false := by
    simp only [placeR, Bool.and_eq_true, decide_eq_true_eq, decide_eq_false_iff_not]
    simp only [cond_eq_ite] at h1
    grind
  rw [hp.1, hp.2.1, hp.2.2]
  cases he : eqLet m (bareL m P)
  · simp
  · have e := (eqLet_iff _ _).1 he
    have e1 : m.be = 0 := by rw [e]; simp only [bareL, hq, cond_false]
    have e2 : m.br = 0 := by rw [e]; simp only [bareL, hq, cond_false]
    have hb : rightB m.ballot = true := by simp only [Letter.ballot, e1, e2]; decide
    rw [hb]
    cases rightC m.cmd <;> cases rightA m.attr <;> cases rightCell m.cell <;> cases rightDs ⟨m.fd0, m.fd1, m.fd2, m.fd3, m.fd4, m.fd5, m.fd6⟩ <;> simp
theorem form_bad {m : Letter} (h1 : (bif (bif (bif (bif decide (m.src < 0) then true else decide (7 ≤ m.src)) then true else decide (m.dst < 0)) then true else decide (7 ≤ m.dst)) then true else decide (m.src = m.dst)) = true) : rightL m = false := by
  cases hr : rightL m
  · rfl
  · have h := rightL_bare hr
    obtain ⟨_, h2, h3, h4, _⟩ := h
    simp only [placeR, Bool.and_eq_true, decide_eq_true_eq] at h2 h3
    simp only [cond_eq_ite] at h1
    grind
theorem form_bad2 {m : Letter} {P : Parts} (hn : namedP m.lkind = (P, true)) (hi : P.inst = true) (h2 : (bif !rightI m.inst then true else !rightB m.ballot) = true) : rightL m = false := by
  rw [rightL_form hn, hi]
  revert h2
  cases rightI m.inst <;> cases rightB m.ballot <;> simp
theorem rightL_kind {m : Letter} (h : rightL m = true) : 1 ≤ m.lkind ∧ m.lkind ≤ 11 := by
  have h1 := (rightL_bare h).1
  unfold namedP at h1
  repeat' split at h1
  all_goals first | omega | cases h1
theorem kinds {k : Int} (h : 1 ≤ k ∧ k ≤ 11) : k = 1 ∨ k = 2 ∨ k = 3 ∨ k = 4 ∨ k = 5 ∨ k = 6 ∨ k = 7 ∨ k = 8 ∨ k = 9 ∨ k = 10 ∨ k = 11 := by omega
end Go.Proofs.Ytbhapclaochcnaa
namespace Go.Proofs.Ytbhapclaochcnaa
open Go.RowKit
set_option linter.all false
set_option maxHeartbeats 8000000
noncomputable def instX (xs : List (List PD)) (i : Inst) : List (List PD) := numX (numX xs i.replica) i.slot
def rInst (i : Inst) : Prop := r64 i.replica ∧ r64 i.slot
noncomputable def cmdX (xs : List (List PD)) (c : Cmd) : List (List PD) := xs ++ bytesP (putB c)
theorem cmdX_eq (xs : List (List PD)) (c : Cmd) : cmdX xs c = if c.kind = 0 then numX xs c.kind else if c.kind = 2 then textX (textX (numX (numX (numX xs c.kind) c.client) c.seq) c.key) c.val else if c.kind = 4 then textX (textX (textX (numX (numX (numX xs c.kind) c.client) c.seq) c.key) c.old) c.val else if c.kind = 5 then textX (textX (numX (numX (numX xs c.kind) c.client) c.seq) c.key) c.fin else textX (numX (numX (numX xs c.kind) c.client) c.seq) c.key := by
  unfold cmdX putB
  repeat' split
  all_goals simp_all [numX, textX, ← bytesP_append]
theorem isBn.text {k : Nat} {xs : List (List PD)} (h : isBn k xs) (s : ByteArray) : isBn (k + (10 + s.size)) (textX xs s) := by
  obtain ⟨bs, rfl, h2⟩ := h
  have := textB_length s
  exact ⟨bs ++ textB s, by simp only [textX, bytesP_append], by rw [List.length_append]; omega⟩
theorem isBn.cmdX {k : Nat} {xs : List (List PD)} (h : isBn k xs) {c : Cmd} (hr : rightC c = true) : isBn (k + 400) (cmdX xs c) := by
  obtain ⟨bs, rfl, h2⟩ := h
  have := putB_small hr
  exact ⟨bs ++ putB c, by unfold Go.Proofs.Ytbhapclaochcnaa.cmdX; rw [bytesP_append], by rw [List.length_append]; omega⟩
theorem cmdX_put {xs : List (List PD)} {c : Cmd} (hr : rightC c = true) : cmdX xs c = putX xs c := by
  unfold cmdX putX
  rw [if_pos hr]
noncomputable def putCellM (xs : List (List PD)) (c : Cell) : List (List PD) := if c.status = 0 then ballotX (numX xs c.status) c.prom else flagX (putA (cmdX (ballotX (ballotX (numX xs c.status) c.prom) c.voted) c.cmd) c.attr) c.same
theorem putCellM_eq {xs : List (List PD)} {c : Cell} (hr : rightCell c = true) : putCellM xs c = putCellX xs c := by
  unfold putCellM
  split
  · rename_i h
    exact (putCell_short hr h).symm
  · rename_i h
    rw [cmdX_put (rightCell_parts hr).1]
    exact (putCell_long hr h).symm
structure FsR6 where
  ballot2 : List (List PD) → Ballot → List (List PD)
  inst2 : List (List PD) → Inst → List (List PD)
  cmd2 : List (List PD) → Cmd → List (List PD)
  attr2 : List (List PD) → Attr → List (List PD)
  putCell2 : List (List PD) → Cell → List (List PD)
  putLet2 : Letter → List (List PD)
  isBn : Nat → List (List PD) → Prop
  rBal : Ballot → Prop
  rInst : Inst → Prop
  okC : Cmd → Prop
  rAttr : Attr → Prop
  okCell : Cell → Prop
  rcell : Cell → Bool
  okLet : Letter → Prop
noncomputable def FsR60 : FsR6 where
  ballot2 := ballotX
  inst2 := instX
  cmd2 := cmdX
  attr2 := putA
  putCell2 := putCellM
  putLet2 := putLet
  isBn := isBn
  rBal := rBal
  rInst := rInst
  okC := okC
  rAttr := rAttr
  okCell := okCell
  rcell := rightCell
  okLet := okLet
set_option maxRecDepth 100000 in
theorem v_ballot2 (xs : List (List PD)) (x : Ballot) (hp0 : FsR60.isBn 4000000 xs) (hp1 : FsR60.rBal x) : FnV Try.prog 42 [.d (.slc 1 xs), Ballot.D x] (.d (.slc 1 (ballotX xs x))) := by
  obtain ⟨x_epoch, x_replica⟩ := x
  obtain ⟨GFsW, hGFsW⟩ : ∃ F, F = FsW0 := ⟨_, rfl⟩
  have hH : SoundK Try.prog [kn_rnum GFsW] := by subst hGFsW; exact orK_ok ok_rnum noK_ok
  refine FnD_cbv (T := fun _ => tabY [] []) (H := fun _ => [kn_rnum GFsW]) (tabY_ok _ _) hH follows_mixed Try.func42 rfl Try.ntmps42 (by simp) fun A X W hA hX hW => ?_
  cbv
  repeat' first
    | (refine And.intro ?_ ?_)
  all_goals subst hA hX hW hGFsW
  all_goals clear hH
  all_goals have b0 : isBn 4000000 xs := hp0
  all_goals have b1 := b0.num x_epoch
  all_goals obtain ⟨k0, k1⟩ := hp1
  all_goals try simp only [A0, nc, FsW0]
  all_goals first
    | (show Region.lexB _ _ = true; kernel_rfl)
    | exact b0.le (by omega)
    | exact b1.le (by omega)
    | exact k0
    | exact k1
    | (refine ret_v ?_ rfl; rfl)
def kn_ballot2 (F : FsR6) : FuncId × (List DV → RV) := (42, fun args => match args with
  | [.d (.slc 1 xs), .agg [.d (.sc (.int .i64 x_epoch)), .d (.sc (.int .i64 x_replica))]] => some ([F.isBn 4000000 xs, F.rBal ⟨x_epoch, x_replica⟩], .d (.slc 1 (F.ballot2 xs ⟨x_epoch, x_replica⟩)))
  | [.d (.sc (.slice none 0 0)), .agg [.d (.sc (.int .i64 x_epoch)), .d (.sc (.int .i64 x_replica))]] => some ([F.isBn 4000000 [], F.rBal ⟨x_epoch, x_replica⟩], .d (.slc 1 (F.ballot2 [] ⟨x_epoch, x_replica⟩)))
  | _ => none)
theorem ok_ballot2 (args : List DV) (cs : List Prop) (r : DV) (h : (kn_ballot2 FsR60).2 args = some (cs, r)) (hc : allP cs True) : FnV Try.prog 42 args r ∧ closedL 0 args = true := by
  unfold kn_ballot2 at h
  simp only at h
  split at h
  · cases h; exact ⟨v_ballot2 _ ⟨_, _⟩ hc.1 hc.2.1, rfl⟩
  · cases h; exact ⟨FnP.nils (v_ballot2 [] ⟨_, _⟩ hc.1 hc.2.1) ⟨.inr ⟨rfl, _, rfl⟩, ⟨.inl rfl, trivial⟩⟩, rfl⟩
  · cases h
set_option maxRecDepth 100000 in
theorem v_inst2 (xs : List (List PD)) (x : Inst) (hp0 : FsR60.isBn 4000000 xs) (hp1 : FsR60.rInst x) : FnV Try.prog 56 [.d (.slc 1 xs), Inst.D x] (.d (.slc 1 (instX xs x))) := by
  obtain ⟨x_replica, x_slot⟩ := x
  obtain ⟨GFsW, hGFsW⟩ : ∃ F, F = FsW0 := ⟨_, rfl⟩
  have hH : SoundK Try.prog [kn_rnum GFsW] := by subst hGFsW; exact orK_ok ok_rnum noK_ok
  refine FnD_cbv (T := fun _ => tabY [] []) (H := fun _ => [kn_rnum GFsW]) (tabY_ok _ _) hH follows_mixed Try.func56 rfl Try.ntmps56 (by simp) fun A X W hA hX hW => ?_
  cbv
  repeat' first
    | (refine And.intro ?_ ?_)
  all_goals subst hA hX hW hGFsW
  all_goals clear hH
  all_goals have b0 : isBn 4000000 xs := hp0
  all_goals have b1 := b0.num x_replica
  all_goals obtain ⟨k0, k1⟩ := hp1
  all_goals try simp only [A0, nc, FsW0]
  all_goals first
    | (show Region.lexB _ _ = true; kernel_rfl)
    | exact b0.le (by omega)
    | exact b1.le (by omega)
    | exact k0
    | exact k1
    | (refine ret_v ?_ rfl; rfl)
def kn_inst2 (F : FsR6) : FuncId × (List DV → RV) := (56, fun args => match args with
  | [.d (.slc 1 xs), .agg [.d (.sc (.int .i64 x_replica)), .d (.sc (.int .i64 x_slot))]] => some ([F.isBn 4000000 xs, F.rInst ⟨x_replica, x_slot⟩], .d (.slc 1 (F.inst2 xs ⟨x_replica, x_slot⟩)))
  | [.d (.sc (.slice none 0 0)), .agg [.d (.sc (.int .i64 x_replica)), .d (.sc (.int .i64 x_slot))]] => some ([F.isBn 4000000 [], F.rInst ⟨x_replica, x_slot⟩], .d (.slc 1 (F.inst2 [] ⟨x_replica, x_slot⟩)))
  | _ => none)
theorem ok_inst2 (args : List DV) (cs : List Prop) (r : DV) (h : (kn_inst2 FsR60).2 args = some (cs, r)) (hc : allP cs True) : FnV Try.prog 56 args r ∧ closedL 0 args = true := by
  unfold kn_inst2 at h
  simp only at h
  split at h
  · cases h; exact ⟨v_inst2 _ ⟨_, _⟩ hc.1 hc.2.1, rfl⟩
  · cases h; exact ⟨FnP.nils (v_inst2 [] ⟨_, _⟩ hc.1 hc.2.1) ⟨.inr ⟨rfl, _, rfl⟩, ⟨.inl rfl, trivial⟩⟩, rfl⟩
  · cases h
set_option maxRecDepth 100000 in
theorem v_attr2 (xs : List (List PD)) (a : Attr) (hp0 : FsR60.isBn 4000000 xs) (hp1 : FsR60.rAttr a) : FnV Try.prog 45 [.d (.slc 1 xs), Attr.D a] (.d (.slc 1 (putA xs a))) := by
  obtain ⟨a_seq, a_d0, a_d1, a_d2, a_d3, a_d4, a_d5, a_d6⟩ := a
  obtain ⟨GFsW, hGFsW⟩ : ∃ F, F = FsW0 := ⟨_, rfl⟩
  have hH : SoundK Try.prog [kn_rnum GFsW] := by subst hGFsW; exact orK_ok ok_rnum noK_ok
  refine FnD_cbv (T := fun _ => tabY [5003] []) (H := fun _ => [kn_rnum GFsW]) (tabY_ok _ _) hH follows_mixed Try.func45 rfl Try.ntmps45 (by simp) fun A X W hA hX hW => ?_
  cbv
  have l0 : A.cmp .lss 0 7 = true := by subst hA; rfl
  cbv at l0
  have l1 : A.cmp .lss 1 7 = true := by subst hA; rfl
  cbv at l1
  have l2 : A.cmp .lss 2 7 = true := by subst hA; rfl
  cbv at l2
  have l3 : A.cmp .lss 3 7 = true := by subst hA; rfl
  cbv at l3
  have l4 : A.cmp .lss 4 7 = true := by subst hA; rfl
  cbv at l4
  have l5 : A.cmp .lss 5 7 = true := by subst hA; rfl
  cbv at l5
  have l6 : A.cmp .lss 6 7 = true := by subst hA; rfl
  cbv at l6
  have l7 : A.cmp .lss 7 7 = false := by subst hA; rfl
  cbv at l7
  have b0 : A.bin .add .i64 0 1 = 1 := by subst hA; rfl
  cbv at b0
  have b1 : A.bin .add .i64 1 1 = 2 := by subst hA; rfl
  cbv at b1
  have b2 : A.bin .add .i64 2 1 = 3 := by subst hA; rfl
  cbv at b2
  have b3 : A.bin .add .i64 3 1 = 4 := by subst hA; rfl
  cbv at b3
  have b4 : A.bin .add .i64 4 1 = 5 := by subst hA; rfl
  cbv at b4
  have b5 : A.bin .add .i64 5 1 = 6 := by subst hA; rfl
  cbv at b5
  have b6 : A.bin .add .i64 6 1 = 7 := by subst hA; rfl
  cbv at b6
  have o0_0 : A.off 0 0 1 = 0 := by subst hA; rfl
  cbv at o0_0
  have o0_1 : A.off 0 1 1 = 1 := by subst hA; rfl
  cbv at o0_1
  have o0_2 : A.off 0 2 1 = 2 := by subst hA; rfl
  cbv at o0_2
  have o0_3 : A.off 0 3 1 = 3 := by subst hA; rfl
  cbv at o0_3
  have o0_4 : A.off 0 4 1 = 4 := by subst hA; rfl
  cbv at o0_4
  have o0_5 : A.off 0 5 1 = 5 := by subst hA; rfl
  cbv at o0_5
  have o0_6 : A.off 0 6 1 = 6 := by subst hA; rfl
  cbv at o0_6
  refine And.intro ?_ (And.intro ?_ ?_)
  rotate_left 2
  refine unrollL (T := fun _ => tabY [5003] []) (H := fun _ => [kn_rnum GFsW]) (tabY_ok _ _) hH follows_mixed hA hX 8 fun R hR => ?_
  repeat' first
    | (simp only [l0, l1, l2, l3, l4, l5, l6, l7, b0, b1, b2, b3, b4, b5, b6, o0_0, o0_1, o0_2, o0_3, o0_4, o0_5, o0_6, decide_true]; cbv)
    | (refine part (fun h => ?_) (fun h => ?_) <;> try cbv)
    | (refine And.intro ?_ ?_)
    | (refine hR _ _ _ ?_; cbv)
  all_goals clear l0 l1 l2 l3 l4 l5 l6 l7 b0 b1 b2 b3 b4 b5 b6 o0_0 o0_1 o0_2 o0_3 o0_4 o0_5 o0_6 hH
  all_goals try clear hR
  all_goals subst hA hX hW hGFsW
  all_goals have b0 : isBn 4000000 xs := hp0
  all_goals have b1 := b0.num a_seq
  all_goals have b2 := b1.num a_d0
  all_goals have b3 := b2.num a_d1
  all_goals have b4 := b3.num a_d2
  all_goals have b5 := b4.num a_d3
  all_goals have b6 := b5.num a_d4
  all_goals have b7 := b6.num a_d5
  all_goals obtain ⟨k0, k1, k2, k3, k4, k5, k6, k7⟩ := hp1
  all_goals simp only at k0 k1 k2 k3 k4 k5 k6 k7
  all_goals try simp only [A0, nc, FsW0, List.getElem?_cons_zero, List.getElem?_cons_succ]
  all_goals first
    | exact ⟨by decide, by decide⟩
    | exact b0.le (by omega)
    | exact b1.le (by omega)
    | exact b2.le (by omega)
    | exact b3.le (by omega)
    | exact b4.le (by omega)
    | exact b5.le (by omega)
    | exact b6.le (by omega)
    | exact b7.le (by omega)
    | assumption
    | (simp; done)
    | (refine ret_v ?_ rfl; rfl)
def kn_attr2 (F : FsR6) : FuncId × (List DV → RV) := (45, fun args => match args with
  | [.d (.slc 1 xs), .agg [.d (.sc (.int .i64 a_seq)), .d (.sc (.int .i64 a_d0)), .d (.sc (.int .i64 a_d1)), .d (.sc (.int .i64 a_d2)), .d (.sc (.int .i64 a_d3)), .d (.sc (.int .i64 a_d4)), .d (.sc (.int .i64 a_d5)), .d (.sc (.int .i64 a_d6))]] => some ([F.isBn 4000000 xs, F.rAttr ⟨a_seq, a_d0, a_d1, a_d2, a_d3, a_d4, a_d5, a_d6⟩], .d (.slc 1 (F.attr2 xs ⟨a_seq, a_d0, a_d1, a_d2, a_d3, a_d4, a_d5, a_d6⟩)))
  | [.d (.sc (.slice none 0 0)), .agg [.d (.sc (.int .i64 a_seq)), .d (.sc (.int .i64 a_d0)), .d (.sc (.int .i64 a_d1)), .d (.sc (.int .i64 a_d2)), .d (.sc (.int .i64 a_d3)), .d (.sc (.int .i64 a_d4)), .d (.sc (.int .i64 a_d5)), .d (.sc (.int .i64 a_d6))]] => some ([F.isBn 4000000 [], F.rAttr ⟨a_seq, a_d0, a_d1, a_d2, a_d3, a_d4, a_d5, a_d6⟩], .d (.slc 1 (F.attr2 [] ⟨a_seq, a_d0, a_d1, a_d2, a_d3, a_d4, a_d5, a_d6⟩)))
  | _ => none)
theorem ok_attr2 (args : List DV) (cs : List Prop) (r : DV) (h : (kn_attr2 FsR60).2 args = some (cs, r)) (hc : allP cs True) : FnV Try.prog 45 args r ∧ closedL 0 args = true := by
  unfold kn_attr2 at h
  simp only at h
  split at h
  · cases h; exact ⟨v_attr2 _ ⟨_, _, _, _, _, _, _, _⟩ hc.1 hc.2.1, rfl⟩
  · cases h; exact ⟨FnP.nils (v_attr2 [] ⟨_, _, _, _, _, _, _, _⟩ hc.1 hc.2.1) ⟨.inr ⟨rfl, _, rfl⟩, ⟨.inl rfl, trivial⟩⟩, rfl⟩
  · cases h
set_option maxRecDepth 100000 in
theorem v_cmd2 (xs : List (List PD)) (c : Cmd) (hp0 : FsR60.isBn 2000000 xs) (hp1 : FsR60.okC c) : FnV Try.prog 46 [.d (.slc 1 xs), Cmd.D c] (.d (.slc 1 (cmdX xs c))) := by
  obtain ⟨c_kind, c_client, c_seq, c_key, c_fin, c_old, c_val⟩ := c
  obtain ⟨GFsW, hGFsW⟩ : ∃ F, F = FsW0 := ⟨_, rfl⟩
  have hH : SoundK Try.prog [kn_rnum GFsW, kn_rtext GFsW] := by subst hGFsW; exact orK_ok ok_rnum (orK_ok ok_rtext noK_ok)
  refine FnD_cbv (T := fun _ => tabY [] []) (H := fun _ => [kn_rnum GFsW, kn_rtext GFsW]) (tabY_ok _ _) hH follows_mixed Try.func46 rfl Try.ntmps46 (by simp) fun A X W hA hX hW => ?_
  cbv
  have b0 : isBn 2000000 xs := hp0
  obtain ⟨k1, k2, k3, k4, k5, k6, k7⟩ := hp1
  simp only at k1 k2 k3 k4 k5 k6 k7
  repeat' first
    | (refine part (fun h => ?_) (fun h => ?_) <;> try cbv)
    | (refine And.intro ?_ ?_)
  all_goals subst hA hX hW hGFsW
  all_goals clear hH
  all_goals try simp only [A0, nc, FsW0, decide_eq_true_eq, decide_eq_false_iff_not] at *
  all_goals have b1 := b0.num c_kind
  all_goals have b2 := b1.num c_client
  all_goals have b3 := b2.num c_seq
  all_goals have b4 := b3.text c_key
  all_goals have b5 := b4.text c_old
  all_goals first
    | (show Region.lexB _ _ = true; kernel_rfl)
    | exact b0.le (by omega)
    | exact b1.le (by omega)
    | exact b2.le (by omega)
    | exact b3.le (by omega)
    | exact b4.le (by omega)
    | exact b5.le (by omega)
    | assumption
    | (show szT _; unfold szT; omega)
    | (refine ret_v ?_ rfl
       show DV.d (.slc 1 _) = DV.d (.slc 1 (cmdX _ _))
       rw [cmdX_eq]
       simp_all
       done)
def kn_cmd2 (F : FsR6) : FuncId × (List DV → RV) := (46, fun args => match args with
  | [.d (.slc 1 xs), .agg [.d (.sc (.int .i64 c_kind)), .d (.sc (.int .i64 c_client)), .d (.sc (.int .i64 c_seq)), .d (.sc (.string c_key)), .d (.sc (.string c_fin)), .d (.sc (.string c_old)), .d (.sc (.string c_val))]] => some ([F.isBn 2000000 xs, F.okC ⟨c_kind, c_client, c_seq, c_key, c_fin, c_old, c_val⟩], .d (.slc 1 (F.cmd2 xs ⟨c_kind, c_client, c_seq, c_key, c_fin, c_old, c_val⟩)))
  | [.d (.sc (.slice none 0 0)), .agg [.d (.sc (.int .i64 c_kind)), .d (.sc (.int .i64 c_client)), .d (.sc (.int .i64 c_seq)), .d (.sc (.string c_key)), .d (.sc (.string c_fin)), .d (.sc (.string c_old)), .d (.sc (.string c_val))]] => some ([F.isBn 2000000 [], F.okC ⟨c_kind, c_client, c_seq, c_key, c_fin, c_old, c_val⟩], .d (.slc 1 (F.cmd2 [] ⟨c_kind, c_client, c_seq, c_key, c_fin, c_old, c_val⟩)))
  | _ => none)
theorem ok_cmd2 (args : List DV) (cs : List Prop) (r : DV) (h : (kn_cmd2 FsR60).2 args = some (cs, r)) (hc : allP cs True) : FnV Try.prog 46 args r ∧ closedL 0 args = true := by
  unfold kn_cmd2 at h
  simp only at h
  split at h
  · cases h; exact ⟨v_cmd2 _ ⟨_, _, _, _, _, _, _⟩ hc.1 hc.2.1, rfl⟩
  · cases h; exact ⟨FnP.nils (v_cmd2 [] ⟨_, _, _, _, _, _, _⟩ hc.1 hc.2.1) ⟨.inr ⟨rfl, _, rfl⟩, ⟨.inl rfl, trivial⟩⟩, rfl⟩
  · cases h
set_option maxRecDepth 100000 in
theorem v_putCell2 (xs : List (List PD)) (c : Cell) (hp0 : FsR60.isBn 1500000 xs) (hp1 : FsR60.okCell c) (hp2 : FsR60.rcell c = true) : FnV Try.prog 14 [.d (.slc 1 xs), Cell.D c] (.d (.slc 1 (putCellM xs c))) := by
  obtain ⟨c_status, c_pe, c_pr, c_ve, c_vr, c_ckind, c_cclient, c_cseq, c_ckey, c_cfin, c_cold, c_cval, c_aseq, c_ad0, c_ad1, c_ad2, c_ad3, c_ad4, c_ad5, c_ad6, c_same⟩ := c
  obtain ⟨GFsW, hGFsW⟩ : ∃ F, F = FsW0 := ⟨_, rfl⟩
  obtain ⟨F, hF⟩ : ∃ F, F = FsR60 := ⟨_, rfl⟩
  have hH : SoundK Try.prog [kn_rnum GFsW, kn_ballot2 F, kn_cmd2 F, kn_attr2 F, kn_rflag GFsW] := by subst hGFsW hF; exact orK_ok ok_rnum (orK_ok ok_ballot2 (orK_ok ok_cmd2 (orK_ok ok_attr2 (orK_ok ok_rflag noK_ok))))
  refine FnD_cbv (T := fun _ => tabY [] []) (H := fun _ => [kn_rnum GFsW, kn_ballot2 F, kn_cmd2 F, kn_attr2 F, kn_rflag GFsW]) (tabY_ok _ _) hH follows_mixed Try.func14 rfl Try.ntmps14 (by simp) fun A X W hA hX hW => ?_
  cbv
  have b0 : isBn 1500000 xs := hp0
  obtain ⟨k0, k1, k2, k3, k4⟩ := hp1
  have hrp := rightCell_parts (hp2 : rightCell _ = true)
  repeat' first
    | (refine part (fun h => ?_) (fun h => ?_) <;> try cbv)
    | (refine And.intro ?_ ?_)
  all_goals subst hA hX hW hF hGFsW
  all_goals clear hH
  all_goals try simp only [A0, nc, FsW0, FsR60, decide_eq_true_eq, decide_eq_false_iff_not] at *
  all_goals have b1 := b0.num c_status
  all_goals have b2 := b1.ballot ⟨c_pe, c_pr⟩
  all_goals have b3 := b2.ballot ⟨c_ve, c_vr⟩
  all_goals have b4 := b3.cmdX hrp.1
  all_goals have b5 := b4.dput ⟨c_aseq, c_ad0, c_ad1, c_ad2, c_ad3, c_ad4, c_ad5, c_ad6⟩
  all_goals first
    | (show Region.lexB _ _ = true; kernel_rfl)
    | exact b0.le (by omega)
    | exact b1.mono (by omega)
    | exact b2.mono (by omega)
    | exact b3.mono (by omega)
    | exact b4.mono (by omega)
    | exact b5.le (by omega)
    | exact k0
    | exact k1
    | exact k2
    | exact k3
    | exact k4
    | (refine ret_v ?_ rfl
       show DV.d (.slc 1 _) = DV.d (.slc 1 (putCellM _ _))
       unfold putCellM
       first
         | (rw [if_pos h]; rfl)
         | (rw [if_neg h]; rfl))
def kn_putCell2 (F : FsR6) : FuncId × (List DV → RV) := (14, fun args => match args with
  | [.d (.slc 1 xs), .agg [.d (.sc (.int .i64 c_status)), .d (.sc (.int .i64 c_pe)), .d (.sc (.int .i64 c_pr)), .d (.sc (.int .i64 c_ve)), .d (.sc (.int .i64 c_vr)), .d (.sc (.int .i64 c_ckind)), .d (.sc (.int .i64 c_cclient)), .d (.sc (.int .i64 c_cseq)), .d (.sc (.string c_ckey)), .d (.sc (.string c_cfin)), .d (.sc (.string c_cold)), .d (.sc (.string c_cval)), .d (.sc (.int .i64 c_aseq)), .d (.sc (.int .i64 c_ad0)), .d (.sc (.int .i64 c_ad1)), .d (.sc (.int .i64 c_ad2)), .d (.sc (.int .i64 c_ad3)), .d (.sc (.int .i64 c_ad4)), .d (.sc (.int .i64 c_ad5)), .d (.sc (.int .i64 c_ad6)), .d (.sc (.bool c_same))]] => some ([F.isBn 1500000 xs, F.okCell ⟨c_status, c_pe, c_pr, c_ve, c_vr, c_ckind, c_cclient, c_cseq, c_ckey, c_cfin, c_cold, c_cval, c_aseq, c_ad0, c_ad1, c_ad2, c_ad3, c_ad4, c_ad5, c_ad6, c_same⟩, F.rcell ⟨c_status, c_pe, c_pr, c_ve, c_vr, c_ckind, c_cclient, c_cseq, c_ckey, c_cfin, c_cold, c_cval, c_aseq, c_ad0, c_ad1, c_ad2, c_ad3, c_ad4, c_ad5, c_ad6, c_same⟩ = true], .d (.slc 1 (F.putCell2 xs ⟨c_status, c_pe, c_pr, c_ve, c_vr, c_ckind, c_cclient, c_cseq, c_ckey, c_cfin, c_cold, c_cval, c_aseq, c_ad0, c_ad1, c_ad2, c_ad3, c_ad4, c_ad5, c_ad6, c_same⟩)))
  | [.d (.sc (.slice none 0 0)), .agg [.d (.sc (.int .i64 c_status)), .d (.sc (.int .i64 c_pe)), .d (.sc (.int .i64 c_pr)), .d (.sc (.int .i64 c_ve)), .d (.sc (.int .i64 c_vr)), .d (.sc (.int .i64 c_ckind)), .d (.sc (.int .i64 c_cclient)), .d (.sc (.int .i64 c_cseq)), .d (.sc (.string c_ckey)), .d (.sc (.string c_cfin)), .d (.sc (.string c_cold)), .d (.sc (.string c_cval)), .d (.sc (.int .i64 c_aseq)), .d (.sc (.int .i64 c_ad0)), .d (.sc (.int .i64 c_ad1)), .d (.sc (.int .i64 c_ad2)), .d (.sc (.int .i64 c_ad3)), .d (.sc (.int .i64 c_ad4)), .d (.sc (.int .i64 c_ad5)), .d (.sc (.int .i64 c_ad6)), .d (.sc (.bool c_same))]] => some ([F.isBn 1500000 [], F.okCell ⟨c_status, c_pe, c_pr, c_ve, c_vr, c_ckind, c_cclient, c_cseq, c_ckey, c_cfin, c_cold, c_cval, c_aseq, c_ad0, c_ad1, c_ad2, c_ad3, c_ad4, c_ad5, c_ad6, c_same⟩, F.rcell ⟨c_status, c_pe, c_pr, c_ve, c_vr, c_ckind, c_cclient, c_cseq, c_ckey, c_cfin, c_cold, c_cval, c_aseq, c_ad0, c_ad1, c_ad2, c_ad3, c_ad4, c_ad5, c_ad6, c_same⟩ = true], .d (.slc 1 (F.putCell2 [] ⟨c_status, c_pe, c_pr, c_ve, c_vr, c_ckind, c_cclient, c_cseq, c_ckey, c_cfin, c_cold, c_cval, c_aseq, c_ad0, c_ad1, c_ad2, c_ad3, c_ad4, c_ad5, c_ad6, c_same⟩)))
  | _ => none)
theorem ok_putCell2 (args : List DV) (cs : List Prop) (r : DV) (h : (kn_putCell2 FsR60).2 args = some (cs, r)) (hc : allP cs True) : FnV Try.prog 14 args r ∧ closedL 0 args = true := by
  unfold kn_putCell2 at h
  simp only at h
  split at h
  · cases h; exact ⟨v_putCell2 _ ⟨_, _, _, _, _, _, _, _, _, _, _, _, _, _, _, _, _, _, _, _, _⟩ hc.1 hc.2.1 hc.2.2.1, rfl⟩
  · cases h; exact ⟨FnP.nils (v_putCell2 [] ⟨_, _, _, _, _, _, _, _, _, _, _, _, _, _, _, _, _, _, _, _, _⟩ hc.1 hc.2.1 hc.2.2.1) ⟨.inr ⟨rfl, _, rfl⟩, ⟨.inl rfl, trivial⟩⟩, rfl⟩
  · cases h
end Go.Proofs.Ytbhapclaochcnaa
namespace Go.Proofs.Ytbhapclaochcnaa
open Go.RowKit
set_option linter.all false
set_option maxHeartbeats 8000000
set_option maxRecDepth 100000 in
theorem v_rl1 (m : Letter) (e : m.lkind = 1) : FnV Try.prog 17 [m.D] (boolD (rightL m)) := by
  obtain ⟨m_lkind, m_src, m_dst, m_irep, m_islot, m_be, m_br, m_mkind, m_mclient, m_mseq, m_mkey, m_mfin, m_mold, m_mval, m_tseq, m_td0, m_td1, m_td2, m_td3, m_td4, m_td5, m_td6, m_lstatus, m_lpe, m_lpr, m_lve, m_lvr, m_lckind, m_lcclient, m_lcseq, m_lckey, m_lcfin, m_lcold, m_lcval, m_laseq, m_lad0, m_lad1, m_lad2, m_lad3, m_lad4, m_lad5, m_lad6, m_lsame, m_fd0, m_fd1, m_fd2, m_fd3, m_fd4, m_fd5, m_fd6, m_data⟩ := m
  replace e : m_lkind = 1 := e
  subst e
  obtain ⟨GFsR5, hGFsR5⟩ : ∃ F, F = FsR50 := ⟨_, rfl⟩
  obtain ⟨GFs5, hGFs5⟩ : ∃ F, F = Fs50 := ⟨_, rfl⟩
  obtain ⟨GFsA, hGFsA⟩ : ∃ F, F = FsA0 := ⟨_, rfl⟩
  have hH : SoundK Try.prog [kn_rightI2 GFsR5, kn_rightB2 GFsR5, kn_rightR GFs5, kn_rightAR GFsA, kn_rightCell2 GFsR5, kn_rightD GFsA] := by subst hGFsR5 hGFs5 hGFsA; exact orK_ok ok_rightI2 (orK_ok ok_rightB2 (orK_ok ok_rightR (orK_ok ok_rightAR (orK_ok ok_rightCell2 (orK_ok ok_rightD noK_ok)))))
  refine FnD_cbv (T := fun _ => tabY [] []) (H := fun _ => [kn_rightI2 GFsR5, kn_rightB2 GFsR5, kn_rightR GFs5, kn_rightAR GFsA, kn_rightCell2 GFsR5, kn_rightD GFsA]) (tabY_ok _ _) hH follows_mixed Try.func17 rfl Try.ntmps17 (by simp) fun A X W hA hX hW => ?_
  cbv
  have f1 : A.cmp .lss 1 1 = false := by subst hA; rfl
  have f2 : A.cmp .gtr 1 11 = false := by subst hA; rfl
  have f3 : A.cmp .lss 1 9 = true := by subst hA; rfl
  have f4 : A.cmp .neq 1 5 = true := by subst hA; rfl
  have g0 : A.cmp .eql 1 1 = true := by subst hA; rfl
  have g1 : A.cmp .eql 1 3 = false := by subst hA; rfl
  have g2 : A.cmp .eql 1 5 = false := by subst hA; rfl
  have g3 : A.cmp .eql 1 2 = false := by subst hA; rfl
  have g4 : A.cmp .eql 1 7 = false := by subst hA; rfl
  have g5 : A.cmp .eql 1 9 = false := by subst hA; rfl
  have g6 : A.cmp .eql 1 11 = false := by subst hA; rfl
  have g7 : A.cmp .eql 1 10 = false := by subst hA; rfl
  have ftf : A.cond false true false = false := by subst hA; rfl
  have fff : A.cond false false false = false := by subst hA; rfl
  cbv at f1 f2 f3 f4 g0 g1 g2 g3 g4 g5 g6 g7 ftf fff
  repeat' first
    | (simp only [f1, f2, f3, f4, g0, g1, g2, g3, g4, g5, g6, g7, ftf, fff]; cbv)
    | (refine part (fun h => ?_) (fun h => ?_) <;> try cbv)
    | (refine And.intro ?_ ?_)
    | (with_reducible refine goL (T := fun _ => tabY [] []) (H := fun _ => [kn_rightI2 GFsR5, kn_rightB2 GFsR5, kn_rightR GFs5, kn_rightAR GFsA, kn_rightCell2 GFsR5, kn_rightD GFsA]) (tabY_ok _ _) hH follows_mixed hA hX ?_
       cbv)
  all_goals clear hH f1 f2 f3 f4 g0 g1 g2 g3 g4 g5 g6 g7 ftf fff
  all_goals subst hA hX hW hGFsR5 hGFs5 hGFsA
  all_goals first
    | (refine ret_v ?_ rfl
       exact congrArg (fun b => DV.d (.sc (.bool b))) (form_bad (m := (⟨1, m_src, m_dst, m_irep, m_islot, m_be, m_br, m_mkind, m_mclient, m_mseq, m_mkey, m_mfin, m_mold, m_mval, m_tseq, m_td0, m_td1, m_td2, m_td3, m_td4, m_td5, m_td6, m_lstatus, m_lpe, m_lpr, m_lve, m_lvr, m_lckind, m_lcclient, m_lcseq, m_lckey, m_lcfin, m_lcold, m_lcval, m_laseq, m_lad0, m_lad1, m_lad2, m_lad3, m_lad4, m_lad5, m_lad6, m_lsame, m_fd0, m_fd1, m_fd2, m_fd3, m_fd4, m_fd5, m_fd6, m_data⟩ : Letter)) ‹_›).symm)
    | (refine ret_v ?_ rfl
       exact congrArg (fun b => DV.d (.sc (.bool b))) (form_bad2 (m := (⟨1, m_src, m_dst, m_irep, m_islot, m_be, m_br, m_mkind, m_mclient, m_mseq, m_mkey, m_mfin, m_mold, m_mval, m_tseq, m_td0, m_td1, m_td2, m_td3, m_td4, m_td5, m_td6, m_lstatus, m_lpe, m_lpr, m_lve, m_lvr, m_lckind, m_lcclient, m_lcseq, m_lckey, m_lcfin, m_lcold, m_lcval, m_laseq, m_lad0, m_lad1, m_lad2, m_lad3, m_lad4, m_lad5, m_lad6, m_lsame, m_fd0, m_fd1, m_fd2, m_fd3, m_fd4, m_fd5, m_fd6, m_data⟩ : Letter)) (P := ⟨true, true, true, true, false, false, false⟩) rfl rfl ‹_›).symm)
    | (refine ret_v ?_ rfl
       rename_i h1
       exact congrArg (fun b => DV.d (.sc (.bool b))) (form_low (m := (⟨1, m_src, m_dst, m_irep, m_islot, m_be, m_br, m_mkind, m_mclient, m_mseq, m_mkey, m_mfin, m_mold, m_mval, m_tseq, m_td0, m_td1, m_td2, m_td3, m_td4, m_td5, m_td6, m_lstatus, m_lpe, m_lpr, m_lve, m_lvr, m_lckind, m_lcclient, m_lcseq, m_lckey, m_lcfin, m_lcold, m_lcval, m_laseq, m_lad0, m_lad1, m_lad2, m_lad3, m_lad4, m_lad5, m_lad6, m_lsame, m_fd0, m_fd1, m_fd2, m_fd3, m_fd4, m_fd5, m_fd6, m_data⟩ : Letter)) (P := ⟨true, true, true, true, false, false, false⟩) rfl rfl h1 h))
    | (show Region.lexB _ _ = true; kernel_rfl)
    | (show turnsB _ = true; kernel_rfl)
    | (simp only [A0]
       first
         | exact id
         | exact fun _ => trivial
         | (intro q; rw [q]; rfl)
         | (intro q; simpa using q))
set_option maxRecDepth 100000 in
theorem v_rl2 (m : Letter) (e : m.lkind = 2) : FnV Try.prog 17 [m.D] (boolD (rightL m)) := by
  obtain ⟨m_lkind, m_src, m_dst, m_irep, m_islot, m_be, m_br, m_mkind, m_mclient, m_mseq, m_mkey, m_mfin, m_mold, m_mval, m_tseq, m_td0, m_td1, m_td2, m_td3, m_td4, m_td5, m_td6, m_lstatus, m_lpe, m_lpr, m_lve, m_lvr, m_lckind, m_lcclient, m_lcseq, m_lckey, m_lcfin, m_lcold, m_lcval, m_laseq, m_lad0, m_lad1, m_lad2, m_lad3, m_lad4, m_lad5, m_lad6, m_lsame, m_fd0, m_fd1, m_fd2, m_fd3, m_fd4, m_fd5, m_fd6, m_data⟩ := m
  replace e : m_lkind = 2 := e
  subst e
  obtain ⟨GFsR5, hGFsR5⟩ : ∃ F, F = FsR50 := ⟨_, rfl⟩
  obtain ⟨GFs5, hGFs5⟩ : ∃ F, F = Fs50 := ⟨_, rfl⟩
  obtain ⟨GFsA, hGFsA⟩ : ∃ F, F = FsA0 := ⟨_, rfl⟩
  have hH : SoundK Try.prog [kn_rightI2 GFsR5, kn_rightB2 GFsR5, kn_rightR GFs5, kn_rightAR GFsA, kn_rightCell2 GFsR5, kn_rightD GFsA] := by subst hGFsR5 hGFs5 hGFsA; exact orK_ok ok_rightI2 (orK_ok ok_rightB2 (orK_ok ok_rightR (orK_ok ok_rightAR (orK_ok ok_rightCell2 (orK_ok ok_rightD noK_ok)))))
  refine FnD_cbv (T := fun _ => tabY [] []) (H := fun _ => [kn_rightI2 GFsR5, kn_rightB2 GFsR5, kn_rightR GFs5, kn_rightAR GFsA, kn_rightCell2 GFsR5, kn_rightD GFsA]) (tabY_ok _ _) hH follows_mixed Try.func17 rfl Try.ntmps17 (by simp) fun A X W hA hX hW => ?_
  cbv
  have f1 : A.cmp .lss 2 1 = false := by subst hA; rfl
  have f2 : A.cmp .gtr 2 11 = false := by subst hA; rfl
  have f3 : A.cmp .lss 2 9 = true := by subst hA; rfl
  have f4 : A.cmp .neq 2 5 = true := by subst hA; rfl
  have g0 : A.cmp .eql 2 1 = false := by subst hA; rfl
  have g1 : A.cmp .eql 2 3 = false := by subst hA; rfl
  have g2 : A.cmp .eql 2 5 = false := by subst hA; rfl
  have g3 : A.cmp .eql 2 2 = true := by subst hA; rfl
  have g4 : A.cmp .eql 2 7 = false := by subst hA; rfl
  have g5 : A.cmp .eql 2 9 = false := by subst hA; rfl
  have g6 : A.cmp .eql 2 11 = false := by subst hA; rfl
  have g7 : A.cmp .eql 2 10 = false := by subst hA; rfl
  have ftf : A.cond false true false = false := by subst hA; rfl
  have fff : A.cond false false false = false := by subst hA; rfl
  cbv at f1 f2 f3 f4 g0 g1 g2 g3 g4 g5 g6 g7 ftf fff
  repeat' first
    | (simp only [f1, f2, f3, f4, g0, g1, g2, g3, g4, g5, g6, g7, ftf, fff]; cbv)
    | (refine part (fun h => ?_) (fun h => ?_) <;> try cbv)
    | (refine And.intro ?_ ?_)
    | (with_reducible refine goL (T := fun _ => tabY [] []) (H := fun _ => [kn_rightI2 GFsR5, kn_rightB2 GFsR5, kn_rightR GFs5, kn_rightAR GFsA, kn_rightCell2 GFsR5, kn_rightD GFsA]) (tabY_ok _ _) hH follows_mixed hA hX ?_
       cbv)
  all_goals clear hH f1 f2 f3 f4 g0 g1 g2 g3 g4 g5 g6 g7 ftf fff
  all_goals subst hA hX hW hGFsR5 hGFs5 hGFsA
  all_goals first
    | (refine ret_v ?_ rfl
       exact congrArg (fun b => DV.d (.sc (.bool b))) (form_bad (m := (⟨2, m_src, m_dst, m_irep, m_islot, m_be, m_br, m_mkind, m_mclient, m_mseq, m_mkey, m_mfin, m_mold, m_mval, m_tseq, m_td0, m_td1, m_td2, m_td3, m_td4, m_td5, m_td6, m_lstatus, m_lpe, m_lpr, m_lve, m_lvr, m_lckind, m_lcclient, m_lcseq, m_lckey, m_lcfin, m_lcold, m_lcval, m_laseq, m_lad0, m_lad1, m_lad2, m_lad3, m_lad4, m_lad5, m_lad6, m_lsame, m_fd0, m_fd1, m_fd2, m_fd3, m_fd4, m_fd5, m_fd6, m_data⟩ : Letter)) ‹_›).symm)
    | (refine ret_v ?_ rfl
       exact congrArg (fun b => DV.d (.sc (.bool b))) (form_bad2 (m := (⟨2, m_src, m_dst, m_irep, m_islot, m_be, m_br, m_mkind, m_mclient, m_mseq, m_mkey, m_mfin, m_mold, m_mval, m_tseq, m_td0, m_td1, m_td2, m_td3, m_td4, m_td5, m_td6, m_lstatus, m_lpe, m_lpr, m_lve, m_lvr, m_lckind, m_lcclient, m_lcseq, m_lckey, m_lcfin, m_lcold, m_lcval, m_laseq, m_lad0, m_lad1, m_lad2, m_lad3, m_lad4, m_lad5, m_lad6, m_lsame, m_fd0, m_fd1, m_fd2, m_fd3, m_fd4, m_fd5, m_fd6, m_data⟩ : Letter)) (P := ⟨true, true, false, true, false, false, false⟩) rfl rfl ‹_›).symm)
    | (refine ret_v ?_ rfl
       rename_i h1
       exact congrArg (fun b => DV.d (.sc (.bool b))) (form_low (m := (⟨2, m_src, m_dst, m_irep, m_islot, m_be, m_br, m_mkind, m_mclient, m_mseq, m_mkey, m_mfin, m_mold, m_mval, m_tseq, m_td0, m_td1, m_td2, m_td3, m_td4, m_td5, m_td6, m_lstatus, m_lpe, m_lpr, m_lve, m_lvr, m_lckind, m_lcclient, m_lcseq, m_lckey, m_lcfin, m_lcold, m_lcval, m_laseq, m_lad0, m_lad1, m_lad2, m_lad3, m_lad4, m_lad5, m_lad6, m_lsame, m_fd0, m_fd1, m_fd2, m_fd3, m_fd4, m_fd5, m_fd6, m_data⟩ : Letter)) (P := ⟨true, true, false, true, false, false, false⟩) rfl rfl h1 h))
    | (show Region.lexB _ _ = true; kernel_rfl)
    | (show turnsB _ = true; kernel_rfl)
    | (simp only [A0]
       first
         | exact id
         | exact fun _ => trivial
         | (intro q; rw [q]; rfl)
         | (intro q; simpa using q))
set_option maxRecDepth 100000 in
theorem v_rl3 (m : Letter) (e : m.lkind = 3) : FnV Try.prog 17 [m.D] (boolD (rightL m)) := by
  obtain ⟨m_lkind, m_src, m_dst, m_irep, m_islot, m_be, m_br, m_mkind, m_mclient, m_mseq, m_mkey, m_mfin, m_mold, m_mval, m_tseq, m_td0, m_td1, m_td2, m_td3, m_td4, m_td5, m_td6, m_lstatus, m_lpe, m_lpr, m_lve, m_lvr, m_lckind, m_lcclient, m_lcseq, m_lckey, m_lcfin, m_lcold, m_lcval, m_laseq, m_lad0, m_lad1, m_lad2, m_lad3, m_lad4, m_lad5, m_lad6, m_lsame, m_fd0, m_fd1, m_fd2, m_fd3, m_fd4, m_fd5, m_fd6, m_data⟩ := m
  replace e : m_lkind = 3 := e
  subst e
  obtain ⟨GFsR5, hGFsR5⟩ : ∃ F, F = FsR50 := ⟨_, rfl⟩
  obtain ⟨GFs5, hGFs5⟩ : ∃ F, F = Fs50 := ⟨_, rfl⟩
  obtain ⟨GFsA, hGFsA⟩ : ∃ F, F = FsA0 := ⟨_, rfl⟩
  have hH : SoundK Try.prog [kn_rightI2 GFsR5, kn_rightB2 GFsR5, kn_rightR GFs5, kn_rightAR GFsA, kn_rightCell2 GFsR5, kn_rightD GFsA] := by subst hGFsR5 hGFs5 hGFsA; exact orK_ok ok_rightI2 (orK_ok ok_rightB2 (orK_ok ok_rightR (orK_ok ok_rightAR (orK_ok ok_rightCell2 (orK_ok ok_rightD noK_ok)))))
  refine FnD_cbv (T := fun _ => tabY [] []) (H := fun _ => [kn_rightI2 GFsR5, kn_rightB2 GFsR5, kn_rightR GFs5, kn_rightAR GFsA, kn_rightCell2 GFsR5, kn_rightD GFsA]) (tabY_ok _ _) hH follows_mixed Try.func17 rfl Try.ntmps17 (by simp) fun A X W hA hX hW => ?_
  cbv
  have f1 : A.cmp .lss 3 1 = false := by subst hA; rfl
  have f2 : A.cmp .gtr 3 11 = false := by subst hA; rfl
  have f3 : A.cmp .lss 3 9 = true := by subst hA; rfl
  have f4 : A.cmp .neq 3 5 = true := by subst hA; rfl
  have g0 : A.cmp .eql 3 1 = false := by subst hA; rfl
  have g1 : A.cmp .eql 3 3 = true := by subst hA; rfl
  have g2 : A.cmp .eql 3 5 = false := by subst hA; rfl
  have g3 : A.cmp .eql 3 2 = false := by subst hA; rfl
  have g4 : A.cmp .eql 3 7 = false := by subst hA; rfl
  have g5 : A.cmp .eql 3 9 = false := by subst hA; rfl
  have g6 : A.cmp .eql 3 11 = false := by subst hA; rfl
  have g7 : A.cmp .eql 3 10 = false := by subst hA; rfl
  have ftf : A.cond false true false = false := by subst hA; rfl
  have fff : A.cond false false false = false := by subst hA; rfl
  cbv at f1 f2 f3 f4 g0 g1 g2 g3 g4 g5 g6 g7 ftf fff
  repeat' first
    | (simp only [f1, f2, f3, f4, g0, g1, g2, g3, g4, g5, g6, g7, ftf, fff]; cbv)
    | (refine part (fun h => ?_) (fun h => ?_) <;> try cbv)
    | (refine And.intro ?_ ?_)
    | (with_reducible refine goL (T := fun _ => tabY [] []) (H := fun _ => [kn_rightI2 GFsR5, kn_rightB2 GFsR5, kn_rightR GFs5, kn_rightAR GFsA, kn_rightCell2 GFsR5, kn_rightD GFsA]) (tabY_ok _ _) hH follows_mixed hA hX ?_
       cbv)
  all_goals clear hH f1 f2 f3 f4 g0 g1 g2 g3 g4 g5 g6 g7 ftf fff
  all_goals subst hA hX hW hGFsR5 hGFs5 hGFsA
  all_goals first
    | (refine ret_v ?_ rfl
       exact congrArg (fun b => DV.d (.sc (.bool b))) (form_bad (m := (⟨3, m_src, m_dst, m_irep, m_islot, m_be, m_br, m_mkind, m_mclient, m_mseq, m_mkey, m_mfin, m_mold, m_mval, m_tseq, m_td0, m_td1, m_td2, m_td3, m_td4, m_td5, m_td6, m_lstatus, m_lpe, m_lpr, m_lve, m_lvr, m_lckind, m_lcclient, m_lcseq, m_lckey, m_lcfin, m_lcold, m_lcval, m_laseq, m_lad0, m_lad1, m_lad2, m_lad3, m_lad4, m_lad5, m_lad6, m_lsame, m_fd0, m_fd1, m_fd2, m_fd3, m_fd4, m_fd5, m_fd6, m_data⟩ : Letter)) ‹_›).symm)
    | (refine ret_v ?_ rfl
       exact congrArg (fun b => DV.d (.sc (.bool b))) (form_bad2 (m := (⟨3, m_src, m_dst, m_irep, m_islot, m_be, m_br, m_mkind, m_mclient, m_mseq, m_mkey, m_mfin, m_mold, m_mval, m_tseq, m_td0, m_td1, m_td2, m_td3, m_td4, m_td5, m_td6, m_lstatus, m_lpe, m_lpr, m_lve, m_lvr, m_lckind, m_lcclient, m_lcseq, m_lckey, m_lcfin, m_lcold, m_lcval, m_laseq, m_lad0, m_lad1, m_lad2, m_lad3, m_lad4, m_lad5, m_lad6, m_lsame, m_fd0, m_fd1, m_fd2, m_fd3, m_fd4, m_fd5, m_fd6, m_data⟩ : Letter)) (P := ⟨true, true, true, true, false, false, false⟩) rfl rfl ‹_›).symm)
    | (refine ret_v ?_ rfl
       rename_i h1
       exact congrArg (fun b => DV.d (.sc (.bool b))) (form_low (m := (⟨3, m_src, m_dst, m_irep, m_islot, m_be, m_br, m_mkind, m_mclient, m_mseq, m_mkey, m_mfin, m_mold, m_mval, m_tseq, m_td0, m_td1, m_td2, m_td3, m_td4, m_td5, m_td6, m_lstatus, m_lpe, m_lpr, m_lve, m_lvr, m_lckind, m_lcclient, m_lcseq, m_lckey, m_lcfin, m_lcold, m_lcval, m_laseq, m_lad0, m_lad1, m_lad2, m_lad3, m_lad4, m_lad5, m_lad6, m_lsame, m_fd0, m_fd1, m_fd2, m_fd3, m_fd4, m_fd5, m_fd6, m_data⟩ : Letter)) (P := ⟨true, true, true, true, false, false, false⟩) rfl rfl h1 h))
    | (show Region.lexB _ _ = true; kernel_rfl)
    | (show turnsB _ = true; kernel_rfl)
    | (simp only [A0]
       first
         | exact id
         | exact fun _ => trivial
         | (intro q; rw [q]; rfl)
         | (intro q; simpa using q))
set_option maxRecDepth 100000 in
theorem v_rl4 (m : Letter) (e : m.lkind = 4) : FnV Try.prog 17 [m.D] (boolD (rightL m)) := by
  obtain ⟨m_lkind, m_src, m_dst, m_irep, m_islot, m_be, m_br, m_mkind, m_mclient, m_mseq, m_mkey, m_mfin, m_mold, m_mval, m_tseq, m_td0, m_td1, m_td2, m_td3, m_td4, m_td5, m_td6, m_lstatus, m_lpe, m_lpr, m_lve, m_lvr, m_lckind, m_lcclient, m_lcseq, m_lckey, m_lcfin, m_lcold, m_lcval, m_laseq, m_lad0, m_lad1, m_lad2, m_lad3, m_lad4, m_lad5, m_lad6, m_lsame, m_fd0, m_fd1, m_fd2, m_fd3, m_fd4, m_fd5, m_fd6, m_data⟩ := m
  replace e : m_lkind = 4 := e
  subst e
  obtain ⟨GFsR5, hGFsR5⟩ : ∃ F, F = FsR50 := ⟨_, rfl⟩
  obtain ⟨GFs5, hGFs5⟩ : ∃ F, F = Fs50 := ⟨_, rfl⟩
  obtain ⟨GFsA, hGFsA⟩ : ∃ F, F = FsA0 := ⟨_, rfl⟩
  have hH : SoundK Try.prog [kn_rightI2 GFsR5, kn_rightB2 GFsR5, kn_rightR GFs5, kn_rightAR GFsA, kn_rightCell2 GFsR5, kn_rightD GFsA] := by subst hGFsR5 hGFs5 hGFsA; exact orK_ok ok_rightI2 (orK_ok ok_rightB2 (orK_ok ok_rightR (orK_ok ok_rightAR (orK_ok ok_rightCell2 (orK_ok ok_rightD noK_ok)))))
  refine FnD_cbv (T := fun _ => tabY [] []) (H := fun _ => [kn_rightI2 GFsR5, kn_rightB2 GFsR5, kn_rightR GFs5, kn_rightAR GFsA, kn_rightCell2 GFsR5, kn_rightD GFsA]) (tabY_ok _ _) hH follows_mixed Try.func17 rfl Try.ntmps17 (by simp) fun A X W hA hX hW => ?_
  cbv
  have f1 : A.cmp .lss 4 1 = false := by subst hA; rfl
  have f2 : A.cmp .gtr 4 11 = false := by subst hA; rfl
  have f3 : A.cmp .lss 4 9 = true := by subst hA; rfl
  have f4 : A.cmp .neq 4 5 = true := by subst hA; rfl
  have g0 : A.cmp .eql 4 1 = false := by subst hA; rfl
  have g1 : A.cmp .eql 4 3 = false := by subst hA; rfl
  have g2 : A.cmp .eql 4 5 = false := by subst hA; rfl
  have g3 : A.cmp .eql 4 2 = false := by subst hA; rfl
  have g4 : A.cmp .eql 4 7 = false := by subst hA; rfl
  have g5 : A.cmp .eql 4 9 = false := by subst hA; rfl
  have g6 : A.cmp .eql 4 11 = false := by subst hA; rfl
  have g7 : A.cmp .eql 4 10 = false := by subst hA; rfl
  have ftf : A.cond false true false = false := by subst hA; rfl
  have fff : A.cond false false false = false := by subst hA; rfl
  cbv at f1 f2 f3 f4 g0 g1 g2 g3 g4 g5 g6 g7 ftf fff
  repeat' first
    | (simp only [f1, f2, f3, f4, g0, g1, g2, g3, g4, g5, g6, g7, ftf, fff]; cbv)
    | (refine part (fun h => ?_) (fun h => ?_) <;> try cbv)
    | (refine And.intro ?_ ?_)
    | (with_reducible refine goL (T := fun _ => tabY [] []) (H := fun _ => [kn_rightI2 GFsR5, kn_rightB2 GFsR5, kn_rightR GFs5, kn_rightAR GFsA, kn_rightCell2 GFsR5, kn_rightD GFsA]) (tabY_ok _ _) hH follows_mixed hA hX ?_
       cbv)
  all_goals clear hH f1 f2 f3 f4 g0 g1 g2 g3 g4 g5 g6 g7 ftf fff
  all_goals subst hA hX hW hGFsR5 hGFs5 hGFsA
  all_goals first
    | (refine ret_v ?_ rfl
       exact congrArg (fun b => DV.d (.sc (.bool b))) (form_bad (m := (⟨4, m_src, m_dst, m_irep, m_islot, m_be, m_br, m_mkind, m_mclient, m_mseq, m_mkey, m_mfin, m_mold, m_mval, m_tseq, m_td0, m_td1, m_td2, m_td3, m_td4, m_td5, m_td6, m_lstatus, m_lpe, m_lpr, m_lve, m_lvr, m_lckind, m_lcclient, m_lcseq, m_lckey, m_lcfin, m_lcold, m_lcval, m_laseq, m_lad0, m_lad1, m_lad2, m_lad3, m_lad4, m_lad5, m_lad6, m_lsame, m_fd0, m_fd1, m_fd2, m_fd3, m_fd4, m_fd5, m_fd6, m_data⟩ : Letter)) ‹_›).symm)
    | (refine ret_v ?_ rfl
       exact congrArg (fun b => DV.d (.sc (.bool b))) (form_bad2 (m := (⟨4, m_src, m_dst, m_irep, m_islot, m_be, m_br, m_mkind, m_mclient, m_mseq, m_mkey, m_mfin, m_mold, m_mval, m_tseq, m_td0, m_td1, m_td2, m_td3, m_td4, m_td5, m_td6, m_lstatus, m_lpe, m_lpr, m_lve, m_lvr, m_lckind, m_lcclient, m_lcseq, m_lckey, m_lcfin, m_lcold, m_lcval, m_laseq, m_lad0, m_lad1, m_lad2, m_lad3, m_lad4, m_lad5, m_lad6, m_lsame, m_fd0, m_fd1, m_fd2, m_fd3, m_fd4, m_fd5, m_fd6, m_data⟩ : Letter)) (P := ⟨true, true, false, false, false, false, false⟩) rfl rfl ‹_›).symm)
    | (refine ret_v ?_ rfl
       rename_i h1
       exact congrArg (fun b => DV.d (.sc (.bool b))) (form_low (m := (⟨4, m_src, m_dst, m_irep, m_islot, m_be, m_br, m_mkind, m_mclient, m_mseq, m_mkey, m_mfin, m_mold, m_mval, m_tseq, m_td0, m_td1, m_td2, m_td3, m_td4, m_td5, m_td6, m_lstatus, m_lpe, m_lpr, m_lve, m_lvr, m_lckind, m_lcclient, m_lcseq, m_lckey, m_lcfin, m_lcold, m_lcval, m_laseq, m_lad0, m_lad1, m_lad2, m_lad3, m_lad4, m_lad5, m_lad6, m_lsame, m_fd0, m_fd1, m_fd2, m_fd3, m_fd4, m_fd5, m_fd6, m_data⟩ : Letter)) (P := ⟨true, true, false, false, false, false, false⟩) rfl rfl h1 h))
    | (show Region.lexB _ _ = true; kernel_rfl)
    | (show turnsB _ = true; kernel_rfl)
    | (simp only [A0]
       first
         | exact id
         | exact fun _ => trivial
         | (intro q; rw [q]; rfl)
         | (intro q; simpa using q))
end Go.Proofs.Ytbhapclaochcnaa
namespace Go.Proofs.Ytbhapclaochcnaa
open Go.RowKit
set_option linter.all false
set_option maxHeartbeats 8000000
set_option maxRecDepth 100000 in
theorem v_rl5 (m : Letter) (e : m.lkind = 5) : FnV Try.prog 17 [m.D] (boolD (rightL m)) := by
  obtain ⟨m_lkind, m_src, m_dst, m_irep, m_islot, m_be, m_br, m_mkind, m_mclient, m_mseq, m_mkey, m_mfin, m_mold, m_mval, m_tseq, m_td0, m_td1, m_td2, m_td3, m_td4, m_td5, m_td6, m_lstatus, m_lpe, m_lpr, m_lve, m_lvr, m_lckind, m_lcclient, m_lcseq, m_lckey, m_lcfin, m_lcold, m_lcval, m_laseq, m_lad0, m_lad1, m_lad2, m_lad3, m_lad4, m_lad5, m_lad6, m_lsame, m_fd0, m_fd1, m_fd2, m_fd3, m_fd4, m_fd5, m_fd6, m_data⟩ := m
  replace e : m_lkind = 5 := e
  subst e
  obtain ⟨GFsR5, hGFsR5⟩ : ∃ F, F = FsR50 := ⟨_, rfl⟩
  obtain ⟨GFs5, hGFs5⟩ : ∃ F, F = Fs50 := ⟨_, rfl⟩
  obtain ⟨GFsA, hGFsA⟩ : ∃ F, F = FsA0 := ⟨_, rfl⟩
  have hH : SoundK Try.prog [kn_rightI2 GFsR5, kn_rightB2 GFsR5, kn_rightR GFs5, kn_rightAR GFsA, kn_rightCell2 GFsR5, kn_rightD GFsA] := by subst hGFsR5 hGFs5 hGFsA; exact orK_ok ok_rightI2 (orK_ok ok_rightB2 (orK_ok ok_rightR (orK_ok ok_rightAR (orK_ok ok_rightCell2 (orK_ok ok_rightD noK_ok)))))
  refine FnD_cbv (T := fun _ => tabY [] []) (H := fun _ => [kn_rightI2 GFsR5, kn_rightB2 GFsR5, kn_rightR GFs5, kn_rightAR GFsA, kn_rightCell2 GFsR5, kn_rightD GFsA]) (tabY_ok _ _) hH follows_mixed Try.func17 rfl Try.ntmps17 (by simp) fun A X W hA hX hW => ?_
  cbv
  have f1 : A.cmp .lss 5 1 = false := by subst hA; rfl
  have f2 : A.cmp .gtr 5 11 = false := by subst hA; rfl
  have f3 : A.cmp .lss 5 9 = true := by subst hA; rfl
  have f4 : A.cmp .neq 5 5 = false := by subst hA; rfl
  have g0 : A.cmp .eql 5 1 = false := by subst hA; rfl
  have g1 : A.cmp .eql 5 3 = false := by subst hA; rfl
  have g2 : A.cmp .eql 5 5 = true := by subst hA; rfl
  have g3 : A.cmp .eql 5 2 = false := by subst hA; rfl
  have g4 : A.cmp .eql 5 7 = false := by subst hA; rfl
  have g5 : A.cmp .eql 5 9 = false := by subst hA; rfl
  have g6 : A.cmp .eql 5 11 = false := by subst hA; rfl
  have g7 : A.cmp .eql 5 10 = false := by subst hA; rfl
  have ftf : A.cond false true false = false := by subst hA; rfl
  have fff : A.cond false false false = false := by subst hA; rfl
  cbv at f1 f2 f3 f4 g0 g1 g2 g3 g4 g5 g6 g7 ftf fff
  repeat' first
    | (simp only [f1, f2, f3, f4, g0, g1, g2, g3, g4, g5, g6, g7, ftf, fff]; cbv)
    | (refine part (fun h => ?_) (fun h => ?_) <;> try cbv)
    | (refine And.intro ?_ ?_)
    | (with_reducible refine goL (T := fun _ => tabY [] []) (H := fun _ => [kn_rightI2 GFsR5, kn_rightB2 GFsR5, kn_rightR GFs5, kn_rightAR GFsA, kn_rightCell2 GFsR5, kn_rightD GFsA]) (tabY_ok _ _) hH follows_mixed hA hX ?_
       cbv)
  all_goals clear hH f1 f2 f3 f4 g0 g1 g2 g3 g4 g5 g6 g7 ftf fff
  all_goals subst hA hX hW hGFsR5 hGFs5 hGFsA
  all_goals first
    | (refine ret_v ?_ rfl
       exact congrArg (fun b => DV.d (.sc (.bool b))) (form_bad (m := (⟨5, m_src, m_dst, m_irep, m_islot, m_be, m_br, m_mkind, m_mclient, m_mseq, m_mkey, m_mfin, m_mold, m_mval, m_tseq, m_td0, m_td1, m_td2, m_td3, m_td4, m_td5, m_td6, m_lstatus, m_lpe, m_lpr, m_lve, m_lvr, m_lckind, m_lcclient, m_lcseq, m_lckey, m_lcfin, m_lcold, m_lcval, m_laseq, m_lad0, m_lad1, m_lad2, m_lad3, m_lad4, m_lad5, m_lad6, m_lsame, m_fd0, m_fd1, m_fd2, m_fd3, m_fd4, m_fd5, m_fd6, m_data⟩ : Letter)) ‹_›).symm)
    | (refine ret_v ?_ rfl
       exact congrArg (fun b => DV.d (.sc (.bool b))) (form_bad2 (m := (⟨5, m_src, m_dst, m_irep, m_islot, m_be, m_br, m_mkind, m_mclient, m_mseq, m_mkey, m_mfin, m_mold, m_mval, m_tseq, m_td0, m_td1, m_td2, m_td3, m_td4, m_td5, m_td6, m_lstatus, m_lpe, m_lpr, m_lve, m_lvr, m_lckind, m_lcclient, m_lcseq, m_lckey, m_lcfin, m_lcold, m_lcval, m_laseq, m_lad0, m_lad1, m_lad2, m_lad3, m_lad4, m_lad5, m_lad6, m_lsame, m_fd0, m_fd1, m_fd2, m_fd3, m_fd4, m_fd5, m_fd6, m_data⟩ : Letter)) (P := ⟨true, false, true, true, false, false, false⟩) rfl rfl ‹_›).symm)
    | (refine ret_v ?_ rfl
       rename_i h1
       exact congrArg (fun b => DV.d (.sc (.bool b))) (form_low (m := (⟨5, m_src, m_dst, m_irep, m_islot, m_be, m_br, m_mkind, m_mclient, m_mseq, m_mkey, m_mfin, m_mold, m_mval, m_tseq, m_td0, m_td1, m_td2, m_td3, m_td4, m_td5, m_td6, m_lstatus, m_lpe, m_lpr, m_lve, m_lvr, m_lckind, m_lcclient, m_lcseq, m_lckey, m_lcfin, m_lcold, m_lcval, m_laseq, m_lad0, m_lad1, m_lad2, m_lad3, m_lad4, m_lad5, m_lad6, m_lsame, m_fd0, m_fd1, m_fd2, m_fd3, m_fd4, m_fd5, m_fd6, m_data⟩ : Letter)) (P := ⟨true, false, true, true, false, false, false⟩) rfl rfl h1 h))
    | (show Region.lexB _ _ = true; kernel_rfl)
    | (show turnsB _ = true; kernel_rfl)
    | (simp only [A0]
       first
         | exact id
         | exact fun _ => trivial
         | (intro q; rw [q]; rfl)
         | (intro q; simpa using q))
set_option maxRecDepth 100000 in
theorem v_rl6 (m : Letter) (e : m.lkind = 6) : FnV Try.prog 17 [m.D] (boolD (rightL m)) := by
  obtain ⟨m_lkind, m_src, m_dst, m_irep, m_islot, m_be, m_br, m_mkind, m_mclient, m_mseq, m_mkey, m_mfin, m_mold, m_mval, m_tseq, m_td0, m_td1, m_td2, m_td3, m_td4, m_td5, m_td6, m_lstatus, m_lpe, m_lpr, m_lve, m_lvr, m_lckind, m_lcclient, m_lcseq, m_lckey, m_lcfin, m_lcold, m_lcval, m_laseq, m_lad0, m_lad1, m_lad2, m_lad3, m_lad4, m_lad5, m_lad6, m_lsame, m_fd0, m_fd1, m_fd2, m_fd3, m_fd4, m_fd5, m_fd6, m_data⟩ := m
  replace e : m_lkind = 6 := e
  subst e
  obtain ⟨GFsR5, hGFsR5⟩ : ∃ F, F = FsR50 := ⟨_, rfl⟩
  obtain ⟨GFs5, hGFs5⟩ : ∃ F, F = Fs50 := ⟨_, rfl⟩
  obtain ⟨GFsA, hGFsA⟩ : ∃ F, F = FsA0 := ⟨_, rfl⟩
  have hH : SoundK Try.prog [kn_rightI2 GFsR5, kn_rightB2 GFsR5, kn_rightR GFs5, kn_rightAR GFsA, kn_rightCell2 GFsR5, kn_rightD GFsA] := by subst hGFsR5 hGFs5 hGFsA; exact orK_ok ok_rightI2 (orK_ok ok_rightB2 (orK_ok ok_rightR (orK_ok ok_rightAR (orK_ok ok_rightCell2 (orK_ok ok_rightD noK_ok)))))
  refine FnD_cbv (T := fun _ => tabY [] []) (H := fun _ => [kn_rightI2 GFsR5, kn_rightB2 GFsR5, kn_rightR GFs5, kn_rightAR GFsA, kn_rightCell2 GFsR5, kn_rightD GFsA]) (tabY_ok _ _) hH follows_mixed Try.func17 rfl Try.ntmps17 (by simp) fun A X W hA hX hW => ?_
  cbv
  have f1 : A.cmp .lss 6 1 = false := by subst hA; rfl
  have f2 : A.cmp .gtr 6 11 = false := by subst hA; rfl
  have f3 : A.cmp .lss 6 9 = true := by subst hA; rfl
  have f4 : A.cmp .neq 6 5 = true := by subst hA; rfl
  have g0 : A.cmp .eql 6 1 = false := by subst hA; rfl
  have g1 : A.cmp .eql 6 3 = false := by subst hA; rfl
  have g2 : A.cmp .eql 6 5 = false := by subst hA; rfl
  have g3 : A.cmp .eql 6 2 = false := by subst hA; rfl
  have g4 : A.cmp .eql 6 7 = false := by subst hA; rfl
  have g5 : A.cmp .eql 6 9 = false := by subst hA; rfl
  have g6 : A.cmp .eql 6 11 = false := by subst hA; rfl
  have g7 : A.cmp .eql 6 10 = false := by subst hA; rfl
  have ftf : A.cond false true false = false := by subst hA; rfl
  have fff : A.cond false false false = false := by subst hA; rfl
  cbv at f1 f2 f3 f4 g0 g1 g2 g3 g4 g5 g6 g7 ftf fff
  repeat' first
    | (simp only [f1, f2, f3, f4, g0, g1, g2, g3, g4, g5, g6, g7, ftf, fff]; cbv)
    | (refine part (fun h => ?_) (fun h => ?_) <;> try cbv)
    | (refine And.intro ?_ ?_)
    | (with_reducible refine goL (T := fun _ => tabY [] []) (H := fun _ => [kn_rightI2 GFsR5, kn_rightB2 GFsR5, kn_rightR GFs5, kn_rightAR GFsA, kn_rightCell2 GFsR5, kn_rightD GFsA]) (tabY_ok _ _) hH follows_mixed hA hX ?_
       cbv)
  all_goals clear hH f1 f2 f3 f4 g0 g1 g2 g3 g4 g5 g6 g7 ftf fff
  all_goals subst hA hX hW hGFsR5 hGFs5 hGFsA
  all_goals first
    | (refine ret_v ?_ rfl
       exact congrArg (fun b => DV.d (.sc (.bool b))) (form_bad (m := (⟨6, m_src, m_dst, m_irep, m_islot, m_be, m_br, m_mkind, m_mclient, m_mseq, m_mkey, m_mfin, m_mold, m_mval, m_tseq, m_td0, m_td1, m_td2, m_td3, m_td4, m_td5, m_td6, m_lstatus, m_lpe, m_lpr, m_lve, m_lvr, m_lckind, m_lcclient, m_lcseq, m_lckey, m_lcfin, m_lcold, m_lcval, m_laseq, m_lad0, m_lad1, m_lad2, m_lad3, m_lad4, m_lad5, m_lad6, m_lsame, m_fd0, m_fd1, m_fd2, m_fd3, m_fd4, m_fd5, m_fd6, m_data⟩ : Letter)) ‹_›).symm)
    | (refine ret_v ?_ rfl
       exact congrArg (fun b => DV.d (.sc (.bool b))) (form_bad2 (m := (⟨6, m_src, m_dst, m_irep, m_islot, m_be, m_br, m_mkind, m_mclient, m_mseq, m_mkey, m_mfin, m_mold, m_mval, m_tseq, m_td0, m_td1, m_td2, m_td3, m_td4, m_td5, m_td6, m_lstatus, m_lpe, m_lpr, m_lve, m_lvr, m_lckind, m_lcclient, m_lcseq, m_lckey, m_lcfin, m_lcold, m_lcval, m_laseq, m_lad0, m_lad1, m_lad2, m_lad3, m_lad4, m_lad5, m_lad6, m_lsame, m_fd0, m_fd1, m_fd2, m_fd3, m_fd4, m_fd5, m_fd6, m_data⟩ : Letter)) (P := ⟨true, true, false, false, false, false, false⟩) rfl rfl ‹_›).symm)
    | (refine ret_v ?_ rfl
       rename_i h1
       exact congrArg (fun b => DV.d (.sc (.bool b))) (form_low (m := (⟨6, m_src, m_dst, m_irep, m_islot, m_be, m_br, m_mkind, m_mclient, m_mseq, m_mkey, m_mfin, m_mold, m_mval, m_tseq, m_td0, m_td1, m_td2, m_td3, m_td4, m_td5, m_td6, m_lstatus, m_lpe, m_lpr, m_lve, m_lvr, m_lckind, m_lcclient, m_lcseq, m_lckey, m_lcfin, m_lcold, m_lcval, m_laseq, m_lad0, m_lad1, m_lad2, m_lad3, m_lad4, m_lad5, m_lad6, m_lsame, m_fd0, m_fd1, m_fd2, m_fd3, m_fd4, m_fd5, m_fd6, m_data⟩ : Letter)) (P := ⟨true, true, false, false, false, false, false⟩) rfl rfl h1 h))
    | (show Region.lexB _ _ = true; kernel_rfl)
    | (show turnsB _ = true; kernel_rfl)
    | (simp only [A0]
       first
         | exact id
         | exact fun _ => trivial
         | (intro q; rw [q]; rfl)
         | (intro q; simpa using q))
set_option maxRecDepth 100000 in
theorem v_rl7 (m : Letter) (e : m.lkind = 7) : FnV Try.prog 17 [m.D] (boolD (rightL m)) := by
  obtain ⟨m_lkind, m_src, m_dst, m_irep, m_islot, m_be, m_br, m_mkind, m_mclient, m_mseq, m_mkey, m_mfin, m_mold, m_mval, m_tseq, m_td0, m_td1, m_td2, m_td3, m_td4, m_td5, m_td6, m_lstatus, m_lpe, m_lpr, m_lve, m_lvr, m_lckind, m_lcclient, m_lcseq, m_lckey, m_lcfin, m_lcold, m_lcval, m_laseq, m_lad0, m_lad1, m_lad2, m_lad3, m_lad4, m_lad5, m_lad6, m_lsame, m_fd0, m_fd1, m_fd2, m_fd3, m_fd4, m_fd5, m_fd6, m_data⟩ := m
  replace e : m_lkind = 7 := e
  subst e
  obtain ⟨GFsR5, hGFsR5⟩ : ∃ F, F = FsR50 := ⟨_, rfl⟩
  obtain ⟨GFs5, hGFs5⟩ : ∃ F, F = Fs50 := ⟨_, rfl⟩
  obtain ⟨GFsA, hGFsA⟩ : ∃ F, F = FsA0 := ⟨_, rfl⟩
  have hH : SoundK Try.prog [kn_rightI2 GFsR5, kn_rightB2 GFsR5, kn_rightR GFs5, kn_rightAR GFsA, kn_rightCell2 GFsR5, kn_rightD GFsA] := by subst hGFsR5 hGFs5 hGFsA; exact orK_ok ok_rightI2 (orK_ok ok_rightB2 (orK_ok ok_rightR (orK_ok ok_rightAR (orK_ok ok_rightCell2 (orK_ok ok_rightD noK_ok)))))
  refine FnD_cbv (T := fun _ => tabY [] []) (H := fun _ => [kn_rightI2 GFsR5, kn_rightB2 GFsR5, kn_rightR GFs5, kn_rightAR GFsA, kn_rightCell2 GFsR5, kn_rightD GFsA]) (tabY_ok _ _) hH follows_mixed Try.func17 rfl Try.ntmps17 (by simp) fun A X W hA hX hW => ?_
  cbv
  have f1 : A.cmp .lss 7 1 = false := by subst hA; rfl
  have f2 : A.cmp .gtr 7 11 = false := by subst hA; rfl
  have f3 : A.cmp .lss 7 9 = true := by subst hA; rfl
  have f4 : A.cmp .neq 7 5 = true := by subst hA; rfl
  have g0 : A.cmp .eql 7 1 = false := by subst hA; rfl
  have g1 : A.cmp .eql 7 3 = false := by subst hA; rfl
  have g2 : A.cmp .eql 7 5 = false := by subst hA; rfl
  have g3 : A.cmp .eql 7 2 = false := by subst hA; rfl
  have g4 : A.cmp .eql 7 7 = true := by subst hA; rfl
  have g5 : A.cmp .eql 7 9 = false := by subst hA; rfl
  have g6 : A.cmp .eql 7 11 = false := by subst hA; rfl
  have g7 : A.cmp .eql 7 10 = false := by subst hA; rfl
  have ftf : A.cond false true false = false := by subst hA; rfl
  have fff : A.cond false false false = false := by subst hA; rfl
  cbv at f1 f2 f3 f4 g0 g1 g2 g3 g4 g5 g6 g7 ftf fff
  repeat' first
    | (simp only [f1, f2, f3, f4, g0, g1, g2, g3, g4, g5, g6, g7, ftf, fff]; cbv)
    | (refine part (fun h => ?_) (fun h => ?_) <;> try cbv)
    | (refine And.intro ?_ ?_)
    | (with_reducible refine goL (T := fun _ => tabY [] []) (H := fun _ => [kn_rightI2 GFsR5, kn_rightB2 GFsR5, kn_rightR GFs5, kn_rightAR GFsA, kn_rightCell2 GFsR5, kn_rightD GFsA]) (tabY_ok _ _) hH follows_mixed hA hX ?_
       cbv)
  all_goals clear hH f1 f2 f3 f4 g0 g1 g2 g3 g4 g5 g6 g7 ftf fff
  all_goals subst hA hX hW hGFsR5 hGFs5 hGFsA
  all_goals first
    | (refine ret_v ?_ rfl
       exact congrArg (fun b => DV.d (.sc (.bool b))) (form_bad (m := (⟨7, m_src, m_dst, m_irep, m_islot, m_be, m_br, m_mkind, m_mclient, m_mseq, m_mkey, m_mfin, m_mold, m_mval, m_tseq, m_td0, m_td1, m_td2, m_td3, m_td4, m_td5, m_td6, m_lstatus, m_lpe, m_lpr, m_lve, m_lvr, m_lckind, m_lcclient, m_lcseq, m_lckey, m_lcfin, m_lcold, m_lcval, m_laseq, m_lad0, m_lad1, m_lad2, m_lad3, m_lad4, m_lad5, m_lad6, m_lsame, m_fd0, m_fd1, m_fd2, m_fd3, m_fd4, m_fd5, m_fd6, m_data⟩ : Letter)) ‹_›).symm)
    | (refine ret_v ?_ rfl
       exact congrArg (fun b => DV.d (.sc (.bool b))) (form_bad2 (m := (⟨7, m_src, m_dst, m_irep, m_islot, m_be, m_br, m_mkind, m_mclient, m_mseq, m_mkey, m_mfin, m_mold, m_mval, m_tseq, m_td0, m_td1, m_td2, m_td3, m_td4, m_td5, m_td6, m_lstatus, m_lpe, m_lpr, m_lve, m_lvr, m_lckind, m_lcclient, m_lcseq, m_lckey, m_lcfin, m_lcold, m_lcval, m_laseq, m_lad0, m_lad1, m_lad2, m_lad3, m_lad4, m_lad5, m_lad6, m_lsame, m_fd0, m_fd1, m_fd2, m_fd3, m_fd4, m_fd5, m_fd6, m_data⟩ : Letter)) (P := ⟨true, true, false, false, true, false, false⟩) rfl rfl ‹_›).symm)
    | (refine ret_v ?_ rfl
       rename_i h1
       exact congrArg (fun b => DV.d (.sc (.bool b))) (form_low (m := (⟨7, m_src, m_dst, m_irep, m_islot, m_be, m_br, m_mkind, m_mclient, m_mseq, m_mkey, m_mfin, m_mold, m_mval, m_tseq, m_td0, m_td1, m_td2, m_td3, m_td4, m_td5, m_td6, m_lstatus, m_lpe, m_lpr, m_lve, m_lvr, m_lckind, m_lcclient, m_lcseq, m_lckey, m_lcfin, m_lcold, m_lcval, m_laseq, m_lad0, m_lad1, m_lad2, m_lad3, m_lad4, m_lad5, m_lad6, m_lsame, m_fd0, m_fd1, m_fd2, m_fd3, m_fd4, m_fd5, m_fd6, m_data⟩ : Letter)) (P := ⟨true, true, false, false, true, false, false⟩) rfl rfl h1 h))
    | (show Region.lexB _ _ = true; kernel_rfl)
    | (show turnsB _ = true; kernel_rfl)
    | (simp only [A0]
       first
         | exact id
         | exact fun _ => trivial
         | (intro q; rw [q]; rfl)
         | (intro q; simpa using q))
set_option maxRecDepth 100000 in
theorem v_rl8 (m : Letter) (e : m.lkind = 8) : FnV Try.prog 17 [m.D] (boolD (rightL m)) := by
  obtain ⟨m_lkind, m_src, m_dst, m_irep, m_islot, m_be, m_br, m_mkind, m_mclient, m_mseq, m_mkey, m_mfin, m_mold, m_mval, m_tseq, m_td0, m_td1, m_td2, m_td3, m_td4, m_td5, m_td6, m_lstatus, m_lpe, m_lpr, m_lve, m_lvr, m_lckind, m_lcclient, m_lcseq, m_lckey, m_lcfin, m_lcold, m_lcval, m_laseq, m_lad0, m_lad1, m_lad2, m_lad3, m_lad4, m_lad5, m_lad6, m_lsame, m_fd0, m_fd1, m_fd2, m_fd3, m_fd4, m_fd5, m_fd6, m_data⟩ := m
  replace e : m_lkind = 8 := e
  subst e
  obtain ⟨GFsR5, hGFsR5⟩ : ∃ F, F = FsR50 := ⟨_, rfl⟩
  obtain ⟨GFs5, hGFs5⟩ : ∃ F, F = Fs50 := ⟨_, rfl⟩
  obtain ⟨GFsA, hGFsA⟩ : ∃ F, F = FsA0 := ⟨_, rfl⟩
  have hH : SoundK Try.prog [kn_rightI2 GFsR5, kn_rightB2 GFsR5, kn_rightR GFs5, kn_rightAR GFsA, kn_rightCell2 GFsR5, kn_rightD GFsA] := by subst hGFsR5 hGFs5 hGFsA; exact orK_ok ok_rightI2 (orK_ok ok_rightB2 (orK_ok ok_rightR (orK_ok ok_rightAR (orK_ok ok_rightCell2 (orK_ok ok_rightD noK_ok)))))
  refine FnD_cbv (T := fun _ => tabY [] []) (H := fun _ => [kn_rightI2 GFsR5, kn_rightB2 GFsR5, kn_rightR GFs5, kn_rightAR GFsA, kn_rightCell2 GFsR5, kn_rightD GFsA]) (tabY_ok _ _) hH follows_mixed Try.func17 rfl Try.ntmps17 (by simp) fun A X W hA hX hW => ?_
  cbv
  have f1 : A.cmp .lss 8 1 = false := by subst hA; rfl
  have f2 : A.cmp .gtr 8 11 = false := by subst hA; rfl
  have f3 : A.cmp .lss 8 9 = true := by subst hA; rfl
  have f4 : A.cmp .neq 8 5 = true := by subst hA; rfl
  have g0 : A.cmp .eql 8 1 = false := by subst hA; rfl
  have g1 : A.cmp .eql 8 3 = false := by subst hA; rfl
  have g2 : A.cmp .eql 8 5 = false := by subst hA; rfl
  have g3 : A.cmp .eql 8 2 = false := by subst hA; rfl
  have g4 : A.cmp .eql 8 7 = false := by subst hA; rfl
  have g5 : A.cmp .eql 8 9 = false := by subst hA; rfl
  have g6 : A.cmp .eql 8 11 = false := by subst hA; rfl
  have g7 : A.cmp .eql 8 10 = false := by subst hA; rfl
  have ftf : A.cond false true false = false := by subst hA; rfl
  have fff : A.cond false false false = false := by subst hA; rfl
  cbv at f1 f2 f3 f4 g0 g1 g2 g3 g4 g5 g6 g7 ftf fff
  repeat' first
    | (simp only [f1, f2, f3, f4, g0, g1, g2, g3, g4, g5, g6, g7, ftf, fff]; cbv)
    | (refine part (fun h => ?_) (fun h => ?_) <;> try cbv)
    | (refine And.intro ?_ ?_)
    | (with_reducible refine goL (T := fun _ => tabY [] []) (H := fun _ => [kn_rightI2 GFsR5, kn_rightB2 GFsR5, kn_rightR GFs5, kn_rightAR GFsA, kn_rightCell2 GFsR5, kn_rightD GFsA]) (tabY_ok _ _) hH follows_mixed hA hX ?_
       cbv)
  all_goals clear hH f1 f2 f3 f4 g0 g1 g2 g3 g4 g5 g6 g7 ftf fff
  all_goals subst hA hX hW hGFsR5 hGFs5 hGFsA
  all_goals first
    | (refine ret_v ?_ rfl
       exact congrArg (fun b => DV.d (.sc (.bool b))) (form_bad (m := (⟨8, m_src, m_dst, m_irep, m_islot, m_be, m_br, m_mkind, m_mclient, m_mseq, m_mkey, m_mfin, m_mold, m_mval, m_tseq, m_td0, m_td1, m_td2, m_td3, m_td4, m_td5, m_td6, m_lstatus, m_lpe, m_lpr, m_lve, m_lvr, m_lckind, m_lcclient, m_lcseq, m_lckey, m_lcfin, m_lcold, m_lcval, m_laseq, m_lad0, m_lad1, m_lad2, m_lad3, m_lad4, m_lad5, m_lad6, m_lsame, m_fd0, m_fd1, m_fd2, m_fd3, m_fd4, m_fd5, m_fd6, m_data⟩ : Letter)) ‹_›).symm)
    | (refine ret_v ?_ rfl
       exact congrArg (fun b => DV.d (.sc (.bool b))) (form_bad2 (m := (⟨8, m_src, m_dst, m_irep, m_islot, m_be, m_br, m_mkind, m_mclient, m_mseq, m_mkey, m_mfin, m_mold, m_mval, m_tseq, m_td0, m_td1, m_td2, m_td3, m_td4, m_td5, m_td6, m_lstatus, m_lpe, m_lpr, m_lve, m_lvr, m_lckind, m_lcclient, m_lcseq, m_lckey, m_lcfin, m_lcold, m_lcval, m_laseq, m_lad0, m_lad1, m_lad2, m_lad3, m_lad4, m_lad5, m_lad6, m_lsame, m_fd0, m_fd1, m_fd2, m_fd3, m_fd4, m_fd5, m_fd6, m_data⟩ : Letter)) (P := ⟨true, true, false, false, false, false, false⟩) rfl rfl ‹_›).symm)
    | (refine ret_v ?_ rfl
       rename_i h1
       exact congrArg (fun b => DV.d (.sc (.bool b))) (form_low (m := (⟨8, m_src, m_dst, m_irep, m_islot, m_be, m_br, m_mkind, m_mclient, m_mseq, m_mkey, m_mfin, m_mold, m_mval, m_tseq, m_td0, m_td1, m_td2, m_td3, m_td4, m_td5, m_td6, m_lstatus, m_lpe, m_lpr, m_lve, m_lvr, m_lckind, m_lcclient, m_lcseq, m_lckey, m_lcfin, m_lcold, m_lcval, m_laseq, m_lad0, m_lad1, m_lad2, m_lad3, m_lad4, m_lad5, m_lad6, m_lsame, m_fd0, m_fd1, m_fd2, m_fd3, m_fd4, m_fd5, m_fd6, m_data⟩ : Letter)) (P := ⟨true, true, false, false, false, false, false⟩) rfl rfl h1 h))
    | (show Region.lexB _ _ = true; kernel_rfl)
    | (show turnsB _ = true; kernel_rfl)
    | (simp only [A0]
       first
         | exact id
         | exact fun _ => trivial
         | (intro q; rw [q]; rfl)
         | (intro q; simpa using q))
end Go.Proofs.Ytbhapclaochcnaa
namespace Go.Proofs.Ytbhapclaochcnaa
open Go.RowKit
set_option linter.all false
set_option maxHeartbeats 8000000
set_option maxRecDepth 100000 in
theorem v_rl9 (m : Letter) (e : m.lkind = 9) : FnV Try.prog 17 [m.D] (boolD (rightL m)) := by
  obtain ⟨m_lkind, m_src, m_dst, m_irep, m_islot, m_be, m_br, m_mkind, m_mclient, m_mseq, m_mkey, m_mfin, m_mold, m_mval, m_tseq, m_td0, m_td1, m_td2, m_td3, m_td4, m_td5, m_td6, m_lstatus, m_lpe, m_lpr, m_lve, m_lvr, m_lckind, m_lcclient, m_lcseq, m_lckey, m_lcfin, m_lcold, m_lcval, m_laseq, m_lad0, m_lad1, m_lad2, m_lad3, m_lad4, m_lad5, m_lad6, m_lsame, m_fd0, m_fd1, m_fd2, m_fd3, m_fd4, m_fd5, m_fd6, m_data⟩ := m
  replace e : m_lkind = 9 := e
  subst e
  obtain ⟨GFsR5, hGFsR5⟩ : ∃ F, F = FsR50 := ⟨_, rfl⟩
  obtain ⟨GFs5, hGFs5⟩ : ∃ F, F = Fs50 := ⟨_, rfl⟩
  obtain ⟨GFsA, hGFsA⟩ : ∃ F, F = FsA0 := ⟨_, rfl⟩
  have hH : SoundK Try.prog [kn_rightI2 GFsR5, kn_rightB2 GFsR5, kn_rightR GFs5, kn_rightAR GFsA, kn_rightCell2 GFsR5, kn_rightD GFsA] := by subst hGFsR5 hGFs5 hGFsA; exact orK_ok ok_rightI2 (orK_ok ok_rightB2 (orK_ok ok_rightR (orK_ok ok_rightAR (orK_ok ok_rightCell2 (orK_ok ok_rightD noK_ok)))))
  refine FnD_cbv (T := fun _ => tabY [] [21, 24]) (H := fun _ => [kn_rightI2 GFsR5, kn_rightB2 GFsR5, kn_rightR GFs5, kn_rightAR GFsA, kn_rightCell2 GFsR5, kn_rightD GFsA]) (tabY_ok _ _) hH follows_mixed Try.func17 rfl Try.ntmps17 (by simp) fun A X W hA hX hW => ?_
  cbv
  have f1 : A.cmp .lss 9 1 = false := by subst hA; rfl
  have f2 : A.cmp .gtr 9 11 = false := by subst hA; rfl
  have f3 : A.cmp .lss 9 9 = false := by subst hA; rfl
  have f4 : A.cmp .neq 9 5 = true := by subst hA; rfl
  have g0 : A.cmp .eql 9 1 = false := by subst hA; rfl
  have g1 : A.cmp .eql 9 3 = false := by subst hA; rfl
  have g2 : A.cmp .eql 9 5 = false := by subst hA; rfl
  have g3 : A.cmp .eql 9 2 = false := by subst hA; rfl
  have g4 : A.cmp .eql 9 7 = false := by subst hA; rfl
  have g5 : A.cmp .eql 9 9 = true := by subst hA; rfl
  have g6 : A.cmp .eql 9 11 = false := by subst hA; rfl
  have g7 : A.cmp .eql 9 10 = false := by subst hA; rfl
  have ftf : A.cond false true false = false := by subst hA; rfl
  have fff : A.cond false false false = false := by subst hA; rfl
  cbv at f1 f2 f3 f4 g0 g1 g2 g3 g4 g5 g6 g7 ftf fff
  repeat' first
    | (simp only [f1, f2, f3, f4, g0, g1, g2, g3, g4, g5, g6, g7, ftf, fff]; cbv)
    | (refine part (fun h => ?_) (fun h => ?_) <;> try cbv)
    | (refine And.intro ?_ ?_)
    | (with_reducible refine goL (T := fun _ => tabY [] []) (H := fun _ => [kn_rightI2 GFsR5, kn_rightB2 GFsR5, kn_rightR GFs5, kn_rightAR GFsA, kn_rightCell2 GFsR5, kn_rightD GFsA]) (tabY_ok _ _) hH follows_mixed hA hX ?_
       cbv)
  all_goals clear hH f1 f2 f3 f4 g0 g1 g2 g3 g4 g5 g6 g7 ftf fff
  all_goals subst hA hX hW hGFsR5 hGFs5 hGFsA
  all_goals first
    | (refine ret_v ?_ rfl
       exact congrArg (fun b => DV.d (.sc (.bool b))) (form_bad (m := (⟨9, m_src, m_dst, m_irep, m_islot, m_be, m_br, m_mkind, m_mclient, m_mseq, m_mkey, m_mfin, m_mold, m_mval, m_tseq, m_td0, m_td1, m_td2, m_td3, m_td4, m_td5, m_td6, m_lstatus, m_lpe, m_lpr, m_lve, m_lvr, m_lckind, m_lcclient, m_lcseq, m_lckey, m_lcfin, m_lcold, m_lcval, m_laseq, m_lad0, m_lad1, m_lad2, m_lad3, m_lad4, m_lad5, m_lad6, m_lsame, m_fd0, m_fd1, m_fd2, m_fd3, m_fd4, m_fd5, m_fd6, m_data⟩ : Letter)) ‹_›).symm)
    | (refine ret_v ?_ rfl
       exact congrArg (fun b => DV.d (.sc (.bool b))) (form_high (m := (⟨9, m_src, m_dst, m_irep, m_islot, m_be, m_br, m_mkind, m_mclient, m_mseq, m_mkey, m_mfin, m_mold, m_mval, m_tseq, m_td0, m_td1, m_td2, m_td3, m_td4, m_td5, m_td6, m_lstatus, m_lpe, m_lpr, m_lve, m_lvr, m_lckind, m_lcclient, m_lcseq, m_lckey, m_lcfin, m_lcold, m_lcval, m_laseq, m_lad0, m_lad1, m_lad2, m_lad3, m_lad4, m_lad5, m_lad6, m_lsame, m_fd0, m_fd1, m_fd2, m_fd3, m_fd4, m_fd5, m_fd6, m_data⟩ : Letter)) (P := ⟨false, false, false, false, false, true, false⟩) rfl rfl rfl h))
    | (show Region.lexB _ _ = true; kernel_rfl)
    | (show turnsB _ = true; kernel_rfl)
    | (simp only [A0]
       first
         | exact id
         | exact fun _ => trivial
         | (intro q; rw [q]; rfl)
         | (intro q; simpa using q))
set_option maxRecDepth 100000 in
theorem v_rl10 (m : Letter) (e : m.lkind = 10) : FnV Try.prog 17 [m.D] (boolD (rightL m)) := by
  obtain ⟨m_lkind, m_src, m_dst, m_irep, m_islot, m_be, m_br, m_mkind, m_mclient, m_mseq, m_mkey, m_mfin, m_mold, m_mval, m_tseq, m_td0, m_td1, m_td2, m_td3, m_td4, m_td5, m_td6, m_lstatus, m_lpe, m_lpr, m_lve, m_lvr, m_lckind, m_lcclient, m_lcseq, m_lckey, m_lcfin, m_lcold, m_lcval, m_laseq, m_lad0, m_lad1, m_lad2, m_lad3, m_lad4, m_lad5, m_lad6, m_lsame, m_fd0, m_fd1, m_fd2, m_fd3, m_fd4, m_fd5, m_fd6, m_data⟩ := m
  replace e : m_lkind = 10 := e
  subst e
  obtain ⟨GFsR5, hGFsR5⟩ : ∃ F, F = FsR50 := ⟨_, rfl⟩
  obtain ⟨GFs5, hGFs5⟩ : ∃ F, F = Fs50 := ⟨_, rfl⟩
  obtain ⟨GFsA, hGFsA⟩ : ∃ F, F = FsA0 := ⟨_, rfl⟩
  have hH : SoundK Try.prog [kn_rightI2 GFsR5, kn_rightB2 GFsR5, kn_rightR GFs5, kn_rightAR GFsA, kn_rightCell2 GFsR5, kn_rightD GFsA] := by subst hGFsR5 hGFs5 hGFsA; exact orK_ok ok_rightI2 (orK_ok ok_rightB2 (orK_ok ok_rightR (orK_ok ok_rightAR (orK_ok ok_rightCell2 (orK_ok ok_rightD noK_ok)))))
  refine FnD_cbv (T := fun _ => tabY [] []) (H := fun _ => [kn_rightI2 GFsR5, kn_rightB2 GFsR5, kn_rightR GFs5, kn_rightAR GFsA, kn_rightCell2 GFsR5, kn_rightD GFsA]) (tabY_ok _ _) hH follows_mixed Try.func17 rfl Try.ntmps17 (by simp) fun A X W hA hX hW => ?_
  cbv
  have f1 : A.cmp .lss 10 1 = false := by subst hA; rfl
  have f2 : A.cmp .gtr 10 11 = false := by subst hA; rfl
  have f3 : A.cmp .lss 10 9 = false := by subst hA; rfl
  have f4 : A.cmp .neq 10 5 = true := by subst hA; rfl
  have g0 : A.cmp .eql 10 1 = false := by subst hA; rfl
  have g1 : A.cmp .eql 10 3 = false := by subst hA; rfl
  have g2 : A.cmp .eql 10 5 = false := by subst hA; rfl
  have g3 : A.cmp .eql 10 2 = false := by subst hA; rfl
  have g4 : A.cmp .eql 10 7 = false := by subst hA; rfl
  have g5 : A.cmp .eql 10 9 = false := by subst hA; rfl
  have g6 : A.cmp .eql 10 11 = false := by subst hA; rfl
  have g7 : A.cmp .eql 10 10 = true := by subst hA; rfl
  have ftf : A.cond false true false = false := by subst hA; rfl
  have fff : A.cond false false false = false := by subst hA; rfl
  cbv at f1 f2 f3 f4 g0 g1 g2 g3 g4 g5 g6 g7 ftf fff
  repeat' first
    | (simp only [f1, f2, f3, f4, g0, g1, g2, g3, g4, g5, g6, g7, ftf, fff]; cbv)
    | (refine part (fun h => ?_) (fun h => ?_) <;> try cbv)
    | (refine And.intro ?_ ?_)
    | (with_reducible refine goL (T := fun _ => tabY [] []) (H := fun _ => [kn_rightI2 GFsR5, kn_rightB2 GFsR5, kn_rightR GFs5, kn_rightAR GFsA, kn_rightCell2 GFsR5, kn_rightD GFsA]) (tabY_ok _ _) hH follows_mixed hA hX ?_
       cbv)
  all_goals clear hH f1 f2 f3 f4 g0 g1 g2 g3 g4 g5 g6 g7 ftf fff
  all_goals subst hA hX hW hGFsR5 hGFs5 hGFsA
  all_goals first
    | (refine ret_v ?_ rfl
       exact congrArg (fun b => DV.d (.sc (.bool b))) (form_bad (m := (⟨10, m_src, m_dst, m_irep, m_islot, m_be, m_br, m_mkind, m_mclient, m_mseq, m_mkey, m_mfin, m_mold, m_mval, m_tseq, m_td0, m_td1, m_td2, m_td3, m_td4, m_td5, m_td6, m_lstatus, m_lpe, m_lpr, m_lve, m_lvr, m_lckind, m_lcclient, m_lcseq, m_lckey, m_lcfin, m_lcold, m_lcval, m_laseq, m_lad0, m_lad1, m_lad2, m_lad3, m_lad4, m_lad5, m_lad6, m_lsame, m_fd0, m_fd1, m_fd2, m_fd3, m_fd4, m_fd5, m_fd6, m_data⟩ : Letter)) ‹_›).symm)
    | (refine ret_v ?_ rfl
       exact congrArg (fun b => DV.d (.sc (.bool b))) (form_high (m := (⟨10, m_src, m_dst, m_irep, m_islot, m_be, m_br, m_mkind, m_mclient, m_mseq, m_mkey, m_mfin, m_mold, m_mval, m_tseq, m_td0, m_td1, m_td2, m_td3, m_td4, m_td5, m_td6, m_lstatus, m_lpe, m_lpr, m_lve, m_lvr, m_lckind, m_lcclient, m_lcseq, m_lckey, m_lcfin, m_lcold, m_lcval, m_laseq, m_lad0, m_lad1, m_lad2, m_lad3, m_lad4, m_lad5, m_lad6, m_lsame, m_fd0, m_fd1, m_fd2, m_fd3, m_fd4, m_fd5, m_fd6, m_data⟩ : Letter)) (P := ⟨false, false, false, false, false, false, true⟩) rfl rfl rfl h))
    | (show Region.lexB _ _ = true; kernel_rfl)
    | (show turnsB _ = true; kernel_rfl)
    | (simp only [A0]
       first
         | exact id
         | exact fun _ => trivial
         | (intro q; rw [q]; rfl)
         | (intro q; simpa using q))
set_option maxRecDepth 100000 in
theorem v_rl11 (m : Letter) (e : m.lkind = 11) : FnV Try.prog 17 [m.D] (boolD (rightL m)) := by
  obtain ⟨m_lkind, m_src, m_dst, m_irep, m_islot, m_be, m_br, m_mkind, m_mclient, m_mseq, m_mkey, m_mfin, m_mold, m_mval, m_tseq, m_td0, m_td1, m_td2, m_td3, m_td4, m_td5, m_td6, m_lstatus, m_lpe, m_lpr, m_lve, m_lvr, m_lckind, m_lcclient, m_lcseq, m_lckey, m_lcfin, m_lcold, m_lcval, m_laseq, m_lad0, m_lad1, m_lad2, m_lad3, m_lad4, m_lad5, m_lad6, m_lsame, m_fd0, m_fd1, m_fd2, m_fd3, m_fd4, m_fd5, m_fd6, m_data⟩ := m
  replace e : m_lkind = 11 := e
  subst e
  obtain ⟨GFsR5, hGFsR5⟩ : ∃ F, F = FsR50 := ⟨_, rfl⟩
  obtain ⟨GFs5, hGFs5⟩ : ∃ F, F = Fs50 := ⟨_, rfl⟩
  obtain ⟨GFsA, hGFsA⟩ : ∃ F, F = FsA0 := ⟨_, rfl⟩
  have hH : SoundK Try.prog [kn_rightI2 GFsR5, kn_rightB2 GFsR5, kn_rightR GFs5, kn_rightAR GFsA, kn_rightCell2 GFsR5, kn_rightD GFsA] := by subst hGFsR5 hGFs5 hGFsA; exact orK_ok ok_rightI2 (orK_ok ok_rightB2 (orK_ok ok_rightR (orK_ok ok_rightAR (orK_ok ok_rightCell2 (orK_ok ok_rightD noK_ok)))))
  refine FnD_cbv (T := fun _ => tabY [] [21, 24]) (H := fun _ => [kn_rightI2 GFsR5, kn_rightB2 GFsR5, kn_rightR GFs5, kn_rightAR GFsA, kn_rightCell2 GFsR5, kn_rightD GFsA]) (tabY_ok _ _) hH follows_mixed Try.func17 rfl Try.ntmps17 (by simp) fun A X W hA hX hW => ?_
  cbv
  have f1 : A.cmp .lss 11 1 = false := by subst hA; rfl
  have f2 : A.cmp .gtr 11 11 = false := by subst hA; rfl
  have f3 : A.cmp .lss 11 9 = false := by subst hA; rfl
  have f4 : A.cmp .neq 11 5 = true := by subst hA; rfl
  have g0 : A.cmp .eql 11 1 = false := by subst hA; rfl
  have g1 : A.cmp .eql 11 3 = false := by subst hA; rfl
  have g2 : A.cmp .eql 11 5 = false := by subst hA; rfl
  have g3 : A.cmp .eql 11 2 = false := by subst hA; rfl
  have g4 : A.cmp .eql 11 7 = false := by subst hA; rfl
  have g5 : A.cmp .eql 11 9 = false := by subst hA; rfl
  have g6 : A.cmp .eql 11 11 = true := by subst hA; rfl
  have g7 : A.cmp .eql 11 10 = false := by subst hA; rfl
  have ftf : A.cond false true false = false := by subst hA; rfl
  have fff : A.cond false false false = false := by subst hA; rfl
  cbv at f1 f2 f3 f4 g0 g1 g2 g3 g4 g5 g6 g7 ftf fff
  repeat' first
    | (simp only [f1, f2, f3, f4, g0, g1, g2, g3, g4, g5, g6, g7, ftf, fff]; cbv)
    | (refine part (fun h => ?_) (fun h => ?_) <;> try cbv)
    | (refine And.intro ?_ ?_)
    | (with_reducible refine goL (T := fun _ => tabY [] []) (H := fun _ => [kn_rightI2 GFsR5, kn_rightB2 GFsR5, kn_rightR GFs5, kn_rightAR GFsA, kn_rightCell2 GFsR5, kn_rightD GFsA]) (tabY_ok _ _) hH follows_mixed hA hX ?_
       cbv)
  all_goals clear hH f1 f2 f3 f4 g0 g1 g2 g3 g4 g5 g6 g7 ftf fff
  all_goals subst hA hX hW hGFsR5 hGFs5 hGFsA
  all_goals first
    | (refine ret_v ?_ rfl
       exact congrArg (fun b => DV.d (.sc (.bool b))) (form_bad (m := (⟨11, m_src, m_dst, m_irep, m_islot, m_be, m_br, m_mkind, m_mclient, m_mseq, m_mkey, m_mfin, m_mold, m_mval, m_tseq, m_td0, m_td1, m_td2, m_td3, m_td4, m_td5, m_td6, m_lstatus, m_lpe, m_lpr, m_lve, m_lvr, m_lckind, m_lcclient, m_lcseq, m_lckey, m_lcfin, m_lcold, m_lcval, m_laseq, m_lad0, m_lad1, m_lad2, m_lad3, m_lad4, m_lad5, m_lad6, m_lsame, m_fd0, m_fd1, m_fd2, m_fd3, m_fd4, m_fd5, m_fd6, m_data⟩ : Letter)) ‹_›).symm)
    | (refine ret_v ?_ rfl
       exact congrArg (fun b => DV.d (.sc (.bool b))) (form_high (m := (⟨11, m_src, m_dst, m_irep, m_islot, m_be, m_br, m_mkind, m_mclient, m_mseq, m_mkey, m_mfin, m_mold, m_mval, m_tseq, m_td0, m_td1, m_td2, m_td3, m_td4, m_td5, m_td6, m_lstatus, m_lpe, m_lpr, m_lve, m_lvr, m_lckind, m_lcclient, m_lcseq, m_lckey, m_lcfin, m_lcold, m_lcval, m_laseq, m_lad0, m_lad1, m_lad2, m_lad3, m_lad4, m_lad5, m_lad6, m_lsame, m_fd0, m_fd1, m_fd2, m_fd3, m_fd4, m_fd5, m_fd6, m_data⟩ : Letter)) (P := ⟨false, false, false, false, false, true, false⟩) rfl rfl rfl h))
    | (show Region.lexB _ _ = true; kernel_rfl)
    | (show turnsB _ = true; kernel_rfl)
    | (simp only [A0]
       first
         | exact id
         | exact fun _ => trivial
         | (intro q; rw [q]; rfl)
         | (intro q; simpa using q))
set_option maxRecDepth 100000 in
theorem v_rightL2 (m : Letter) : FnV Try.prog 17 [m.D] (boolD (rightL m)) := by
  by_cases hk : 1 ≤ m.lkind ∧ m.lkind ≤ 11
  · rcases kinds hk with e | e | e | e | e | e | e | e | e | e | e
    · exact v_rl1 m e
    · exact v_rl2 m e
    · exact v_rl3 m e
    · exact v_rl4 m e
    · exact v_rl5 m e
    · exact v_rl6 m e
    · exact v_rl7 m e
    · exact v_rl8 m e
    · exact v_rl9 m e
    · exact v_rl10 m e
    · exact v_rl11 m e
  obtain ⟨m_lkind, m_src, m_dst, m_irep, m_islot, m_be, m_br, m_mkind, m_mclient, m_mseq, m_mkey, m_mfin, m_mold, m_mval, m_tseq, m_td0, m_td1, m_td2, m_td3, m_td4, m_td5, m_td6, m_lstatus, m_lpe, m_lpr, m_lve, m_lvr, m_lckind, m_lcclient, m_lcseq, m_lckey, m_lcfin, m_lcold, m_lcval, m_laseq, m_lad0, m_lad1, m_lad2, m_lad3, m_lad4, m_lad5, m_lad6, m_lsame, m_fd0, m_fd1, m_fd2, m_fd3, m_fd4, m_fd5, m_fd6, m_data⟩ := m
  replace hk : ¬ (1 ≤ m_lkind ∧ m_lkind ≤ 11) := hk
  · have hr : rightL (⟨m_lkind, m_src, m_dst, m_irep, m_islot, m_be, m_br, m_mkind, m_mclient, m_mseq, m_mkey, m_mfin, m_mold, m_mval, m_tseq, m_td0, m_td1, m_td2, m_td3, m_td4, m_td5, m_td6, m_lstatus, m_lpe, m_lpr, m_lve, m_lvr, m_lckind, m_lcclient, m_lcseq, m_lckey, m_lcfin, m_lcold, m_lcval, m_laseq, m_lad0, m_lad1, m_lad2, m_lad3, m_lad4, m_lad5, m_lad6, m_lsame, m_fd0, m_fd1, m_fd2, m_fd3, m_fd4, m_fd5, m_fd6, m_data⟩ : Letter) = false := by
      cases h : rightL (⟨m_lkind, m_src, m_dst, m_irep, m_islot, m_be, m_br, m_mkind, m_mclient, m_mseq, m_mkey, m_mfin, m_mold, m_mval, m_tseq, m_td0, m_td1, m_td2, m_td3, m_td4, m_td5, m_td6, m_lstatus, m_lpe, m_lpr, m_lve, m_lvr, m_lckind, m_lcclient, m_lcseq, m_lckey, m_lcfin, m_lcold, m_lcval, m_laseq, m_lad0, m_lad1, m_lad2, m_lad3, m_lad4, m_lad5, m_lad6, m_lsame, m_fd0, m_fd1, m_fd2, m_fd3, m_fd4, m_fd5, m_fd6, m_data⟩ : Letter)
      · rfl
      · exact absurd (rightL_kind h) hk
    obtain ⟨GFsR5, hGFsR5⟩ : ∃ F, F = FsR50 := ⟨_, rfl⟩
    obtain ⟨GFs5, hGFs5⟩ : ∃ F, F = Fs50 := ⟨_, rfl⟩
    obtain ⟨GFsA, hGFsA⟩ : ∃ F, F = FsA0 := ⟨_, rfl⟩
    have hH : SoundK Try.prog [kn_rightI2 GFsR5, kn_rightB2 GFsR5, kn_rightR GFs5, kn_rightAR GFsA, kn_rightCell2 GFsR5, kn_rightD GFsA] := by subst hGFsR5 hGFs5 hGFsA; exact orK_ok ok_rightI2 (orK_ok ok_rightB2 (orK_ok ok_rightR (orK_ok ok_rightAR (orK_ok ok_rightCell2 (orK_ok ok_rightD noK_ok)))))
    refine FnD_cbv (T := fun _ => tabY [] []) (H := fun _ => [kn_rightI2 GFsR5, kn_rightB2 GFsR5, kn_rightR GFs5, kn_rightAR GFsA, kn_rightCell2 GFsR5, kn_rightD GFsA]) (tabY_ok _ _) hH follows_mixed Try.func17 rfl Try.ntmps17 (by simp) fun A X W hA hX hW => ?_
    cbv
    have f1 : A.cond (A.cmp .lss m_lkind 1) true (A.cmp .gtr m_lkind 11) = true := by
      subst hA
      show (bif decide (m_lkind < 1) then true else decide (11 < m_lkind)) = true
      by_cases q : m_lkind < 1
      · rw [decide_eq_true q]; rfl
      · rw [decide_eq_false q, decide_eq_true (show 11 < m_lkind by omega)]; rfl
    have f2 : A.cond true true (A.cmp .lss m_src 0) = true := by subst hA; rfl
    have f3 : A.cond true true (A.cmp .geq m_src 7) = true := by subst hA; rfl
    have f4 : A.cond true true (A.cmp .lss m_dst 0) = true := by subst hA; rfl
    have f5 : A.cond true true (A.cmp .geq m_dst 7) = true := by subst hA; rfl
    have f6 : A.cond true true (A.cmp .eql m_src m_dst) = true := by subst hA; rfl
    cbv at f1 f2 f3 f4 f5 f6
    repeat' first
      | (simp only [f1, f2, f3, f4, f5, f6]; cbv)
      | (refine And.intro ?_ ?_)
    all_goals clear hH f1 f2 f3 f4 f5 f6
    all_goals subst hA hX hW hGFsR5 hGFs5 hGFsA
    all_goals try simp only [A0, nc] at *
    all_goals first
      | (refine ret_v ?_ rfl; rw [hr]; rfl)
      | (intros; first | assumption | trivial | (simp_all; done))
def kn_rightL2 (F : FsR5) : FuncId × (List DV → RV) := (17, fun args => match args with
  | [.agg m_cs] => (match decLetter m_cs with | some m => some ([], boolD ((F.rightL2 m))) | none => none)
  | _ => none)
set_option maxRecDepth 100000 in
theorem ok_rightL2 (args : List DV) (cs : List Prop) (r : DV) (h : (kn_rightL2 FsR50).2 args = some (cs, r)) (hc : allP cs True) : FnV Try.prog 17 args r ∧ closedL 0 args = true := by
  unfold kn_rightL2 at h
  simp only at h
  split at h
  · split at h
    · rename_i e0
      cases h
      rw [decLetter_eq e0]
      exact ⟨v_rightL2 _, rfl⟩
    · cases h
  · cases h
end Go.Proofs.Ytbhapclaochcnaa
