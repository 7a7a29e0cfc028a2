/- Right attributes come back from their bytes; what isn't right is told so, what is cut off is short. No condition. -/
import Derived.Test.YtikodmddomaneaaDqM
namespace Go.Proofs.Ytikodmddomaneaa
open Go.RowKit
set_option linter.all false
set_option maxHeartbeats 4000000

set_option maxRecDepth 100000 in
theorem v_back (a : Attr) (cut : Int) (hp0 : rAttr a) (hp1 : r64 cut) : FnV Try.prog 9 [Attr.D a, intD cut] (boolD (((fun (_ : Attr) (_ : Int) => true) a cut))) := by
  obtain ⟨a_seq, a_d0, a_d1, a_d2, a_d3, a_d4, a_d5, a_d6⟩ := a
  obtain ⟨GFsDq, hFsDq⟩ : ∃ F, F = FsDq0 := ⟨_, rfl⟩
  obtain ⟨GFsW, hFsW⟩ : ∃ F, F = FsW0 := ⟨_, rfl⟩
  obtain ⟨GFsA, hFsA⟩ : ∃ F, F = FsA0 := ⟨_, rfl⟩
  obtain ⟨GFsR, hFsR⟩ : ∃ F, F = FsR0 := ⟨_, rfl⟩
  obtain ⟨GFsS, hFsS⟩ : ∃ F, F = FsS0 := ⟨_, rfl⟩
  obtain ⟨GFsRr, hFsRr⟩ : ∃ F, F = FsRr0 := ⟨_, rfl⟩
  have hH : SoundK Try.prog [kn_put GFsDq, kn_within3 GFsW, kn_rightA GFsA, kn_runs GFsR] := by subst hFsDq hFsW hFsA hFsR hFsS hFsRr; exact orK_ok ok_put (orK_ok ok_within3 (orK_ok ok_rightA (orK_ok ok_runs noK_ok)))
  have hB : SoundB Try.prog [kb_pRead GFsS, kb_dGet GFsDq, kb_pwrong GFsRr, kb_pEnd GFsRr] := by subst hFsDq hFsW hFsA hFsR hFsS hFsRr; exact orB_ok okb_pRead (orB_ok okb_dGet (orB_ok okb_pwrong (orB_ok okb_pEnd noB_ok)))
  refine FnD_cbv (T := fun _ => tabY [] []) (H := fun _ => [kn_put GFsDq, kn_within3 GFsW, kn_rightA GFsA, kn_runs GFsR]) (tabY_ok _ _) hH follows_mixed Try.func9 rfl Try.ntmps9 (by simp) fun A X W hA hX hW => ?_
  cbv
  have hr : rAttr (⟨a_seq, a_d0, a_d1, a_d2, a_d3, a_d4, a_d5, a_d6⟩ : Attr) := hp0
  have hlen := putD_length ⟨a_seq, a_d0, a_d1, a_d2, a_d3, a_d4, a_d5, a_d6⟩
  obtain ⟨ys, hys⟩ : ∃ ys, GFsDq.put [] ⟨a_seq, a_d0, a_d1, a_d2, a_d3, a_d4, a_d5, a_d6⟩ = ys := ⟨_, rfl⟩
  have hyb : ys = bytesP (putD ⟨a_seq, a_d0, a_d1, a_d2, a_d3, a_d4, a_d5, a_d6⟩) := by rw [← hys]; subst hFsDq; exact (putA_eq [] _).trans (List.nil_append _)
  have hyl : ys.length = (putD ⟨a_seq, a_d0, a_d1, a_d2, a_d3, a_d4, a_d5, a_d6⟩).length := by rw [hyb, bytesP_length]
  have wl : IntKind.wrap .i64 ((ys.length : Int) - 1) = ys.length - 1 := wrap_i64 (by unfold r64; omega)
  obtain ⟨k, hk⟩ : ∃ k, GFsW.within3 cut 0 (A.bin .sub .i64 (A.len ys) 1) = k := ⟨_, rfl⟩
  have hkb : 0 ≤ k ∧ k < ys.length := by
    rw [← hk]
    subst hFsW hA
    show 0 ≤ 0 + cut % (IntKind.wrap .i64 ((ys.length : Int) - 1) - 0 + 1) ∧ 0 + cut % (IntKind.wrap .i64 ((ys.length : Int) - 1) - 0 + 1) < (ys.length : Int)
    rw [wl]
    have := Int.emod_nonneg cut (show ((ys.length : Int) - 1 - 0 + 1) ≠ 0 by omega)
    have := Int.emod_lt_of_pos cut (show 0 < ((ys.length : Int) - 1 - 0 + 1) by omega)
    omega
  obtain ⟨zs, hzs⟩ : ∃ zs, A.sub ys 0 k = zs := ⟨_, rfl⟩
  have hzb : zs = bytesP ((putD ⟨a_seq, a_d0, a_d1, a_d2, a_d3, a_d4, a_d5, a_d6⟩).take k.toNat) := by
    rw [← hzs, hyb]; subst hA
    show ((bytesP _).drop (Int.toNat 0)).take (k.toNat - Int.toNat 0) = _
    rw [bytesP_drop, bytesP_take]; rfl
  obtain ⟨p, hp⟩ := getA_cut hr (k := k.toNat) (by omega)
  rw [← hzb] at hp
  have hgz : GFsDq.get zs 0 0 = (⟨0, 0, 0, 0, 0, 0, 0, 0⟩, p, 3) := by subst hFsDq; exact hp
  have hby : isB8 ys := ⟨_, hyb, by omega⟩
  have hbz : isB8 zs := ⟨_, hzb, by rw [List.length_take]; omega⟩
  have hrz := getA_rd (rd0 hbz)
  rw [hp] at hrz
  have hry := getA_rd (rd0 hby)
  have hga := getA_back hr
  rw [← hyb] at hga
  have c8 : A.cmp .lss (A.len ys) 8 = false := by subst hA; exact decide_eq_false (by show ¬ ((ys.length : Int) < 8); omega)
  have cseq : A.cmp .eql a_seq a_seq = true := by subst hA; exact decide_eq_true rfl
  have cd0 : A.cmp .eql a_d0 a_d0 = true := by subst hA; exact decide_eq_true rfl
  have cd1 : A.cmp .eql a_d1 a_d1 = true := by subst hA; exact decide_eq_true rfl
  have cd2 : A.cmp .eql a_d2 a_d2 = true := by subst hA; exact decide_eq_true rfl
  have cd3 : A.cmp .eql a_d3 a_d3 = true := by subst hA; exact decide_eq_true rfl
  have cd4 : A.cmp .eql a_d4 a_d4 = true := by subst hA; exact decide_eq_true rfl
  have cd5 : A.cmp .eql a_d5 a_d5 = true := by subst hA; exact decide_eq_true rfl
  have cd6 : A.cmp .eql a_d6 a_d6 = true := by subst hA; exact decide_eq_true rfl
  have z00 : A.cmp .eql 0 0 = true := by subst hA; rfl
  have z33 : A.cmp .neq 3 3 = false := by subst hA; rfl
  have z44 : A.cmp .eql 4 4 = true := by subst hA; rfl
  have a1 : A.and true true = true := by subst hA; rfl
  have n1 : A.not true = false := by subst hA; rfl
  have n2 : A.not false = true := by subst hA; rfl
  have o1 : A.cond false true false = false := by subst hA; rfl
  have o2 : A.cond true true false = true := by subst hA; rfl
  have hspan : span3 0 (IntKind.wrap .i64 ((ys.length : Int) - 1)) := by rw [wl]; exact ⟨by omega, by omega, by omega⟩
  have hbnd : 0 ≤ (0 : Int) ∧ 0 ≤ k ∧ k ≤ (ys.length : Int) := by omega
  rcases Bool.eq_false_or_eq_true (rightA ⟨a_seq, a_d0, a_d1, a_d2, a_d3, a_d4, a_d5, a_d6⟩) with hra | hra
  · rw [if_pos hra] at hga
    rw [hga] at hry
    have hgy : GFsDq.get ys 0 0 = (⟨a_seq, a_d0, a_d1, a_d2, a_d3, a_d4, a_d5, a_d6⟩, ((putD ⟨a_seq, a_d0, a_d1, a_d2, a_d3, a_d4, a_d5, a_d6⟩).length : Int), 0) := by subst hFsDq; exact hga
    have hrr : GFsA.rightA ⟨a_seq, a_d0, a_d1, a_d2, a_d3, a_d4, a_d5, a_d6⟩ = true := by subst hFsA; exact hra
    have hen : GFsRr.fin ys (putD ⟨a_seq, a_d0, a_d1, a_d2, a_d3, a_d4, a_d5, a_d6⟩).length 0 = 0 := by subst hFsRr; show endR ys (putD ⟨a_seq, a_d0, a_d1, a_d2, a_d3, a_d4, a_d5, a_d6⟩).length 0 = 0; rw [← hyl]; simp [endR, errR, bytesOf]
    generalize (((putD ⟨a_seq, a_d0, a_d1, a_d2, a_d3, a_d4, a_d5, a_d6⟩).length : Nat) : Int) = q at *
    cbv at hys hk hzs hgz hgy hrr hen c8 cseq cd0 cd1 cd2 cd3 cd4 cd5 cd6 z00 z33 z44 a1 n1 n2 o1 o2
    repeat' first
      | (simp only [hys, hk, hzs, hgz, hgy, hrr, hen, c8, cseq, cd0, cd1, cd2, cd3, cd4, cd5, cd6, z00, z33, z44, a1, n1, n2, o1, o2]; cbv)
      | (refine part (fun h => ?_) (fun h => ?_) <;> try cbv)
      | (refine And.intro ?_ ?_)
      | ((with_reducible refine callB hX hB ?_) <;> cbv)
    all_goals clear hH hB
    all_goals subst hA hX hW hFsDq hFsW hFsA hFsR hFsS hFsRr
    all_goals first
      | exact ⟨[], rfl, by simp⟩
      | exact hr
      | exact hrz
      | exact hry
      | exact hby
      | exact hbz
      | exact rd0 hby
      | exact rd0 hbz
      | assumption
      | exact hp1
      | exact hspan
      | exact hbnd
      | exact fun h => h
      | exact fun _ => trivial
      | (simp only [A0]; intros; first | assumption | trivial | (simp_all; done))
      | (refine ret_v ?_ rfl; rfl)
  · rw [if_neg (by rw [hra]; decide)] at hga
    rw [hga] at hry
    have hgy : GFsDq.get ys 0 0 = (⟨0, 0, 0, 0, 0, 0, 0, 0⟩, ((putD ⟨a_seq, a_d0, a_d1, a_d2, a_d3, a_d4, a_d5, a_d6⟩).length : Int), 4) := by subst hFsDq; exact hga
    have hrr : GFsA.rightA ⟨a_seq, a_d0, a_d1, a_d2, a_d3, a_d4, a_d5, a_d6⟩ = false := by subst hFsA; exact hra
    generalize (((putD ⟨a_seq, a_d0, a_d1, a_d2, a_d3, a_d4, a_d5, a_d6⟩).length : Nat) : Int) = q at *
    cbv at hys hk hzs hgz hgy hrr c8 cseq cd0 cd1 cd2 cd3 cd4 cd5 cd6 z00 z33 z44 a1 n1 n2 o1 o2
    repeat' first
      | (simp only [hys, hk, hzs, hgz, hgy, hrr, c8, cseq, cd0, cd1, cd2, cd3, cd4, cd5, cd6, z00, z33, z44, a1, n1, n2, o1, o2]; cbv)
      | (refine part (fun h => ?_) (fun h => ?_) <;> try cbv)
      | (refine And.intro ?_ ?_)
      | ((with_reducible refine callB hX hB ?_) <;> cbv)
    all_goals clear hH hB
    all_goals subst hA hX hW hFsDq hFsW hFsA hFsR hFsS hFsRr
    all_goals first
      | exact ⟨[], rfl, by simp⟩
      | exact hr
      | exact hrz
      | exact hry
      | exact hby
      | exact hbz
      | exact rd0 hby
      | exact rd0 hbz
      | assumption
      | exact hp1
      | exact hspan
      | exact hbnd
      | exact fun h => h
      | exact fun _ => trivial
      | (simp only [A0]; intros; first | assumption | trivial | (simp_all; done))
      | (refine ret_v ?_ rfl; rfl)
end Go.Proofs.Ytikodmddomaneaa
