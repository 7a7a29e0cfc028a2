/- Letters as bytes. No condition. -/
import Derived.Test.YtbhapclaochcnaaLe3
namespace Go.Proofs.Ytbhapclaochcnaa
open Go.RowKit
set_option linter.all false
set_option maxHeartbeats 8000000

noncomputable def putLX (m : Letter) (p : Parts) : List (List PD) :=
  let b0 := numX (numX (numX [] m.lkind) m.src) m.dst
  let b1 := bif p.inst then numX (numX b0 m.irep) m.islot else b0
  let b2 := bif p.ballot then ballotX b1 m.ballot else b1
  let b3 := bif p.cmd then putX b2 m.cmd else b2
  let b4 := bif p.attr then putA b3 m.attr else b3
  let b5 := bif p.cell then putCellX b4 m.cell else b4
  let b6 := bif p.deps then numX (numX (numX (numX (numX (numX (numX b5 m.fd0) m.fd1) m.fd2) m.fd3) m.fd4) m.fd5) m.fd6 else b5
  bif p.data then textX b6 m.data else b6
noncomputable def putLet (m : Letter) : List (List PD) := if rightL m then putLX m (namedP m.lkind).1 else []
def okLet (m : Letter) : Prop := (r64 m.lkind ∧ r64 m.src ∧ r64 m.dst) ∧ (r64 m.irep ∧ r64 m.islot) ∧ rBal m.ballot ∧ okC m.cmd ∧ rAttr m.attr ∧ okCell m.cell ∧ (r64 m.fd0 ∧ r64 m.fd1 ∧ r64 m.fd2 ∧ r64 m.fd3 ∧ r64 m.fd4 ∧ r64 m.fd5 ∧ r64 m.fd6) ∧ m.data.size ≤ 1048576
theorem rightL_parts {m : Letter} (h : rightL m = true) : rightC m.cmd = true ∧ rightA m.attr = true ∧ rightCell m.cell = true := by
  unfold rightL at h
  cases h1 : badL1 m
  · rw [h1] at h
    cases h2 : badL2 m
    · unfold badL2 at h2
      revert h2
      generalize (bif (namedP m.lkind).1.inst then !rightI m.inst else false) = p
      cases p <;> cases rightB m.ballot <;> cases rightC m.cmd <;> cases rightA m.attr <;> cases rightCell m.cell <;> simp
    · rw [h2] at h; cases h
  · rw [h1] at h; cases h
theorem isBn.cell {k : Nat} {xs : List (List PD)} (h : isBn k xs) {c : Cell} (hr : rightCell c = true) : isBn (k + 600) (putCellX xs c) := by
  obtain ⟨bs, rfl, h2⟩ := h
  have h1 := putB_small (rightCell_parts hr).1
  have h3 := putD_small c.attr
  have p := numB_length
  have q0 := p c.status
  have q1 := p c.pe
  have q2 := p c.pr
  have q3 := p c.ve
  have q4 := p c.vr
  have hl : (cellB c).length ≤ 600 := by
    unfold cellB
    split
    · simp only [List.length_append, ballotB, Cell.prom, List.length_nil]; omega
    · simp only [List.length_append, ballotB, Cell.prom, Cell.voted, List.length_singleton]; omega
  exact ⟨bs ++ cellB c, by unfold putCellX; rw [if_pos hr, bytesP_append], by rw [List.length_append]; omega⟩

structure FsL5 where
  putLet : Letter → List (List PD)
  okLet : Letter → Prop
noncomputable def FsL50 : FsL5 where
  putLet := putLet
  okLet := okLet
set_option maxRecDepth 100000 in
theorem v_putLet (m : Letter) (hp0 : FsL50.okLet m) : FnV Try.prog 9 [Letter.D m] (.d (.slc 1 (putLet m))) := by
  obtain ⟨m_lkind, m_src, m_dst, m_irep, m_islot, m_be, m_br, m_mkind, m_mclient, m_mseq, m_mkey, m_mfin, m_mold, m_mval, m_tseq, m_td0, m_td1, m_td2, m_td3, m_td4, m_td5, m_td6, m_lstatus, m_lpe, m_lpr, m_lve, m_lvr, m_lckind, m_lcclient, m_lcseq, m_lckey, m_lcfin, m_lcold, m_lcval, m_laseq, m_lad0, m_lad1, m_lad2, m_lad3, m_lad4, m_lad5, m_lad6, m_lsame, m_fd0, m_fd1, m_fd2, m_fd3, m_fd4, m_fd5, m_fd6, m_data⟩ := m
  obtain ⟨GFsL3, hGFsL3⟩ : ∃ F, F = FsL30 := ⟨_, rfl⟩
  obtain ⟨GFsL1, hGFsL1⟩ : ∃ F, F = FsL10 := ⟨_, rfl⟩
  obtain ⟨GFsQ, hGFsQ⟩ : ∃ F, F = FsQ0 := ⟨_, rfl⟩
  obtain ⟨GFsL4, hGFsL4⟩ : ∃ F, F = FsL40 := ⟨_, rfl⟩
  obtain ⟨GFs6, hGFs6⟩ : ∃ F, F = Fs60 := ⟨_, rfl⟩
  obtain ⟨GFsDq, hGFsDq⟩ : ∃ F, F = FsDq0 := ⟨_, rfl⟩
  have hH : SoundK Try.prog [kn_rightL GFsL3, kn_named GFsL1, kn_num GFsQ, kn_ballotX GFsL4, kn_put GFs6, kn_dput GFsDq, kn_putCellX GFsL4, kn_text GFsQ] := by subst hGFsL3 hGFsL1 hGFsQ hGFsL4 hGFs6 hGFsDq; exact orK_ok ok_rightL (orK_ok ok_named (orK_ok ok_num (orK_ok ok_ballotX (orK_ok ok_put (orK_ok ok_dput (orK_ok ok_putCellX (orK_ok ok_text noK_ok)))))))
  refine FnD_cbv (T := fun _ => tabY [5003] []) (H := fun _ => [kn_rightL GFsL3, kn_named GFsL1, kn_num GFsQ, kn_ballotX GFsL4, kn_put GFs6, kn_dput GFsDq, kn_putCellX GFsL4, kn_text GFsQ]) (tabY_ok _ _) hH follows_mixed Try.func9 rfl Try.ntmps9 (by simp) fun A X W hA hX hW => ?_
  cbv
  have l0 : A.cmp .lss 0 7 = true := by subst hA; rfl
  cbv at l0
  have l1 : A.cmp .lss 1 7 = true := by subst hA; rfl
  cbv at l1
  have l2 : A.cmp .lss 2 7 = true := by subst hA; rfl
  cbv at l2
  have l3 : A.cmp .lss 3 7 = true := by subst hA; rfl
  cbv at l3
  have l4 : A.cmp .lss 4 7 = true := by subst hA; rfl
  cbv at l4
  have l5 : A.cmp .lss 5 7 = true := by subst hA; rfl
  cbv at l5
  have l6 : A.cmp .lss 6 7 = true := by subst hA; rfl
  cbv at l6
  have l7 : A.cmp .lss 7 7 = false := by subst hA; rfl
  cbv at l7
  have b0 : A.bin .add .i64 0 1 = 1 := by subst hA; rfl
  cbv at b0
  have b1 : A.bin .add .i64 1 1 = 2 := by subst hA; rfl
  cbv at b1
  have b2 : A.bin .add .i64 2 1 = 3 := by subst hA; rfl
  cbv at b2
  have b3 : A.bin .add .i64 3 1 = 4 := by subst hA; rfl
  cbv at b3
  have b4 : A.bin .add .i64 4 1 = 5 := by subst hA; rfl
  cbv at b4
  have b5 : A.bin .add .i64 5 1 = 6 := by subst hA; rfl
  cbv at b5
  have b6 : A.bin .add .i64 6 1 = 7 := by subst hA; rfl
  cbv at b6
  have o0_0 : A.off 0 0 1 = 0 := by subst hA; rfl
  cbv at o0_0
  have o0_1 : A.off 0 1 1 = 1 := by subst hA; rfl
  cbv at o0_1
  have o0_2 : A.off 0 2 1 = 2 := by subst hA; rfl
  cbv at o0_2
  have o0_3 : A.off 0 3 1 = 3 := by subst hA; rfl
  cbv at o0_3
  have o0_4 : A.off 0 4 1 = 4 := by subst hA; rfl
  cbv at o0_4
  have o0_5 : A.off 0 5 1 = 5 := by subst hA; rfl
  cbv at o0_5
  have o0_6 : A.off 0 6 1 = 6 := by subst hA; rfl
  cbv at o0_6
  refine part (fun h => ?_) (fun h => ?_)
  · cbv
    subst hA hX hW hGFsL3 hGFsL1 hGFsQ hGFsL4 hGFs6 hGFsDq
    have h9 : (!rightL (⟨m_lkind, m_src, m_dst, m_irep, m_islot, m_be, m_br, m_mkind, m_mclient, m_mseq, m_mkey, m_mfin, m_mold, m_mval, m_tseq, m_td0, m_td1, m_td2, m_td3, m_td4, m_td5, m_td6, m_lstatus, m_lpe, m_lpr, m_lve, m_lvr, m_lckind, m_lcclient, m_lcseq, m_lckey, m_lcfin, m_lcold, m_lcval, m_laseq, m_lad0, m_lad1, m_lad2, m_lad3, m_lad4, m_lad5, m_lad6, m_lsame, m_fd0, m_fd1, m_fd2, m_fd3, m_fd4, m_fd5, m_fd6, m_data⟩ : Letter)) = true := h
    have h0 : rightL (⟨m_lkind, m_src, m_dst, m_irep, m_islot, m_be, m_br, m_mkind, m_mclient, m_mseq, m_mkey, m_mfin, m_mold, m_mval, m_tseq, m_td0, m_td1, m_td2, m_td3, m_td4, m_td5, m_td6, m_lstatus, m_lpe, m_lpr, m_lve, m_lvr, m_lckind, m_lcclient, m_lcseq, m_lckey, m_lcfin, m_lcold, m_lcval, m_laseq, m_lad0, m_lad1, m_lad2, m_lad3, m_lad4, m_lad5, m_lad6, m_lsame, m_fd0, m_fd1, m_fd2, m_fd3, m_fd4, m_fd5, m_fd6, m_data⟩ : Letter) = false := by simpa using h9
    refine ret_nil (sz := 1) ?_
    simp [putLet, h0]
  have hr : rightL (⟨m_lkind, m_src, m_dst, m_irep, m_islot, m_be, m_br, m_mkind, m_mclient, m_mseq, m_mkey, m_mfin, m_mold, m_mval, m_tseq, m_td0, m_td1, m_td2, m_td3, m_td4, m_td5, m_td6, m_lstatus, m_lpe, m_lpr, m_lve, m_lvr, m_lckind, m_lcclient, m_lcseq, m_lckey, m_lcfin, m_lcold, m_lcval, m_laseq, m_lad0, m_lad1, m_lad2, m_lad3, m_lad4, m_lad5, m_lad6, m_lsame, m_fd0, m_fd1, m_fd2, m_fd3, m_fd4, m_fd5, m_fd6, m_data⟩ : Letter) = true := by
    subst hA hGFsL3
    have h9 : (!rightL (⟨m_lkind, m_src, m_dst, m_irep, m_islot, m_be, m_br, m_mkind, m_mclient, m_mseq, m_mkey, m_mfin, m_mold, m_mval, m_tseq, m_td0, m_td1, m_td2, m_td3, m_td4, m_td5, m_td6, m_lstatus, m_lpe, m_lpr, m_lve, m_lvr, m_lckind, m_lcclient, m_lcseq, m_lckey, m_lcfin, m_lcold, m_lcval, m_laseq, m_lad0, m_lad1, m_lad2, m_lad3, m_lad4, m_lad5, m_lad6, m_lsame, m_fd0, m_fd1, m_fd2, m_fd3, m_fd4, m_fd5, m_fd6, m_data⟩ : Letter)) = false := h
    simpa using h9
  have hrp := rightL_parts hr
  obtain ⟨⟨P, ok⟩, hP⟩ : ∃ q, GFsL1.named m_lkind = q := ⟨_, rfl⟩
  have hpp : isParts P := by (have := named_parts m_lkind; subst hGFsL1; rw [show namedP m_lkind = (P, ok) from hP] at this; exact this)
  have hP0 : namedP m_lkind = (P, ok) := by subst hGFsL1; exact hP
  have ott : A.cond true true false = true := by subst hA; rfl
  have otf : A.cond true false false = false := by subst hA; rfl
  have oft : A.cond false true false = false := by subst hA; rfl
  cbv at ott otf oft
  rcases hpp with e | e | e | e | e | e | e | e
  all_goals subst e
  · cbv at hP
    cbv
    simp only [hP]
    cbv
    repeat' first
      | (refine And.intro ?_ ?_)
    rotate_right 1
    · refine unrollL (T := fun _ => tabY [5003] []) (H := fun _ => [kn_rightL GFsL3, kn_named GFsL1, kn_num GFsQ, kn_ballotX GFsL4, kn_put GFs6, kn_dput GFsDq, kn_putCellX GFsL4, kn_text GFsQ]) (tabY_ok _ _) hH follows_mixed hA hX 1 fun R2 hR2 => ?_
      cbv
      refine hR2 _ _ _ ?_
      cbv
      repeat' first
        | (simp only [l0, l1, l2, l3, l4, l5, l6, l7, b0, b1, b2, b3, b4, b5, b6, o0_0, o0_1, o0_2, o0_3, o0_4, o0_5, o0_6, ott, otf, oft]; cbv)
        | (refine And.intro ?_ ?_)
        | (refine hR2 _ _ _ ?_; cbv)
      all_goals clear hR2
      all_goals clear hH
      all_goals subst hA hX hW hGFsL3 hGFsL1 hGFsQ hGFsL4 hGFs6 hGFsDq
      all_goals obtain ⟨⟨k0, k1, k2⟩, ⟨k3, k4⟩, k5, k6, k7, k8, ⟨f0, f1, f2, f3, f4, f5, f6⟩, kd⟩ : okLet (⟨m_lkind, m_src, m_dst, m_irep, m_islot, m_be, m_br, m_mkind, m_mclient, m_mseq, m_mkey, m_mfin, m_mold, m_mval, m_tseq, m_td0, m_td1, m_td2, m_td3, m_td4, m_td5, m_td6, m_lstatus, m_lpe, m_lpr, m_lve, m_lvr, m_lckind, m_lcclient, m_lcseq, m_lckey, m_lcfin, m_lcold, m_lcval, m_laseq, m_lad0, m_lad1, m_lad2, m_lad3, m_lad4, m_lad5, m_lad6, m_lsame, m_fd0, m_fd1, m_fd2, m_fd3, m_fd4, m_fd5, m_fd6, m_data⟩ : Letter) := hp0
      all_goals have b0 : isBn 0 [] := ⟨[], rfl, Nat.le_refl _⟩
      all_goals have b1 := (isBn.num b0 m_lkind)
      all_goals have b2 := (isBn.num b1 m_src)
      all_goals have b3 := (isBn.num b2 m_dst)
      all_goals have b4 := (isBn.num b3 m_irep)
      all_goals have b5 := (isBn.num b4 m_islot)
      all_goals have b6 := (isBn.ballot b5 ⟨m_be, m_br⟩)
      all_goals have b7 := (isBn.put b6 hrp.1)
      all_goals have b8 := (isBn.dput b7 ⟨m_tseq, m_td0, m_td1, m_td2, m_td3, m_td4, m_td5, m_td6⟩)
      all_goals first
        | (show Region.lexB _ _ = true; kernel_rfl)
        | exact k0
        | exact k1
        | exact k2
        | exact k3
        | exact k4
        | exact k5
        | exact k6
        | exact k7
        | exact k8
        | exact f0
        | exact f1
        | exact f2
        | exact f3
        | exact f4
        | exact f5
        | exact f6
        | (show szT _; unfold szT; exact Nat.le_trans kd (by decide))
        | exact b0.le (by omega)
        | exact b0.mono (by omega)
        | exact b1.le (by omega)
        | exact b1.mono (by omega)
        | exact b2.le (by omega)
        | exact b2.mono (by omega)
        | exact b3.le (by omega)
        | exact b3.mono (by omega)
        | exact b4.le (by omega)
        | exact b4.mono (by omega)
        | exact b5.le (by omega)
        | exact b5.mono (by omega)
        | exact b6.le (by omega)
        | exact b6.mono (by omega)
        | exact b7.le (by omega)
        | exact b7.mono (by omega)
        | exact b8.le (by omega)
        | exact b8.mono (by omega)
        | (simp only [A0]; intros; first | assumption | trivial | (simp_all; done))
        | (refine ret_v ?_ rfl
           show DV.d (.slc 1 _) = DV.d (.slc 1 (putLet (⟨m_lkind, m_src, m_dst, m_irep, m_islot, m_be, m_br, m_mkind, m_mclient, m_mseq, m_mkey, m_mfin, m_mold, m_mval, m_tseq, m_td0, m_td1, m_td2, m_td3, m_td4, m_td5, m_td6, m_lstatus, m_lpe, m_lpr, m_lve, m_lvr, m_lckind, m_lcclient, m_lcseq, m_lckey, m_lcfin, m_lcold, m_lcval, m_laseq, m_lad0, m_lad1, m_lad2, m_lad3, m_lad4, m_lad5, m_lad6, m_lsame, m_fd0, m_fd1, m_fd2, m_fd3, m_fd4, m_fd5, m_fd6, m_data⟩ : Letter)))
           have hn : (namedP m_lkind).1 = ⟨true, true, true, true, false, false, false⟩ := congrArg Prod.fst hP0
           unfold putLet
           rw [if_pos hr]
           show _ = DV.d (.slc 1 (putLX (⟨m_lkind, m_src, m_dst, m_irep, m_islot, m_be, m_br, m_mkind, m_mclient, m_mseq, m_mkey, m_mfin, m_mold, m_mval, m_tseq, m_td0, m_td1, m_td2, m_td3, m_td4, m_td5, m_td6, m_lstatus, m_lpe, m_lpr, m_lve, m_lvr, m_lckind, m_lcclient, m_lcseq, m_lckey, m_lcfin, m_lcold, m_lcval, m_laseq, m_lad0, m_lad1, m_lad2, m_lad3, m_lad4, m_lad5, m_lad6, m_lsame, m_fd0, m_fd1, m_fd2, m_fd3, m_fd4, m_fd5, m_fd6, m_data⟩ : Letter) (namedP m_lkind).1))
           rw [hn]
           rfl)
        | (simp; done)
        | exact ⟨by decide, by decide⟩
    all_goals clear hH
    all_goals subst hA hX hW hGFsL3 hGFsL1 hGFsQ hGFsL4 hGFs6 hGFsDq
    all_goals obtain ⟨⟨k0, k1, k2⟩, ⟨k3, k4⟩, k5, k6, k7, k8, ⟨f0, f1, f2, f3, f4, f5, f6⟩, kd⟩ : okLet (⟨m_lkind, m_src, m_dst, m_irep, m_islot, m_be, m_br, m_mkind, m_mclient, m_mseq, m_mkey, m_mfin, m_mold, m_mval, m_tseq, m_td0, m_td1, m_td2, m_td3, m_td4, m_td5, m_td6, m_lstatus, m_lpe, m_lpr, m_lve, m_lvr, m_lckind, m_lcclient, m_lcseq, m_lckey, m_lcfin, m_lcold, m_lcval, m_laseq, m_lad0, m_lad1, m_lad2, m_lad3, m_lad4, m_lad5, m_lad6, m_lsame, m_fd0, m_fd1, m_fd2, m_fd3, m_fd4, m_fd5, m_fd6, m_data⟩ : Letter) := hp0
    all_goals have b0 : isBn 0 [] := ⟨[], rfl, Nat.le_refl _⟩
    all_goals have b1 := (isBn.num b0 m_lkind)
    all_goals have b2 := (isBn.num b1 m_src)
    all_goals have b3 := (isBn.num b2 m_dst)
    all_goals have b4 := (isBn.num b3 m_irep)
    all_goals have b5 := (isBn.num b4 m_islot)
    all_goals have b6 := (isBn.ballot b5 ⟨m_be, m_br⟩)
    all_goals have b7 := (isBn.put b6 hrp.1)
    all_goals have b8 := (isBn.dput b7 ⟨m_tseq, m_td0, m_td1, m_td2, m_td3, m_td4, m_td5, m_td6⟩)
    all_goals first
      | (show Region.lexB _ _ = true; kernel_rfl)
      | exact k0
      | exact k1
      | exact k2
      | exact k3
      | exact k4
      | exact k5
      | exact k6
      | exact k7
      | exact k8
      | exact f0
      | exact f1
      | exact f2
      | exact f3
      | exact f4
      | exact f5
      | exact f6
      | (show szT _; unfold szT; exact Nat.le_trans kd (by decide))
      | exact b0.le (by omega)
      | exact b0.mono (by omega)
      | exact b1.le (by omega)
      | exact b1.mono (by omega)
      | exact b2.le (by omega)
      | exact b2.mono (by omega)
      | exact b3.le (by omega)
      | exact b3.mono (by omega)
      | exact b4.le (by omega)
      | exact b4.mono (by omega)
      | exact b5.le (by omega)
      | exact b5.mono (by omega)
      | exact b6.le (by omega)
      | exact b6.mono (by omega)
      | exact b7.le (by omega)
      | exact b7.mono (by omega)
      | exact b8.le (by omega)
      | exact b8.mono (by omega)
      | (simp only [A0]; intros; first | assumption | trivial | (simp_all; done))
      | (refine ret_v ?_ rfl
         show DV.d (.slc 1 _) = DV.d (.slc 1 (putLet (⟨m_lkind, m_src, m_dst, m_irep, m_islot, m_be, m_br, m_mkind, m_mclient, m_mseq, m_mkey, m_mfin, m_mold, m_mval, m_tseq, m_td0, m_td1, m_td2, m_td3, m_td4, m_td5, m_td6, m_lstatus, m_lpe, m_lpr, m_lve, m_lvr, m_lckind, m_lcclient, m_lcseq, m_lckey, m_lcfin, m_lcold, m_lcval, m_laseq, m_lad0, m_lad1, m_lad2, m_lad3, m_lad4, m_lad5, m_lad6, m_lsame, m_fd0, m_fd1, m_fd2, m_fd3, m_fd4, m_fd5, m_fd6, m_data⟩ : Letter)))
         have hn : (namedP m_lkind).1 = ⟨true, true, true, true, false, false, false⟩ := congrArg Prod.fst hP0
         unfold putLet
         rw [if_pos hr]
         show _ = DV.d (.slc 1 (putLX (⟨m_lkind, m_src, m_dst, m_irep, m_islot, m_be, m_br, m_mkind, m_mclient, m_mseq, m_mkey, m_mfin, m_mold, m_mval, m_tseq, m_td0, m_td1, m_td2, m_td3, m_td4, m_td5, m_td6, m_lstatus, m_lpe, m_lpr, m_lve, m_lvr, m_lckind, m_lcclient, m_lcseq, m_lckey, m_lcfin, m_lcold, m_lcval, m_laseq, m_lad0, m_lad1, m_lad2, m_lad3, m_lad4, m_lad5, m_lad6, m_lsame, m_fd0, m_fd1, m_fd2, m_fd3, m_fd4, m_fd5, m_fd6, m_data⟩ : Letter) (namedP m_lkind).1))
         rw [hn]
         rfl)
      | (simp; done)
      | exact ⟨by decide, by decide⟩
  · cbv at hP
    cbv
    simp only [hP]
    cbv
    repeat' first
      | (refine And.intro ?_ ?_)
    rotate_right 1
    · refine unrollL (T := fun _ => tabY [5003] []) (H := fun _ => [kn_rightL GFsL3, kn_named GFsL1, kn_num GFsQ, kn_ballotX GFsL4, kn_put GFs6, kn_dput GFsDq, kn_putCellX GFsL4, kn_text GFsQ]) (tabY_ok _ _) hH follows_mixed hA hX 1 fun R2 hR2 => ?_
      cbv
      refine hR2 _ _ _ ?_
      cbv
      repeat' first
        | (simp only [l0, l1, l2, l3, l4, l5, l6, l7, b0, b1, b2, b3, b4, b5, b6, o0_0, o0_1, o0_2, o0_3, o0_4, o0_5, o0_6, ott, otf, oft]; cbv)
        | (refine And.intro ?_ ?_)
        | (refine hR2 _ _ _ ?_; cbv)
      all_goals clear hR2
      all_goals clear hH
      all_goals subst hA hX hW hGFsL3 hGFsL1 hGFsQ hGFsL4 hGFs6 hGFsDq
      all_goals obtain ⟨⟨k0, k1, k2⟩, ⟨k3, k4⟩, k5, k6, k7, k8, ⟨f0, f1, f2, f3, f4, f5, f6⟩, kd⟩ : okLet (⟨m_lkind, m_src, m_dst, m_irep, m_islot, m_be, m_br, m_mkind, m_mclient, m_mseq, m_mkey, m_mfin, m_mold, m_mval, m_tseq, m_td0, m_td1, m_td2, m_td3, m_td4, m_td5, m_td6, m_lstatus, m_lpe, m_lpr, m_lve, m_lvr, m_lckind, m_lcclient, m_lcseq, m_lckey, m_lcfin, m_lcold, m_lcval, m_laseq, m_lad0, m_lad1, m_lad2, m_lad3, m_lad4, m_lad5, m_lad6, m_lsame, m_fd0, m_fd1, m_fd2, m_fd3, m_fd4, m_fd5, m_fd6, m_data⟩ : Letter) := hp0
      all_goals have b0 : isBn 0 [] := ⟨[], rfl, Nat.le_refl _⟩
      all_goals have b1 := (isBn.num b0 m_lkind)
      all_goals have b2 := (isBn.num b1 m_src)
      all_goals have b3 := (isBn.num b2 m_dst)
      all_goals have b4 := (isBn.num b3 m_irep)
      all_goals have b5 := (isBn.num b4 m_islot)
      all_goals have b6 := (isBn.ballot b5 ⟨m_be, m_br⟩)
      all_goals have b7 := (isBn.dput b6 ⟨m_tseq, m_td0, m_td1, m_td2, m_td3, m_td4, m_td5, m_td6⟩)
      all_goals first
        | (show Region.lexB _ _ = true; kernel_rfl)
        | exact k0
        | exact k1
        | exact k2
        | exact k3
        | exact k4
        | exact k5
        | exact k6
        | exact k7
        | exact k8
        | exact f0
        | exact f1
        | exact f2
        | exact f3
        | exact f4
        | exact f5
        | exact f6
        | (show szT _; unfold szT; exact Nat.le_trans kd (by decide))
        | exact b0.le (by omega)
        | exact b0.mono (by omega)
        | exact b1.le (by omega)
        | exact b1.mono (by omega)
        | exact b2.le (by omega)
        | exact b2.mono (by omega)
        | exact b3.le (by omega)
        | exact b3.mono (by omega)
        | exact b4.le (by omega)
        | exact b4.mono (by omega)
        | exact b5.le (by omega)
        | exact b5.mono (by omega)
        | exact b6.le (by omega)
        | exact b6.mono (by omega)
        | exact b7.le (by omega)
        | exact b7.mono (by omega)
        | (simp only [A0]; intros; first | assumption | trivial | (simp_all; done))
        | (refine ret_v ?_ rfl
           show DV.d (.slc 1 _) = DV.d (.slc 1 (putLet (⟨m_lkind, m_src, m_dst, m_irep, m_islot, m_be, m_br, m_mkind, m_mclient, m_mseq, m_mkey, m_mfin, m_mold, m_mval, m_tseq, m_td0, m_td1, m_td2, m_td3, m_td4, m_td5, m_td6, m_lstatus, m_lpe, m_lpr, m_lve, m_lvr, m_lckind, m_lcclient, m_lcseq, m_lckey, m_lcfin, m_lcold, m_lcval, m_laseq, m_lad0, m_lad1, m_lad2, m_lad3, m_lad4, m_lad5, m_lad6, m_lsame, m_fd0, m_fd1, m_fd2, m_fd3, m_fd4, m_fd5, m_fd6, m_data⟩ : Letter)))
           have hn : (namedP m_lkind).1 = ⟨true, true, false, true, false, false, false⟩ := congrArg Prod.fst hP0
           unfold putLet
           rw [if_pos hr]
           show _ = DV.d (.slc 1 (putLX (⟨m_lkind, m_src, m_dst, m_irep, m_islot, m_be, m_br, m_mkind, m_mclient, m_mseq, m_mkey, m_mfin, m_mold, m_mval, m_tseq, m_td0, m_td1, m_td2, m_td3, m_td4, m_td5, m_td6, m_lstatus, m_lpe, m_lpr, m_lve, m_lvr, m_lckind, m_lcclient, m_lcseq, m_lckey, m_lcfin, m_lcold, m_lcval, m_laseq, m_lad0, m_lad1, m_lad2, m_lad3, m_lad4, m_lad5, m_lad6, m_lsame, m_fd0, m_fd1, m_fd2, m_fd3, m_fd4, m_fd5, m_fd6, m_data⟩ : Letter) (namedP m_lkind).1))
           rw [hn]
           rfl)
        | (simp; done)
        | exact ⟨by decide, by decide⟩
    all_goals clear hH
    all_goals subst hA hX hW hGFsL3 hGFsL1 hGFsQ hGFsL4 hGFs6 hGFsDq
    all_goals obtain ⟨⟨k0, k1, k2⟩, ⟨k3, k4⟩, k5, k6, k7, k8, ⟨f0, f1, f2, f3, f4, f5, f6⟩, kd⟩ : okLet (⟨m_lkind, m_src, m_dst, m_irep, m_islot, m_be, m_br, m_mkind, m_mclient, m_mseq, m_mkey, m_mfin, m_mold, m_mval, m_tseq, m_td0, m_td1, m_td2, m_td3, m_td4, m_td5, m_td6, m_lstatus, m_lpe, m_lpr, m_lve, m_lvr, m_lckind, m_lcclient, m_lcseq, m_lckey, m_lcfin, m_lcold, m_lcval, m_laseq, m_lad0, m_lad1, m_lad2, m_lad3, m_lad4, m_lad5, m_lad6, m_lsame, m_fd0, m_fd1, m_fd2, m_fd3, m_fd4, m_fd5, m_fd6, m_data⟩ : Letter) := hp0
    all_goals have b0 : isBn 0 [] := ⟨[], rfl, Nat.le_refl _⟩
    all_goals have b1 := (isBn.num b0 m_lkind)
    all_goals have b2 := (isBn.num b1 m_src)
    all_goals have b3 := (isBn.num b2 m_dst)
    all_goals have b4 := (isBn.num b3 m_irep)
    all_goals have b5 := (isBn.num b4 m_islot)
    all_goals have b6 := (isBn.ballot b5 ⟨m_be, m_br⟩)
    all_goals have b7 := (isBn.dput b6 ⟨m_tseq, m_td0, m_td1, m_td2, m_td3, m_td4, m_td5, m_td6⟩)
    all_goals first
      | (show Region.lexB _ _ = true; kernel_rfl)
      | exact k0
      | exact k1
      | exact k2
      | exact k3
      | exact k4
      | exact k5
      | exact k6
      | exact k7
      | exact k8
      | exact f0
      | exact f1
      | exact f2
      | exact f3
      | exact f4
      | exact f5
      | exact f6
      | (show szT _; unfold szT; exact Nat.le_trans kd (by decide))
      | exact b0.le (by omega)
      | exact b0.mono (by omega)
      | exact b1.le (by omega)
      | exact b1.mono (by omega)
      | exact b2.le (by omega)
      | exact b2.mono (by omega)
      | exact b3.le (by omega)
      | exact b3.mono (by omega)
      | exact b4.le (by omega)
      | exact b4.mono (by omega)
      | exact b5.le (by omega)
      | exact b5.mono (by omega)
      | exact b6.le (by omega)
      | exact b6.mono (by omega)
      | exact b7.le (by omega)
      | exact b7.mono (by omega)
      | (simp only [A0]; intros; first | assumption | trivial | (simp_all; done))
      | (refine ret_v ?_ rfl
         show DV.d (.slc 1 _) = DV.d (.slc 1 (putLet (⟨m_lkind, m_src, m_dst, m_irep, m_islot, m_be, m_br, m_mkind, m_mclient, m_mseq, m_mkey, m_mfin, m_mold, m_mval, m_tseq, m_td0, m_td1, m_td2, m_td3, m_td4, m_td5, m_td6, m_lstatus, m_lpe, m_lpr, m_lve, m_lvr, m_lckind, m_lcclient, m_lcseq, m_lckey, m_lcfin, m_lcold, m_lcval, m_laseq, m_lad0, m_lad1, m_lad2, m_lad3, m_lad4, m_lad5, m_lad6, m_lsame, m_fd0, m_fd1, m_fd2, m_fd3, m_fd4, m_fd5, m_fd6, m_data⟩ : Letter)))
         have hn : (namedP m_lkind).1 = ⟨true, true, false, true, false, false, false⟩ := congrArg Prod.fst hP0
         unfold putLet
         rw [if_pos hr]
         show _ = DV.d (.slc 1 (putLX (⟨m_lkind, m_src, m_dst, m_irep, m_islot, m_be, m_br, m_mkind, m_mclient, m_mseq, m_mkey, m_mfin, m_mold, m_mval, m_tseq, m_td0, m_td1, m_td2, m_td3, m_td4, m_td5, m_td6, m_lstatus, m_lpe, m_lpr, m_lve, m_lvr, m_lckind, m_lcclient, m_lcseq, m_lckey, m_lcfin, m_lcold, m_lcval, m_laseq, m_lad0, m_lad1, m_lad2, m_lad3, m_lad4, m_lad5, m_lad6, m_lsame, m_fd0, m_fd1, m_fd2, m_fd3, m_fd4, m_fd5, m_fd6, m_data⟩ : Letter) (namedP m_lkind).1))
         rw [hn]
         rfl)
      | (simp; done)
      | exact ⟨by decide, by decide⟩
  · cbv at hP
    cbv
    simp only [hP]
    cbv
    repeat' first
      | (refine And.intro ?_ ?_)
    rotate_right 1
    · refine unrollL (T := fun _ => tabY [5003] []) (H := fun _ => [kn_rightL GFsL3, kn_named GFsL1, kn_num GFsQ, kn_ballotX GFsL4, kn_put GFs6, kn_dput GFsDq, kn_putCellX GFsL4, kn_text GFsQ]) (tabY_ok _ _) hH follows_mixed hA hX 1 fun R2 hR2 => ?_
      cbv
      refine hR2 _ _ _ ?_
      cbv
      repeat' first
        | (simp only [l0, l1, l2, l3, l4, l5, l6, l7, b0, b1, b2, b3, b4, b5, b6, o0_0, o0_1, o0_2, o0_3, o0_4, o0_5, o0_6, ott, otf, oft]; cbv)
        | (refine And.intro ?_ ?_)
        | (refine hR2 _ _ _ ?_; cbv)
      all_goals clear hR2
      all_goals clear hH
      all_goals subst hA hX hW hGFsL3 hGFsL1 hGFsQ hGFsL4 hGFs6 hGFsDq
      all_goals obtain ⟨⟨k0, k1, k2⟩, ⟨k3, k4⟩, k5, k6, k7, k8, ⟨f0, f1, f2, f3, f4, f5, f6⟩, kd⟩ : okLet (⟨m_lkind, m_src, m_dst, m_irep, m_islot, m_be, m_br, m_mkind, m_mclient, m_mseq, m_mkey, m_mfin, m_mold, m_mval, m_tseq, m_td0, m_td1, m_td2, m_td3, m_td4, m_td5, m_td6, m_lstatus, m_lpe, m_lpr, m_lve, m_lvr, m_lckind, m_lcclient, m_lcseq, m_lckey, m_lcfin, m_lcold, m_lcval, m_laseq, m_lad0, m_lad1, m_lad2, m_lad3, m_lad4, m_lad5, m_lad6, m_lsame, m_fd0, m_fd1, m_fd2, m_fd3, m_fd4, m_fd5, m_fd6, m_data⟩ : Letter) := hp0
      all_goals have b0 : isBn 0 [] := ⟨[], rfl, Nat.le_refl _⟩
      all_goals have b1 := (isBn.num b0 m_lkind)
      all_goals have b2 := (isBn.num b1 m_src)
      all_goals have b3 := (isBn.num b2 m_dst)
      all_goals have b4 := (isBn.num b3 m_irep)
      all_goals have b5 := (isBn.num b4 m_islot)
      all_goals have b6 := (isBn.ballot b5 ⟨m_be, m_br⟩)
      all_goals first
        | (show Region.lexB _ _ = true; kernel_rfl)
        | exact k0
        | exact k1
        | exact k2
        | exact k3
        | exact k4
        | exact k5
        | exact k6
        | exact k7
        | exact k8
        | exact f0
        | exact f1
        | exact f2
        | exact f3
        | exact f4
        | exact f5
        | exact f6
        | (show szT _; unfold szT; exact Nat.le_trans kd (by decide))
        | exact b0.le (by omega)
        | exact b0.mono (by omega)
        | exact b1.le (by omega)
        | exact b1.mono (by omega)
        | exact b2.le (by omega)
        | exact b2.mono (by omega)
        | exact b3.le (by omega)
        | exact b3.mono (by omega)
        | exact b4.le (by omega)
        | exact b4.mono (by omega)
        | exact b5.le (by omega)
        | exact b5.mono (by omega)
        | exact b6.le (by omega)
        | exact b6.mono (by omega)
        | (simp only [A0]; intros; first | assumption | trivial | (simp_all; done))
        | (refine ret_v ?_ rfl
           show DV.d (.slc 1 _) = DV.d (.slc 1 (putLet (⟨m_lkind, m_src, m_dst, m_irep, m_islot, m_be, m_br, m_mkind, m_mclient, m_mseq, m_mkey, m_mfin, m_mold, m_mval, m_tseq, m_td0, m_td1, m_td2, m_td3, m_td4, m_td5, m_td6, m_lstatus, m_lpe, m_lpr, m_lve, m_lvr, m_lckind, m_lcclient, m_lcseq, m_lckey, m_lcfin, m_lcold, m_lcval, m_laseq, m_lad0, m_lad1, m_lad2, m_lad3, m_lad4, m_lad5, m_lad6, m_lsame, m_fd0, m_fd1, m_fd2, m_fd3, m_fd4, m_fd5, m_fd6, m_data⟩ : Letter)))
           have hn : (namedP m_lkind).1 = ⟨true, true, false, false, false, false, false⟩ := congrArg Prod.fst hP0
           unfold putLet
           rw [if_pos hr]
           show _ = DV.d (.slc 1 (putLX (⟨m_lkind, m_src, m_dst, m_irep, m_islot, m_be, m_br, m_mkind, m_mclient, m_mseq, m_mkey, m_mfin, m_mold, m_mval, m_tseq, m_td0, m_td1, m_td2, m_td3, m_td4, m_td5, m_td6, m_lstatus, m_lpe, m_lpr, m_lve, m_lvr, m_lckind, m_lcclient, m_lcseq, m_lckey, m_lcfin, m_lcold, m_lcval, m_laseq, m_lad0, m_lad1, m_lad2, m_lad3, m_lad4, m_lad5, m_lad6, m_lsame, m_fd0, m_fd1, m_fd2, m_fd3, m_fd4, m_fd5, m_fd6, m_data⟩ : Letter) (namedP m_lkind).1))
           rw [hn]
           rfl)
        | (simp; done)
        | exact ⟨by decide, by decide⟩
    all_goals clear hH
    all_goals subst hA hX hW hGFsL3 hGFsL1 hGFsQ hGFsL4 hGFs6 hGFsDq
    all_goals obtain ⟨⟨k0, k1, k2⟩, ⟨k3, k4⟩, k5, k6, k7, k8, ⟨f0, f1, f2, f3, f4, f5, f6⟩, kd⟩ : okLet (⟨m_lkind, m_src, m_dst, m_irep, m_islot, m_be, m_br, m_mkind, m_mclient, m_mseq, m_mkey, m_mfin, m_mold, m_mval, m_tseq, m_td0, m_td1, m_td2, m_td3, m_td4, m_td5, m_td6, m_lstatus, m_lpe, m_lpr, m_lve, m_lvr, m_lckind, m_lcclient, m_lcseq, m_lckey, m_lcfin, m_lcold, m_lcval, m_laseq, m_lad0, m_lad1, m_lad2, m_lad3, m_lad4, m_lad5, m_lad6, m_lsame, m_fd0, m_fd1, m_fd2, m_fd3, m_fd4, m_fd5, m_fd6, m_data⟩ : Letter) := hp0
    all_goals have b0 : isBn 0 [] := ⟨[], rfl, Nat.le_refl _⟩
    all_goals have b1 := (isBn.num b0 m_lkind)
    all_goals have b2 := (isBn.num b1 m_src)
    all_goals have b3 := (isBn.num b2 m_dst)
    all_goals have b4 := (isBn.num b3 m_irep)
    all_goals have b5 := (isBn.num b4 m_islot)
    all_goals have b6 := (isBn.ballot b5 ⟨m_be, m_br⟩)
    all_goals first
      | (show Region.lexB _ _ = true; kernel_rfl)
      | exact k0
      | exact k1
      | exact k2
      | exact k3
      | exact k4
      | exact k5
      | exact k6
      | exact k7
      | exact k8
      | exact f0
      | exact f1
      | exact f2
      | exact f3
      | exact f4
      | exact f5
      | exact f6
      | (show szT _; unfold szT; exact Nat.le_trans kd (by decide))
      | exact b0.le (by omega)
      | exact b0.mono (by omega)
      | exact b1.le (by omega)
      | exact b1.mono (by omega)
      | exact b2.le (by omega)
      | exact b2.mono (by omega)
      | exact b3.le (by omega)
      | exact b3.mono (by omega)
      | exact b4.le (by omega)
      | exact b4.mono (by omega)
      | exact b5.le (by omega)
      | exact b5.mono (by omega)
      | exact b6.le (by omega)
      | exact b6.mono (by omega)
      | (simp only [A0]; intros; first | assumption | trivial | (simp_all; done))
      | (refine ret_v ?_ rfl
         show DV.d (.slc 1 _) = DV.d (.slc 1 (putLet (⟨m_lkind, m_src, m_dst, m_irep, m_islot, m_be, m_br, m_mkind, m_mclient, m_mseq, m_mkey, m_mfin, m_mold, m_mval, m_tseq, m_td0, m_td1, m_td2, m_td3, m_td4, m_td5, m_td6, m_lstatus, m_lpe, m_lpr, m_lve, m_lvr, m_lckind, m_lcclient, m_lcseq, m_lckey, m_lcfin, m_lcold, m_lcval, m_laseq, m_lad0, m_lad1, m_lad2, m_lad3, m_lad4, m_lad5, m_lad6, m_lsame, m_fd0, m_fd1, m_fd2, m_fd3, m_fd4, m_fd5, m_fd6, m_data⟩ : Letter)))
         have hn : (namedP m_lkind).1 = ⟨true, true, false, false, false, false, false⟩ := congrArg Prod.fst hP0
         unfold putLet
         rw [if_pos hr]
         show _ = DV.d (.slc 1 (putLX (⟨m_lkind, m_src, m_dst, m_irep, m_islot, m_be, m_br, m_mkind, m_mclient, m_mseq, m_mkey, m_mfin, m_mold, m_mval, m_tseq, m_td0, m_td1, m_td2, m_td3, m_td4, m_td5, m_td6, m_lstatus, m_lpe, m_lpr, m_lve, m_lvr, m_lckind, m_lcclient, m_lcseq, m_lckey, m_lcfin, m_lcold, m_lcval, m_laseq, m_lad0, m_lad1, m_lad2, m_lad3, m_lad4, m_lad5, m_lad6, m_lsame, m_fd0, m_fd1, m_fd2, m_fd3, m_fd4, m_fd5, m_fd6, m_data⟩ : Letter) (namedP m_lkind).1))
         rw [hn]
         rfl)
      | (simp; done)
      | exact ⟨by decide, by decide⟩
  · cbv at hP
    cbv
    simp only [hP]
    cbv
    repeat' first
      | (refine And.intro ?_ ?_)
    rotate_right 1
    · refine unrollL (T := fun _ => tabY [5003] []) (H := fun _ => [kn_rightL GFsL3, kn_named GFsL1, kn_num GFsQ, kn_ballotX GFsL4, kn_put GFs6, kn_dput GFsDq, kn_putCellX GFsL4, kn_text GFsQ]) (tabY_ok _ _) hH follows_mixed hA hX 1 fun R2 hR2 => ?_
      cbv
      refine hR2 _ _ _ ?_
      cbv
      repeat' first
        | (simp only [l0, l1, l2, l3, l4, l5, l6, l7, b0, b1, b2, b3, b4, b5, b6, o0_0, o0_1, o0_2, o0_3, o0_4, o0_5, o0_6, ott, otf, oft]; cbv)
        | (refine And.intro ?_ ?_)
        | (refine hR2 _ _ _ ?_; cbv)
      all_goals clear hR2
      all_goals clear hH
      all_goals subst hA hX hW hGFsL3 hGFsL1 hGFsQ hGFsL4 hGFs6 hGFsDq
      all_goals obtain ⟨⟨k0, k1, k2⟩, ⟨k3, k4⟩, k5, k6, k7, k8, ⟨f0, f1, f2, f3, f4, f5, f6⟩, kd⟩ : okLet (⟨m_lkind, m_src, m_dst, m_irep, m_islot, m_be, m_br, m_mkind, m_mclient, m_mseq, m_mkey, m_mfin, m_mold, m_mval, m_tseq, m_td0, m_td1, m_td2, m_td3, m_td4, m_td5, m_td6, m_lstatus, m_lpe, m_lpr, m_lve, m_lvr, m_lckind, m_lcclient, m_lcseq, m_lckey, m_lcfin, m_lcold, m_lcval, m_laseq, m_lad0, m_lad1, m_lad2, m_lad3, m_lad4, m_lad5, m_lad6, m_lsame, m_fd0, m_fd1, m_fd2, m_fd3, m_fd4, m_fd5, m_fd6, m_data⟩ : Letter) := hp0
      all_goals have b0 : isBn 0 [] := ⟨[], rfl, Nat.le_refl _⟩
      all_goals have b1 := (isBn.num b0 m_lkind)
      all_goals have b2 := (isBn.num b1 m_src)
      all_goals have b3 := (isBn.num b2 m_dst)
      all_goals have b4 := (isBn.num b3 m_irep)
      all_goals have b5 := (isBn.num b4 m_islot)
      all_goals have b6 := (isBn.put b5 hrp.1)
      all_goals have b7 := (isBn.dput b6 ⟨m_tseq, m_td0, m_td1, m_td2, m_td3, m_td4, m_td5, m_td6⟩)
      all_goals first
        | (show Region.lexB _ _ = true; kernel_rfl)
        | exact k0
        | exact k1
        | exact k2
        | exact k3
        | exact k4
        | exact k5
        | exact k6
        | exact k7
        | exact k8
        | exact f0
        | exact f1
        | exact f2
        | exact f3
        | exact f4
        | exact f5
        | exact f6
        | (show szT _; unfold szT; exact Nat.le_trans kd (by decide))
        | exact b0.le (by omega)
        | exact b0.mono (by omega)
        | exact b1.le (by omega)
        | exact b1.mono (by omega)
        | exact b2.le (by omega)
        | exact b2.mono (by omega)
        | exact b3.le (by omega)
        | exact b3.mono (by omega)
        | exact b4.le (by omega)
        | exact b4.mono (by omega)
        | exact b5.le (by omega)
        | exact b5.mono (by omega)
        | exact b6.le (by omega)
        | exact b6.mono (by omega)
        | exact b7.le (by omega)
        | exact b7.mono (by omega)
        | (simp only [A0]; intros; first | assumption | trivial | (simp_all; done))
        | (refine ret_v ?_ rfl
           show DV.d (.slc 1 _) = DV.d (.slc 1 (putLet (⟨m_lkind, m_src, m_dst, m_irep, m_islot, m_be, m_br, m_mkind, m_mclient, m_mseq, m_mkey, m_mfin, m_mold, m_mval, m_tseq, m_td0, m_td1, m_td2, m_td3, m_td4, m_td5, m_td6, m_lstatus, m_lpe, m_lpr, m_lve, m_lvr, m_lckind, m_lcclient, m_lcseq, m_lckey, m_lcfin, m_lcold, m_lcval, m_laseq, m_lad0, m_lad1, m_lad2, m_lad3, m_lad4, m_lad5, m_lad6, m_lsame, m_fd0, m_fd1, m_fd2, m_fd3, m_fd4, m_fd5, m_fd6, m_data⟩ : Letter)))
           have hn : (namedP m_lkind).1 = ⟨true, false, true, true, false, false, false⟩ := congrArg Prod.fst hP0
           unfold putLet
           rw [if_pos hr]
           show _ = DV.d (.slc 1 (putLX (⟨m_lkind, m_src, m_dst, m_irep, m_islot, m_be, m_br, m_mkind, m_mclient, m_mseq, m_mkey, m_mfin, m_mold, m_mval, m_tseq, m_td0, m_td1, m_td2, m_td3, m_td4, m_td5, m_td6, m_lstatus, m_lpe, m_lpr, m_lve, m_lvr, m_lckind, m_lcclient, m_lcseq, m_lckey, m_lcfin, m_lcold, m_lcval, m_laseq, m_lad0, m_lad1, m_lad2, m_lad3, m_lad4, m_lad5, m_lad6, m_lsame, m_fd0, m_fd1, m_fd2, m_fd3, m_fd4, m_fd5, m_fd6, m_data⟩ : Letter) (namedP m_lkind).1))
           rw [hn]
           rfl)
        | (simp; done)
        | exact ⟨by decide, by decide⟩
    all_goals clear hH
    all_goals subst hA hX hW hGFsL3 hGFsL1 hGFsQ hGFsL4 hGFs6 hGFsDq
    all_goals obtain ⟨⟨k0, k1, k2⟩, ⟨k3, k4⟩, k5, k6, k7, k8, ⟨f0, f1, f2, f3, f4, f5, f6⟩, kd⟩ : okLet (⟨m_lkind, m_src, m_dst, m_irep, m_islot, m_be, m_br, m_mkind, m_mclient, m_mseq, m_mkey, m_mfin, m_mold, m_mval, m_tseq, m_td0, m_td1, m_td2, m_td3, m_td4, m_td5, m_td6, m_lstatus, m_lpe, m_lpr, m_lve, m_lvr, m_lckind, m_lcclient, m_lcseq, m_lckey, m_lcfin, m_lcold, m_lcval, m_laseq, m_lad0, m_lad1, m_lad2, m_lad3, m_lad4, m_lad5, m_lad6, m_lsame, m_fd0, m_fd1, m_fd2, m_fd3, m_fd4, m_fd5, m_fd6, m_data⟩ : Letter) := hp0
    all_goals have b0 : isBn 0 [] := ⟨[], rfl, Nat.le_refl _⟩
    all_goals have b1 := (isBn.num b0 m_lkind)
    all_goals have b2 := (isBn.num b1 m_src)
    all_goals have b3 := (isBn.num b2 m_dst)
    all_goals have b4 := (isBn.num b3 m_irep)
    all_goals have b5 := (isBn.num b4 m_islot)
    all_goals have b6 := (isBn.put b5 hrp.1)
    all_goals have b7 := (isBn.dput b6 ⟨m_tseq, m_td0, m_td1, m_td2, m_td3, m_td4, m_td5, m_td6⟩)
    all_goals first
      | (show Region.lexB _ _ = true; kernel_rfl)
      | exact k0
      | exact k1
      | exact k2
      | exact k3
      | exact k4
      | exact k5
      | exact k6
      | exact k7
      | exact k8
      | exact f0
      | exact f1
      | exact f2
      | exact f3
      | exact f4
      | exact f5
      | exact f6
      | (show szT _; unfold szT; exact Nat.le_trans kd (by decide))
      | exact b0.le (by omega)
      | exact b0.mono (by omega)
      | exact b1.le (by omega)
      | exact b1.mono (by omega)
      | exact b2.le (by omega)
      | exact b2.mono (by omega)
      | exact b3.le (by omega)
      | exact b3.mono (by omega)
      | exact b4.le (by omega)
      | exact b4.mono (by omega)
      | exact b5.le (by omega)
      | exact b5.mono (by omega)
      | exact b6.le (by omega)
      | exact b6.mono (by omega)
      | exact b7.le (by omega)
      | exact b7.mono (by omega)
      | (simp only [A0]; intros; first | assumption | trivial | (simp_all; done))
      | (refine ret_v ?_ rfl
         show DV.d (.slc 1 _) = DV.d (.slc 1 (putLet (⟨m_lkind, m_src, m_dst, m_irep, m_islot, m_be, m_br, m_mkind, m_mclient, m_mseq, m_mkey, m_mfin, m_mold, m_mval, m_tseq, m_td0, m_td1, m_td2, m_td3, m_td4, m_td5, m_td6, m_lstatus, m_lpe, m_lpr, m_lve, m_lvr, m_lckind, m_lcclient, m_lcseq, m_lckey, m_lcfin, m_lcold, m_lcval, m_laseq, m_lad0, m_lad1, m_lad2, m_lad3, m_lad4, m_lad5, m_lad6, m_lsame, m_fd0, m_fd1, m_fd2, m_fd3, m_fd4, m_fd5, m_fd6, m_data⟩ : Letter)))
         have hn : (namedP m_lkind).1 = ⟨true, false, true, true, false, false, false⟩ := congrArg Prod.fst hP0
         unfold putLet
         rw [if_pos hr]
         show _ = DV.d (.slc 1 (putLX (⟨m_lkind, m_src, m_dst, m_irep, m_islot, m_be, m_br, m_mkind, m_mclient, m_mseq, m_mkey, m_mfin, m_mold, m_mval, m_tseq, m_td0, m_td1, m_td2, m_td3, m_td4, m_td5, m_td6, m_lstatus, m_lpe, m_lpr, m_lve, m_lvr, m_lckind, m_lcclient, m_lcseq, m_lckey, m_lcfin, m_lcold, m_lcval, m_laseq, m_lad0, m_lad1, m_lad2, m_lad3, m_lad4, m_lad5, m_lad6, m_lsame, m_fd0, m_fd1, m_fd2, m_fd3, m_fd4, m_fd5, m_fd6, m_data⟩ : Letter) (namedP m_lkind).1))
         rw [hn]
         rfl)
      | (simp; done)
      | exact ⟨by decide, by decide⟩
  · cbv at hP
    cbv
    simp only [hP]
    cbv
    repeat' first
      | (refine And.intro ?_ ?_)
    rotate_right 1
    · refine unrollL (T := fun _ => tabY [5003] []) (H := fun _ => [kn_rightL GFsL3, kn_named GFsL1, kn_num GFsQ, kn_ballotX GFsL4, kn_put GFs6, kn_dput GFsDq, kn_putCellX GFsL4, kn_text GFsQ]) (tabY_ok _ _) hH follows_mixed hA hX 1 fun R2 hR2 => ?_
      cbv
      refine hR2 _ _ _ ?_
      cbv
      repeat' first
        | (simp only [l0, l1, l2, l3, l4, l5, l6, l7, b0, b1, b2, b3, b4, b5, b6, o0_0, o0_1, o0_2, o0_3, o0_4, o0_5, o0_6, ott, otf, oft]; cbv)
        | (refine And.intro ?_ ?_)
        | (refine hR2 _ _ _ ?_; cbv)
      all_goals clear hR2
      all_goals clear hH
      all_goals subst hA hX hW hGFsL3 hGFsL1 hGFsQ hGFsL4 hGFs6 hGFsDq
      all_goals obtain ⟨⟨k0, k1, k2⟩, ⟨k3, k4⟩, k5, k6, k7, k8, ⟨f0, f1, f2, f3, f4, f5, f6⟩, kd⟩ : okLet (⟨m_lkind, m_src, m_dst, m_irep, m_islot, m_be, m_br, m_mkind, m_mclient, m_mseq, m_mkey, m_mfin, m_mold, m_mval, m_tseq, m_td0, m_td1, m_td2, m_td3, m_td4, m_td5, m_td6, m_lstatus, m_lpe, m_lpr, m_lve, m_lvr, m_lckind, m_lcclient, m_lcseq, m_lckey, m_lcfin, m_lcold, m_lcval, m_laseq, m_lad0, m_lad1, m_lad2, m_lad3, m_lad4, m_lad5, m_lad6, m_lsame, m_fd0, m_fd1, m_fd2, m_fd3, m_fd4, m_fd5, m_fd6, m_data⟩ : Letter) := hp0
      all_goals have b0 : isBn 0 [] := ⟨[], rfl, Nat.le_refl _⟩
      all_goals have b1 := (isBn.num b0 m_lkind)
      all_goals have b2 := (isBn.num b1 m_src)
      all_goals have b3 := (isBn.num b2 m_dst)
      all_goals have b4 := (isBn.num b3 m_irep)
      all_goals have b5 := (isBn.num b4 m_islot)
      all_goals have b6 := (isBn.ballot b5 ⟨m_be, m_br⟩)
      all_goals have b7 := (isBn.cell b6 hrp.2.2)
      all_goals first
        | (show Region.lexB _ _ = true; kernel_rfl)
        | exact k0
        | exact k1
        | exact k2
        | exact k3
        | exact k4
        | exact k5
        | exact k6
        | exact k7
        | exact k8
        | exact f0
        | exact f1
        | exact f2
        | exact f3
        | exact f4
        | exact f5
        | exact f6
        | (show szT _; unfold szT; exact Nat.le_trans kd (by decide))
        | exact b0.le (by omega)
        | exact b0.mono (by omega)
        | exact b1.le (by omega)
        | exact b1.mono (by omega)
        | exact b2.le (by omega)
        | exact b2.mono (by omega)
        | exact b3.le (by omega)
        | exact b3.mono (by omega)
        | exact b4.le (by omega)
        | exact b4.mono (by omega)
        | exact b5.le (by omega)
        | exact b5.mono (by omega)
        | exact b6.le (by omega)
        | exact b6.mono (by omega)
        | exact b7.le (by omega)
        | exact b7.mono (by omega)
        | (simp only [A0]; intros; first | assumption | trivial | (simp_all; done))
        | (refine ret_v ?_ rfl
           show DV.d (.slc 1 _) = DV.d (.slc 1 (putLet (⟨m_lkind, m_src, m_dst, m_irep, m_islot, m_be, m_br, m_mkind, m_mclient, m_mseq, m_mkey, m_mfin, m_mold, m_mval, m_tseq, m_td0, m_td1, m_td2, m_td3, m_td4, m_td5, m_td6, m_lstatus, m_lpe, m_lpr, m_lve, m_lvr, m_lckind, m_lcclient, m_lcseq, m_lckey, m_lcfin, m_lcold, m_lcval, m_laseq, m_lad0, m_lad1, m_lad2, m_lad3, m_lad4, m_lad5, m_lad6, m_lsame, m_fd0, m_fd1, m_fd2, m_fd3, m_fd4, m_fd5, m_fd6, m_data⟩ : Letter)))
           have hn : (namedP m_lkind).1 = ⟨true, true, false, false, true, false, false⟩ := congrArg Prod.fst hP0
           unfold putLet
           rw [if_pos hr]
           show _ = DV.d (.slc 1 (putLX (⟨m_lkind, m_src, m_dst, m_irep, m_islot, m_be, m_br, m_mkind, m_mclient, m_mseq, m_mkey, m_mfin, m_mold, m_mval, m_tseq, m_td0, m_td1, m_td2, m_td3, m_td4, m_td5, m_td6, m_lstatus, m_lpe, m_lpr, m_lve, m_lvr, m_lckind, m_lcclient, m_lcseq, m_lckey, m_lcfin, m_lcold, m_lcval, m_laseq, m_lad0, m_lad1, m_lad2, m_lad3, m_lad4, m_lad5, m_lad6, m_lsame, m_fd0, m_fd1, m_fd2, m_fd3, m_fd4, m_fd5, m_fd6, m_data⟩ : Letter) (namedP m_lkind).1))
           rw [hn]
           rfl)
        | (simp; done)
        | exact ⟨by decide, by decide⟩
    all_goals clear hH
    all_goals subst hA hX hW hGFsL3 hGFsL1 hGFsQ hGFsL4 hGFs6 hGFsDq
    all_goals obtain ⟨⟨k0, k1, k2⟩, ⟨k3, k4⟩, k5, k6, k7, k8, ⟨f0, f1, f2, f3, f4, f5, f6⟩, kd⟩ : okLet (⟨m_lkind, m_src, m_dst, m_irep, m_islot, m_be, m_br, m_mkind, m_mclient, m_mseq, m_mkey, m_mfin, m_mold, m_mval, m_tseq, m_td0, m_td1, m_td2, m_td3, m_td4, m_td5, m_td6, m_lstatus, m_lpe, m_lpr, m_lve, m_lvr, m_lckind, m_lcclient, m_lcseq, m_lckey, m_lcfin, m_lcold, m_lcval, m_laseq, m_lad0, m_lad1, m_lad2, m_lad3, m_lad4, m_lad5, m_lad6, m_lsame, m_fd0, m_fd1, m_fd2, m_fd3, m_fd4, m_fd5, m_fd6, m_data⟩ : Letter) := hp0
    all_goals have b0 : isBn 0 [] := ⟨[], rfl, Nat.le_refl _⟩
    all_goals have b1 := (isBn.num b0 m_lkind)
    all_goals have b2 := (isBn.num b1 m_src)
    all_goals have b3 := (isBn.num b2 m_dst)
    all_goals have b4 := (isBn.num b3 m_irep)
    all_goals have b5 := (isBn.num b4 m_islot)
    all_goals have b6 := (isBn.ballot b5 ⟨m_be, m_br⟩)
    all_goals have b7 := (isBn.cell b6 hrp.2.2)
    all_goals first
      | (show Region.lexB _ _ = true; kernel_rfl)
      | exact k0
      | exact k1
      | exact k2
      | exact k3
      | exact k4
      | exact k5
      | exact k6
      | exact k7
      | exact k8
      | exact f0
      | exact f1
      | exact f2
      | exact f3
      | exact f4
      | exact f5
      | exact f6
      | (show szT _; unfold szT; exact Nat.le_trans kd (by decide))
      | exact b0.le (by omega)
      | exact b0.mono (by omega)
      | exact b1.le (by omega)
      | exact b1.mono (by omega)
      | exact b2.le (by omega)
      | exact b2.mono (by omega)
      | exact b3.le (by omega)
      | exact b3.mono (by omega)
      | exact b4.le (by omega)
      | exact b4.mono (by omega)
      | exact b5.le (by omega)
      | exact b5.mono (by omega)
      | exact b6.le (by omega)
      | exact b6.mono (by omega)
      | exact b7.le (by omega)
      | exact b7.mono (by omega)
      | (simp only [A0]; intros; first | assumption | trivial | (simp_all; done))
      | (refine ret_v ?_ rfl
         show DV.d (.slc 1 _) = DV.d (.slc 1 (putLet (⟨m_lkind, m_src, m_dst, m_irep, m_islot, m_be, m_br, m_mkind, m_mclient, m_mseq, m_mkey, m_mfin, m_mold, m_mval, m_tseq, m_td0, m_td1, m_td2, m_td3, m_td4, m_td5, m_td6, m_lstatus, m_lpe, m_lpr, m_lve, m_lvr, m_lckind, m_lcclient, m_lcseq, m_lckey, m_lcfin, m_lcold, m_lcval, m_laseq, m_lad0, m_lad1, m_lad2, m_lad3, m_lad4, m_lad5, m_lad6, m_lsame, m_fd0, m_fd1, m_fd2, m_fd3, m_fd4, m_fd5, m_fd6, m_data⟩ : Letter)))
         have hn : (namedP m_lkind).1 = ⟨true, true, false, false, true, false, false⟩ := congrArg Prod.fst hP0
         unfold putLet
         rw [if_pos hr]
         show _ = DV.d (.slc 1 (putLX (⟨m_lkind, m_src, m_dst, m_irep, m_islot, m_be, m_br, m_mkind, m_mclient, m_mseq, m_mkey, m_mfin, m_mold, m_mval, m_tseq, m_td0, m_td1, m_td2, m_td3, m_td4, m_td5, m_td6, m_lstatus, m_lpe, m_lpr, m_lve, m_lvr, m_lckind, m_lcclient, m_lcseq, m_lckey, m_lcfin, m_lcold, m_lcval, m_laseq, m_lad0, m_lad1, m_lad2, m_lad3, m_lad4, m_lad5, m_lad6, m_lsame, m_fd0, m_fd1, m_fd2, m_fd3, m_fd4, m_fd5, m_fd6, m_data⟩ : Letter) (namedP m_lkind).1))
         rw [hn]
         rfl)
      | (simp; done)
      | exact ⟨by decide, by decide⟩
  · cbv at hP
    cbv
    simp only [hP]
    cbv
    repeat' first
      | (refine And.intro ?_ ?_)
    rotate_right 1
    · refine unrollL (T := fun _ => tabY [5003] []) (H := fun _ => [kn_rightL GFsL3, kn_named GFsL1, kn_num GFsQ, kn_ballotX GFsL4, kn_put GFs6, kn_dput GFsDq, kn_putCellX GFsL4, kn_text GFsQ]) (tabY_ok _ _) hH follows_mixed hA hX 9 fun R2 hR2 => ?_
      cbv
      refine hR2 _ _ _ ?_
      cbv
      repeat' first
        | (simp only [l0, l1, l2, l3, l4, l5, l6, l7, b0, b1, b2, b3, b4, b5, b6, o0_0, o0_1, o0_2, o0_3, o0_4, o0_5, o0_6, ott, otf, oft]; cbv)
        | (refine And.intro ?_ ?_)
        | (refine hR2 _ _ _ ?_; cbv)
      all_goals clear hR2
      all_goals clear hH
      all_goals subst hA hX hW hGFsL3 hGFsL1 hGFsQ hGFsL4 hGFs6 hGFsDq
      all_goals obtain ⟨⟨k0, k1, k2⟩, ⟨k3, k4⟩, k5, k6, k7, k8, ⟨f0, f1, f2, f3, f4, f5, f6⟩, kd⟩ : okLet (⟨m_lkind, m_src, m_dst, m_irep, m_islot, m_be, m_br, m_mkind, m_mclient, m_mseq, m_mkey, m_mfin, m_mold, m_mval, m_tseq, m_td0, m_td1, m_td2, m_td3, m_td4, m_td5, m_td6, m_lstatus, m_lpe, m_lpr, m_lve, m_lvr, m_lckind, m_lcclient, m_lcseq, m_lckey, m_lcfin, m_lcold, m_lcval, m_laseq, m_lad0, m_lad1, m_lad2, m_lad3, m_lad4, m_lad5, m_lad6, m_lsame, m_fd0, m_fd1, m_fd2, m_fd3, m_fd4, m_fd5, m_fd6, m_data⟩ : Letter) := hp0
      all_goals have b0 : isBn 0 [] := ⟨[], rfl, Nat.le_refl _⟩
      all_goals have b1 := (isBn.num b0 m_lkind)
      all_goals have b2 := (isBn.num b1 m_src)
      all_goals have b3 := (isBn.num b2 m_dst)
      all_goals have b4 := (isBn.num b3 m_fd0)
      all_goals have b5 := (isBn.num b4 m_fd1)
      all_goals have b6 := (isBn.num b5 m_fd2)
      all_goals have b7 := (isBn.num b6 m_fd3)
      all_goals have b8 := (isBn.num b7 m_fd4)
      all_goals have b9 := (isBn.num b8 m_fd5)
      all_goals have b10 := (isBn.num b9 m_fd6)
      all_goals first
        | (show Region.lexB _ _ = true; kernel_rfl)
        | exact k0
        | exact k1
        | exact k2
        | exact k3
        | exact k4
        | exact k5
        | exact k6
        | exact k7
        | exact k8
        | exact f0
        | exact f1
        | exact f2
        | exact f3
        | exact f4
        | exact f5
        | exact f6
        | (show szT _; unfold szT; exact Nat.le_trans kd (by decide))
        | exact b0.le (by omega)
        | exact b0.mono (by omega)
        | exact b1.le (by omega)
        | exact b1.mono (by omega)
        | exact b2.le (by omega)
        | exact b2.mono (by omega)
        | exact b3.le (by omega)
        | exact b3.mono (by omega)
        | exact b4.le (by omega)
        | exact b4.mono (by omega)
        | exact b5.le (by omega)
        | exact b5.mono (by omega)
        | exact b6.le (by omega)
        | exact b6.mono (by omega)
        | exact b7.le (by omega)
        | exact b7.mono (by omega)
        | exact b8.le (by omega)
        | exact b8.mono (by omega)
        | exact b9.le (by omega)
        | exact b9.mono (by omega)
        | exact b10.le (by omega)
        | exact b10.mono (by omega)
        | (simp only [A0]; intros; first | assumption | trivial | (simp_all; done))
        | (refine ret_v ?_ rfl
           show DV.d (.slc 1 _) = DV.d (.slc 1 (putLet (⟨m_lkind, m_src, m_dst, m_irep, m_islot, m_be, m_br, m_mkind, m_mclient, m_mseq, m_mkey, m_mfin, m_mold, m_mval, m_tseq, m_td0, m_td1, m_td2, m_td3, m_td4, m_td5, m_td6, m_lstatus, m_lpe, m_lpr, m_lve, m_lvr, m_lckind, m_lcclient, m_lcseq, m_lckey, m_lcfin, m_lcold, m_lcval, m_laseq, m_lad0, m_lad1, m_lad2, m_lad3, m_lad4, m_lad5, m_lad6, m_lsame, m_fd0, m_fd1, m_fd2, m_fd3, m_fd4, m_fd5, m_fd6, m_data⟩ : Letter)))
           have hn : (namedP m_lkind).1 = ⟨false, false, false, false, false, true, false⟩ := congrArg Prod.fst hP0
           unfold putLet
           rw [if_pos hr]
           show _ = DV.d (.slc 1 (putLX (⟨m_lkind, m_src, m_dst, m_irep, m_islot, m_be, m_br, m_mkind, m_mclient, m_mseq, m_mkey, m_mfin, m_mold, m_mval, m_tseq, m_td0, m_td1, m_td2, m_td3, m_td4, m_td5, m_td6, m_lstatus, m_lpe, m_lpr, m_lve, m_lvr, m_lckind, m_lcclient, m_lcseq, m_lckey, m_lcfin, m_lcold, m_lcval, m_laseq, m_lad0, m_lad1, m_lad2, m_lad3, m_lad4, m_lad5, m_lad6, m_lsame, m_fd0, m_fd1, m_fd2, m_fd3, m_fd4, m_fd5, m_fd6, m_data⟩ : Letter) (namedP m_lkind).1))
           rw [hn]
           rfl)
        | (simp; done)
        | exact ⟨by decide, by decide⟩
    all_goals clear hH
    all_goals subst hA hX hW hGFsL3 hGFsL1 hGFsQ hGFsL4 hGFs6 hGFsDq
    all_goals obtain ⟨⟨k0, k1, k2⟩, ⟨k3, k4⟩, k5, k6, k7, k8, ⟨f0, f1, f2, f3, f4, f5, f6⟩, kd⟩ : okLet (⟨m_lkind, m_src, m_dst, m_irep, m_islot, m_be, m_br, m_mkind, m_mclient, m_mseq, m_mkey, m_mfin, m_mold, m_mval, m_tseq, m_td0, m_td1, m_td2, m_td3, m_td4, m_td5, m_td6, m_lstatus, m_lpe, m_lpr, m_lve, m_lvr, m_lckind, m_lcclient, m_lcseq, m_lckey, m_lcfin, m_lcold, m_lcval, m_laseq, m_lad0, m_lad1, m_lad2, m_lad3, m_lad4, m_lad5, m_lad6, m_lsame, m_fd0, m_fd1, m_fd2, m_fd3, m_fd4, m_fd5, m_fd6, m_data⟩ : Letter) := hp0
    all_goals have b0 : isBn 0 [] := ⟨[], rfl, Nat.le_refl _⟩
    all_goals have b1 := (isBn.num b0 m_lkind)
    all_goals have b2 := (isBn.num b1 m_src)
    all_goals have b3 := (isBn.num b2 m_dst)
    all_goals have b4 := (isBn.num b3 m_fd0)
    all_goals have b5 := (isBn.num b4 m_fd1)
    all_goals have b6 := (isBn.num b5 m_fd2)
    all_goals have b7 := (isBn.num b6 m_fd3)
    all_goals have b8 := (isBn.num b7 m_fd4)
    all_goals have b9 := (isBn.num b8 m_fd5)
    all_goals have b10 := (isBn.num b9 m_fd6)
    all_goals first
      | (show Region.lexB _ _ = true; kernel_rfl)
      | exact k0
      | exact k1
      | exact k2
      | exact k3
      | exact k4
      | exact k5
      | exact k6
      | exact k7
      | exact k8
      | exact f0
      | exact f1
      | exact f2
      | exact f3
      | exact f4
      | exact f5
      | exact f6
      | (show szT _; unfold szT; exact Nat.le_trans kd (by decide))
      | exact b0.le (by omega)
      | exact b0.mono (by omega)
      | exact b1.le (by omega)
      | exact b1.mono (by omega)
      | exact b2.le (by omega)
      | exact b2.mono (by omega)
      | exact b3.le (by omega)
      | exact b3.mono (by omega)
      | exact b4.le (by omega)
      | exact b4.mono (by omega)
      | exact b5.le (by omega)
      | exact b5.mono (by omega)
      | exact b6.le (by omega)
      | exact b6.mono (by omega)
      | exact b7.le (by omega)
      | exact b7.mono (by omega)
      | exact b8.le (by omega)
      | exact b8.mono (by omega)
      | exact b9.le (by omega)
      | exact b9.mono (by omega)
      | exact b10.le (by omega)
      | exact b10.mono (by omega)
      | (simp only [A0]; intros; first | assumption | trivial | (simp_all; done))
      | (refine ret_v ?_ rfl
         show DV.d (.slc 1 _) = DV.d (.slc 1 (putLet (⟨m_lkind, m_src, m_dst, m_irep, m_islot, m_be, m_br, m_mkind, m_mclient, m_mseq, m_mkey, m_mfin, m_mold, m_mval, m_tseq, m_td0, m_td1, m_td2, m_td3, m_td4, m_td5, m_td6, m_lstatus, m_lpe, m_lpr, m_lve, m_lvr, m_lckind, m_lcclient, m_lcseq, m_lckey, m_lcfin, m_lcold, m_lcval, m_laseq, m_lad0, m_lad1, m_lad2, m_lad3, m_lad4, m_lad5, m_lad6, m_lsame, m_fd0, m_fd1, m_fd2, m_fd3, m_fd4, m_fd5, m_fd6, m_data⟩ : Letter)))
         have hn : (namedP m_lkind).1 = ⟨false, false, false, false, false, true, false⟩ := congrArg Prod.fst hP0
         unfold putLet
         rw [if_pos hr]
         show _ = DV.d (.slc 1 (putLX (⟨m_lkind, m_src, m_dst, m_irep, m_islot, m_be, m_br, m_mkind, m_mclient, m_mseq, m_mkey, m_mfin, m_mold, m_mval, m_tseq, m_td0, m_td1, m_td2, m_td3, m_td4, m_td5, m_td6, m_lstatus, m_lpe, m_lpr, m_lve, m_lvr, m_lckind, m_lcclient, m_lcseq, m_lckey, m_lcfin, m_lcold, m_lcval, m_laseq, m_lad0, m_lad1, m_lad2, m_lad3, m_lad4, m_lad5, m_lad6, m_lsame, m_fd0, m_fd1, m_fd2, m_fd3, m_fd4, m_fd5, m_fd6, m_data⟩ : Letter) (namedP m_lkind).1))
         rw [hn]
         rfl)
      | (simp; done)
      | exact ⟨by decide, by decide⟩
  · cbv at hP
    cbv
    simp only [hP]
    cbv
    repeat' first
      | (refine And.intro ?_ ?_)
    rotate_right 1
    · refine unrollL (T := fun _ => tabY [5003] []) (H := fun _ => [kn_rightL GFsL3, kn_named GFsL1, kn_num GFsQ, kn_ballotX GFsL4, kn_put GFs6, kn_dput GFsDq, kn_putCellX GFsL4, kn_text GFsQ]) (tabY_ok _ _) hH follows_mixed hA hX 1 fun R2 hR2 => ?_
      cbv
      refine hR2 _ _ _ ?_
      cbv
      repeat' first
        | (simp only [l0, l1, l2, l3, l4, l5, l6, l7, b0, b1, b2, b3, b4, b5, b6, o0_0, o0_1, o0_2, o0_3, o0_4, o0_5, o0_6, ott, otf, oft]; cbv)
        | (refine And.intro ?_ ?_)
        | (refine hR2 _ _ _ ?_; cbv)
      all_goals clear hR2
      all_goals clear hH
      all_goals subst hA hX hW hGFsL3 hGFsL1 hGFsQ hGFsL4 hGFs6 hGFsDq
      all_goals obtain ⟨⟨k0, k1, k2⟩, ⟨k3, k4⟩, k5, k6, k7, k8, ⟨f0, f1, f2, f3, f4, f5, f6⟩, kd⟩ : okLet (⟨m_lkind, m_src, m_dst, m_irep, m_islot, m_be, m_br, m_mkind, m_mclient, m_mseq, m_mkey, m_mfin, m_mold, m_mval, m_tseq, m_td0, m_td1, m_td2, m_td3, m_td4, m_td5, m_td6, m_lstatus, m_lpe, m_lpr, m_lve, m_lvr, m_lckind, m_lcclient, m_lcseq, m_lckey, m_lcfin, m_lcold, m_lcval, m_laseq, m_lad0, m_lad1, m_lad2, m_lad3, m_lad4, m_lad5, m_lad6, m_lsame, m_fd0, m_fd1, m_fd2, m_fd3, m_fd4, m_fd5, m_fd6, m_data⟩ : Letter) := hp0
      all_goals have b0 : isBn 0 [] := ⟨[], rfl, Nat.le_refl _⟩
      all_goals have b1 := (isBn.num b0 m_lkind)
      all_goals have b2 := (isBn.num b1 m_src)
      all_goals have b3 := (isBn.num b2 m_dst)
      all_goals first
        | (show Region.lexB _ _ = true; kernel_rfl)
        | exact k0
        | exact k1
        | exact k2
        | exact k3
        | exact k4
        | exact k5
        | exact k6
        | exact k7
        | exact k8
        | exact f0
        | exact f1
        | exact f2
        | exact f3
        | exact f4
        | exact f5
        | exact f6
        | (show szT _; unfold szT; exact Nat.le_trans kd (by decide))
        | exact b0.le (by omega)
        | exact b0.mono (by omega)
        | exact b1.le (by omega)
        | exact b1.mono (by omega)
        | exact b2.le (by omega)
        | exact b2.mono (by omega)
        | exact b3.le (by omega)
        | exact b3.mono (by omega)
        | (simp only [A0]; intros; first | assumption | trivial | (simp_all; done))
        | (refine ret_v ?_ rfl
           show DV.d (.slc 1 _) = DV.d (.slc 1 (putLet (⟨m_lkind, m_src, m_dst, m_irep, m_islot, m_be, m_br, m_mkind, m_mclient, m_mseq, m_mkey, m_mfin, m_mold, m_mval, m_tseq, m_td0, m_td1, m_td2, m_td3, m_td4, m_td5, m_td6, m_lstatus, m_lpe, m_lpr, m_lve, m_lvr, m_lckind, m_lcclient, m_lcseq, m_lckey, m_lcfin, m_lcold, m_lcval, m_laseq, m_lad0, m_lad1, m_lad2, m_lad3, m_lad4, m_lad5, m_lad6, m_lsame, m_fd0, m_fd1, m_fd2, m_fd3, m_fd4, m_fd5, m_fd6, m_data⟩ : Letter)))
           have hn : (namedP m_lkind).1 = ⟨false, false, false, false, false, false, true⟩ := congrArg Prod.fst hP0
           unfold putLet
           rw [if_pos hr]
           show _ = DV.d (.slc 1 (putLX (⟨m_lkind, m_src, m_dst, m_irep, m_islot, m_be, m_br, m_mkind, m_mclient, m_mseq, m_mkey, m_mfin, m_mold, m_mval, m_tseq, m_td0, m_td1, m_td2, m_td3, m_td4, m_td5, m_td6, m_lstatus, m_lpe, m_lpr, m_lve, m_lvr, m_lckind, m_lcclient, m_lcseq, m_lckey, m_lcfin, m_lcold, m_lcval, m_laseq, m_lad0, m_lad1, m_lad2, m_lad3, m_lad4, m_lad5, m_lad6, m_lsame, m_fd0, m_fd1, m_fd2, m_fd3, m_fd4, m_fd5, m_fd6, m_data⟩ : Letter) (namedP m_lkind).1))
           rw [hn]
           rfl)
        | (simp; done)
        | exact ⟨by decide, by decide⟩
    all_goals clear hH
    all_goals subst hA hX hW hGFsL3 hGFsL1 hGFsQ hGFsL4 hGFs6 hGFsDq
    all_goals obtain ⟨⟨k0, k1, k2⟩, ⟨k3, k4⟩, k5, k6, k7, k8, ⟨f0, f1, f2, f3, f4, f5, f6⟩, kd⟩ : okLet (⟨m_lkind, m_src, m_dst, m_irep, m_islot, m_be, m_br, m_mkind, m_mclient, m_mseq, m_mkey, m_mfin, m_mold, m_mval, m_tseq, m_td0, m_td1, m_td2, m_td3, m_td4, m_td5, m_td6, m_lstatus, m_lpe, m_lpr, m_lve, m_lvr, m_lckind, m_lcclient, m_lcseq, m_lckey, m_lcfin, m_lcold, m_lcval, m_laseq, m_lad0, m_lad1, m_lad2, m_lad3, m_lad4, m_lad5, m_lad6, m_lsame, m_fd0, m_fd1, m_fd2, m_fd3, m_fd4, m_fd5, m_fd6, m_data⟩ : Letter) := hp0
    all_goals have b0 : isBn 0 [] := ⟨[], rfl, Nat.le_refl _⟩
    all_goals have b1 := (isBn.num b0 m_lkind)
    all_goals have b2 := (isBn.num b1 m_src)
    all_goals have b3 := (isBn.num b2 m_dst)
    all_goals first
      | (show Region.lexB _ _ = true; kernel_rfl)
      | exact k0
      | exact k1
      | exact k2
      | exact k3
      | exact k4
      | exact k5
      | exact k6
      | exact k7
      | exact k8
      | exact f0
      | exact f1
      | exact f2
      | exact f3
      | exact f4
      | exact f5
      | exact f6
      | (show szT _; unfold szT; exact Nat.le_trans kd (by decide))
      | exact b0.le (by omega)
      | exact b0.mono (by omega)
      | exact b1.le (by omega)
      | exact b1.mono (by omega)
      | exact b2.le (by omega)
      | exact b2.mono (by omega)
      | exact b3.le (by omega)
      | exact b3.mono (by omega)
      | (simp only [A0]; intros; first | assumption | trivial | (simp_all; done))
      | (refine ret_v ?_ rfl
         show DV.d (.slc 1 _) = DV.d (.slc 1 (putLet (⟨m_lkind, m_src, m_dst, m_irep, m_islot, m_be, m_br, m_mkind, m_mclient, m_mseq, m_mkey, m_mfin, m_mold, m_mval, m_tseq, m_td0, m_td1, m_td2, m_td3, m_td4, m_td5, m_td6, m_lstatus, m_lpe, m_lpr, m_lve, m_lvr, m_lckind, m_lcclient, m_lcseq, m_lckey, m_lcfin, m_lcold, m_lcval, m_laseq, m_lad0, m_lad1, m_lad2, m_lad3, m_lad4, m_lad5, m_lad6, m_lsame, m_fd0, m_fd1, m_fd2, m_fd3, m_fd4, m_fd5, m_fd6, m_data⟩ : Letter)))
         have hn : (namedP m_lkind).1 = ⟨false, false, false, false, false, false, true⟩ := congrArg Prod.fst hP0
         unfold putLet
         rw [if_pos hr]
         show _ = DV.d (.slc 1 (putLX (⟨m_lkind, m_src, m_dst, m_irep, m_islot, m_be, m_br, m_mkind, m_mclient, m_mseq, m_mkey, m_mfin, m_mold, m_mval, m_tseq, m_td0, m_td1, m_td2, m_td3, m_td4, m_td5, m_td6, m_lstatus, m_lpe, m_lpr, m_lve, m_lvr, m_lckind, m_lcclient, m_lcseq, m_lckey, m_lcfin, m_lcold, m_lcval, m_laseq, m_lad0, m_lad1, m_lad2, m_lad3, m_lad4, m_lad5, m_lad6, m_lsame, m_fd0, m_fd1, m_fd2, m_fd3, m_fd4, m_fd5, m_fd6, m_data⟩ : Letter) (namedP m_lkind).1))
         rw [hn]
         rfl)
      | (simp; done)
      | exact ⟨by decide, by decide⟩
  · cbv at hP
    cbv
    simp only [hP]
    cbv
    repeat' first
      | (refine And.intro ?_ ?_)
    rotate_right 1
    · refine unrollL (T := fun _ => tabY [5003] []) (H := fun _ => [kn_rightL GFsL3, kn_named GFsL1, kn_num GFsQ, kn_ballotX GFsL4, kn_put GFs6, kn_dput GFsDq, kn_putCellX GFsL4, kn_text GFsQ]) (tabY_ok _ _) hH follows_mixed hA hX 1 fun R2 hR2 => ?_
      cbv
      refine hR2 _ _ _ ?_
      cbv
      repeat' first
        | (simp only [l0, l1, l2, l3, l4, l5, l6, l7, b0, b1, b2, b3, b4, b5, b6, o0_0, o0_1, o0_2, o0_3, o0_4, o0_5, o0_6, ott, otf, oft]; cbv)
        | (refine And.intro ?_ ?_)
        | (refine hR2 _ _ _ ?_; cbv)
      all_goals clear hR2
      all_goals clear hH
      all_goals subst hA hX hW hGFsL3 hGFsL1 hGFsQ hGFsL4 hGFs6 hGFsDq
      all_goals obtain ⟨⟨k0, k1, k2⟩, ⟨k3, k4⟩, k5, k6, k7, k8, ⟨f0, f1, f2, f3, f4, f5, f6⟩, kd⟩ : okLet (⟨m_lkind, m_src, m_dst, m_irep, m_islot, m_be, m_br, m_mkind, m_mclient, m_mseq, m_mkey, m_mfin, m_mold, m_mval, m_tseq, m_td0, m_td1, m_td2, m_td3, m_td4, m_td5, m_td6, m_lstatus, m_lpe, m_lpr, m_lve, m_lvr, m_lckind, m_lcclient, m_lcseq, m_lckey, m_lcfin, m_lcold, m_lcval, m_laseq, m_lad0, m_lad1, m_lad2, m_lad3, m_lad4, m_lad5, m_lad6, m_lsame, m_fd0, m_fd1, m_fd2, m_fd3, m_fd4, m_fd5, m_fd6, m_data⟩ : Letter) := hp0
      all_goals have b0 : isBn 0 [] := ⟨[], rfl, Nat.le_refl _⟩
      all_goals have b1 := (isBn.num b0 m_lkind)
      all_goals have b2 := (isBn.num b1 m_src)
      all_goals have b3 := (isBn.num b2 m_dst)
      all_goals first
        | (show Region.lexB _ _ = true; kernel_rfl)
        | exact k0
        | exact k1
        | exact k2
        | exact k3
        | exact k4
        | exact k5
        | exact k6
        | exact k7
        | exact k8
        | exact f0
        | exact f1
        | exact f2
        | exact f3
        | exact f4
        | exact f5
        | exact f6
        | (show szT _; unfold szT; exact Nat.le_trans kd (by decide))
        | exact b0.le (by omega)
        | exact b0.mono (by omega)
        | exact b1.le (by omega)
        | exact b1.mono (by omega)
        | exact b2.le (by omega)
        | exact b2.mono (by omega)
        | exact b3.le (by omega)
        | exact b3.mono (by omega)
        | (simp only [A0]; intros; first | assumption | trivial | (simp_all; done))
        | (refine ret_v ?_ rfl
           show DV.d (.slc 1 _) = DV.d (.slc 1 (putLet (⟨m_lkind, m_src, m_dst, m_irep, m_islot, m_be, m_br, m_mkind, m_mclient, m_mseq, m_mkey, m_mfin, m_mold, m_mval, m_tseq, m_td0, m_td1, m_td2, m_td3, m_td4, m_td5, m_td6, m_lstatus, m_lpe, m_lpr, m_lve, m_lvr, m_lckind, m_lcclient, m_lcseq, m_lckey, m_lcfin, m_lcold, m_lcval, m_laseq, m_lad0, m_lad1, m_lad2, m_lad3, m_lad4, m_lad5, m_lad6, m_lsame, m_fd0, m_fd1, m_fd2, m_fd3, m_fd4, m_fd5, m_fd6, m_data⟩ : Letter)))
           have hn : (namedP m_lkind).1 = ⟨false, false, false, false, false, false, false⟩ := congrArg Prod.fst hP0
           unfold putLet
           rw [if_pos hr]
           show _ = DV.d (.slc 1 (putLX (⟨m_lkind, m_src, m_dst, m_irep, m_islot, m_be, m_br, m_mkind, m_mclient, m_mseq, m_mkey, m_mfin, m_mold, m_mval, m_tseq, m_td0, m_td1, m_td2, m_td3, m_td4, m_td5, m_td6, m_lstatus, m_lpe, m_lpr, m_lve, m_lvr, m_lckind, m_lcclient, m_lcseq, m_lckey, m_lcfin, m_lcold, m_lcval, m_laseq, m_lad0, m_lad1, m_lad2, m_lad3, m_lad4, m_lad5, m_lad6, m_lsame, m_fd0, m_fd1, m_fd2, m_fd3, m_fd4, m_fd5, m_fd6, m_data⟩ : Letter) (namedP m_lkind).1))
           rw [hn]
           rfl)
        | (simp; done)
        | exact ⟨by decide, by decide⟩
    all_goals clear hH
    all_goals subst hA hX hW hGFsL3 hGFsL1 hGFsQ hGFsL4 hGFs6 hGFsDq
    all_goals obtain ⟨⟨k0, k1, k2⟩, ⟨k3, k4⟩, k5, k6, k7, k8, ⟨f0, f1, f2, f3, f4, f5, f6⟩, kd⟩ : okLet (⟨m_lkind, m_src, m_dst, m_irep, m_islot, m_be, m_br, m_mkind, m_mclient, m_mseq, m_mkey, m_mfin, m_mold, m_mval, m_tseq, m_td0, m_td1, m_td2, m_td3, m_td4, m_td5, m_td6, m_lstatus, m_lpe, m_lpr, m_lve, m_lvr, m_lckind, m_lcclient, m_lcseq, m_lckey, m_lcfin, m_lcold, m_lcval, m_laseq, m_lad0, m_lad1, m_lad2, m_lad3, m_lad4, m_lad5, m_lad6, m_lsame, m_fd0, m_fd1, m_fd2, m_fd3, m_fd4, m_fd5, m_fd6, m_data⟩ : Letter) := hp0
    all_goals have b0 : isBn 0 [] := ⟨[], rfl, Nat.le_refl _⟩
    all_goals have b1 := (isBn.num b0 m_lkind)
    all_goals have b2 := (isBn.num b1 m_src)
    all_goals have b3 := (isBn.num b2 m_dst)
    all_goals first
      | (show Region.lexB _ _ = true; kernel_rfl)
      | exact k0
      | exact k1
      | exact k2
      | exact k3
      | exact k4
      | exact k5
      | exact k6
      | exact k7
      | exact k8
      | exact f0
      | exact f1
      | exact f2
      | exact f3
      | exact f4
      | exact f5
      | exact f6
      | (show szT _; unfold szT; exact Nat.le_trans kd (by decide))
      | exact b0.le (by omega)
      | exact b0.mono (by omega)
      | exact b1.le (by omega)
      | exact b1.mono (by omega)
      | exact b2.le (by omega)
      | exact b2.mono (by omega)
      | exact b3.le (by omega)
      | exact b3.mono (by omega)
      | (simp only [A0]; intros; first | assumption | trivial | (simp_all; done))
      | (refine ret_v ?_ rfl
         show DV.d (.slc 1 _) = DV.d (.slc 1 (putLet (⟨m_lkind, m_src, m_dst, m_irep, m_islot, m_be, m_br, m_mkind, m_mclient, m_mseq, m_mkey, m_mfin, m_mold, m_mval, m_tseq, m_td0, m_td1, m_td2, m_td3, m_td4, m_td5, m_td6, m_lstatus, m_lpe, m_lpr, m_lve, m_lvr, m_lckind, m_lcclient, m_lcseq, m_lckey, m_lcfin, m_lcold, m_lcval, m_laseq, m_lad0, m_lad1, m_lad2, m_lad3, m_lad4, m_lad5, m_lad6, m_lsame, m_fd0, m_fd1, m_fd2, m_fd3, m_fd4, m_fd5, m_fd6, m_data⟩ : Letter)))
         have hn : (namedP m_lkind).1 = ⟨false, false, false, false, false, false, false⟩ := congrArg Prod.fst hP0
         unfold putLet
         rw [if_pos hr]
         show _ = DV.d (.slc 1 (putLX (⟨m_lkind, m_src, m_dst, m_irep, m_islot, m_be, m_br, m_mkind, m_mclient, m_mseq, m_mkey, m_mfin, m_mold, m_mval, m_tseq, m_td0, m_td1, m_td2, m_td3, m_td4, m_td5, m_td6, m_lstatus, m_lpe, m_lpr, m_lve, m_lvr, m_lckind, m_lcclient, m_lcseq, m_lckey, m_lcfin, m_lcold, m_lcval, m_laseq, m_lad0, m_lad1, m_lad2, m_lad3, m_lad4, m_lad5, m_lad6, m_lsame, m_fd0, m_fd1, m_fd2, m_fd3, m_fd4, m_fd5, m_fd6, m_data⟩ : Letter) (namedP m_lkind).1))
         rw [hn]
         rfl)
      | (simp; done)
      | exact ⟨by decide, by decide⟩

end Go.Proofs.Ytbhapclaochcnaa
