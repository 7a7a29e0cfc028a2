/- The document's letters as bytes. No condition. -/
import Derived.Test.YtbhapclaochcnaaLeM2
namespace Go.Proofs.Ytbhapclaochcnaa
open Go.RowKit
set_option linter.all false
set_option maxHeartbeats 8000000

set_option maxRecDepth 100000 in
theorem v_pl1 (m : Letter) (hp0 : okLet m) (hr : rightL m = true) (e : m.lkind = 1) : FnV Try.prog 18 [m.D] (.d (.slc 1 (putLet m))) := by
  obtain ⟨m_lkind, m_src, m_dst, m_irep, m_islot, m_be, m_br, m_mkind, m_mclient, m_mseq, m_mkey, m_mfin, m_mold, m_mval, m_tseq, m_td0, m_td1, m_td2, m_td3, m_td4, m_td5, m_td6, m_lstatus, m_lpe, m_lpr, m_lve, m_lvr, m_lckind, m_lcclient, m_lcseq, m_lckey, m_lcfin, m_lcold, m_lcval, m_laseq, m_lad0, m_lad1, m_lad2, m_lad3, m_lad4, m_lad5, m_lad6, m_lsame, m_fd0, m_fd1, m_fd2, m_fd3, m_fd4, m_fd5, m_fd6, m_data⟩ := m
  replace e : m_lkind = 1 := e
  subst e
  have hrp := rightL_parts hr
  obtain ⟨GFsR5, hGFsR5⟩ : ∃ F, F = FsR50 := ⟨_, rfl⟩
  obtain ⟨GFsW, hGFsW⟩ : ∃ F, F = FsW0 := ⟨_, rfl⟩
  obtain ⟨GFsR6, hGFsR6⟩ : ∃ F, F = FsR60 := ⟨_, rfl⟩
  have hH : SoundK Try.prog [kn_rightL2 GFsR5, kn_rnum GFsW, kn_inst2 GFsR6, kn_ballot2 GFsR6, kn_cmd2 GFsR6, kn_attr2 GFsR6, kn_putCell2 GFsR6, kn_rtext GFsW] := by subst hGFsR5 hGFsW hGFsR6; exact orK_ok ok_rightL2 (orK_ok ok_rnum (orK_ok ok_inst2 (orK_ok ok_ballot2 (orK_ok ok_cmd2 (orK_ok ok_attr2 (orK_ok ok_putCell2 (orK_ok ok_rtext noK_ok)))))))
  refine FnD_cbv (T := fun _ => tabY [5003] []) (H := fun _ => [kn_rightL2 GFsR5, kn_rnum GFsW, kn_inst2 GFsR6, kn_ballot2 GFsR6, kn_cmd2 GFsR6, kn_attr2 GFsR6, kn_putCell2 GFsR6, kn_rtext GFsW]) (tabY_ok _ _) hH follows_mixed Try.func18 rfl Try.ntmps18 (by simp) fun A X W hA hX hW => ?_
  cbv
  have l0 : A.cmp .lss 0 7 = true := by subst hA; rfl
  cbv at l0
  have l1 : A.cmp .lss 1 7 = true := by subst hA; rfl
  cbv at l1
  have l2 : A.cmp .lss 2 7 = true := by subst hA; rfl
  cbv at l2
  have l3 : A.cmp .lss 3 7 = true := by subst hA; rfl
  cbv at l3
  have l4 : A.cmp .lss 4 7 = true := by subst hA; rfl
  cbv at l4
  have l5 : A.cmp .lss 5 7 = true := by subst hA; rfl
  cbv at l5
  have l6 : A.cmp .lss 6 7 = true := by subst hA; rfl
  cbv at l6
  have l7 : A.cmp .lss 7 7 = false := by subst hA; rfl
  cbv at l7
  have b0 : A.bin .add .i64 0 1 = 1 := by subst hA; rfl
  cbv at b0
  have b1 : A.bin .add .i64 1 1 = 2 := by subst hA; rfl
  cbv at b1
  have b2 : A.bin .add .i64 2 1 = 3 := by subst hA; rfl
  cbv at b2
  have b3 : A.bin .add .i64 3 1 = 4 := by subst hA; rfl
  cbv at b3
  have b4 : A.bin .add .i64 4 1 = 5 := by subst hA; rfl
  cbv at b4
  have b5 : A.bin .add .i64 5 1 = 6 := by subst hA; rfl
  cbv at b5
  have b6 : A.bin .add .i64 6 1 = 7 := by subst hA; rfl
  cbv at b6
  have o0_0 : A.off 0 0 1 = 0 := by subst hA; rfl
  cbv at o0_0
  have o0_1 : A.off 0 1 1 = 1 := by subst hA; rfl
  cbv at o0_1
  have o0_2 : A.off 0 2 1 = 2 := by subst hA; rfl
  cbv at o0_2
  have o0_3 : A.off 0 3 1 = 3 := by subst hA; rfl
  cbv at o0_3
  have o0_4 : A.off 0 4 1 = 4 := by subst hA; rfl
  cbv at o0_4
  have o0_5 : A.off 0 5 1 = 5 := by subst hA; rfl
  cbv at o0_5
  have o0_6 : A.off 0 6 1 = 6 := by subst hA; rfl
  cbv at o0_6
  have hq : GFsR5.rightL2 (⟨1, m_src, m_dst, m_irep, m_islot, m_be, m_br, m_mkind, m_mclient, m_mseq, m_mkey, m_mfin, m_mold, m_mval, m_tseq, m_td0, m_td1, m_td2, m_td3, m_td4, m_td5, m_td6, m_lstatus, m_lpe, m_lpr, m_lve, m_lvr, m_lckind, m_lcclient, m_lcseq, m_lckey, m_lcfin, m_lcold, m_lcval, m_laseq, m_lad0, m_lad1, m_lad2, m_lad3, m_lad4, m_lad5, m_lad6, m_lsame, m_fd0, m_fd1, m_fd2, m_fd3, m_fd4, m_fd5, m_fd6, m_data⟩ : Letter) = true := by subst hGFsR5; exact hr
  have nt : A.not true = false := by subst hA; rfl
  cbv at hq nt
  have f1 : A.cmp .lss 1 1 = false := by subst hA; rfl
  have f2 : A.cmp .gtr 1 11 = false := by subst hA; rfl
  have f3 : A.cmp .lss 1 9 = true := by subst hA; rfl
  have f4 : A.cmp .neq 1 5 = true := by subst hA; rfl
  have g0 : A.cmp .eql 1 1 = true := by subst hA; rfl
  have g1 : A.cmp .eql 1 3 = false := by subst hA; rfl
  have g2 : A.cmp .eql 1 5 = false := by subst hA; rfl
  have g3 : A.cmp .eql 1 2 = false := by subst hA; rfl
  have g4 : A.cmp .eql 1 7 = false := by subst hA; rfl
  have g5 : A.cmp .eql 1 9 = false := by subst hA; rfl
  have g6 : A.cmp .eql 1 11 = false := by subst hA; rfl
  have g7 : A.cmp .eql 1 10 = false := by subst hA; rfl
  have ftf : A.cond false true false = false := by subst hA; rfl
  have fff : A.cond false false false = false := by subst hA; rfl
  cbv at f1 f2 f3 f4 g0 g1 g2 g3 g4 g5 g6 g7 ftf fff
  repeat' first
    | (simp only [hq, nt, f1, f2, f3, f4, g0, g1, g2, g3, g4, g5, g6, g7, ftf, fff, l0, l1, l2, l3, l4, l5, l6, l7, b0, b1, b2, b3, b4, b5, b6, o0_0, o0_1, o0_2, o0_3, o0_4, o0_5, o0_6]; cbv)
    | (refine And.intro ?_ ?_)
  all_goals clear hH
  all_goals subst hA hX hW hGFsR5 hGFsW hGFsR6
  all_goals obtain ⟨⟨k0, k1, k2⟩, ⟨k3, k4⟩, k5, k6, k7, k8, ⟨f0, f1, f2, f3, f4, f5, f6⟩, kd⟩ : okLet (⟨1, m_src, m_dst, m_irep, m_islot, m_be, m_br, m_mkind, m_mclient, m_mseq, m_mkey, m_mfin, m_mold, m_mval, m_tseq, m_td0, m_td1, m_td2, m_td3, m_td4, m_td5, m_td6, m_lstatus, m_lpe, m_lpr, m_lve, m_lvr, m_lckind, m_lcclient, m_lcseq, m_lckey, m_lcfin, m_lcold, m_lcval, m_laseq, m_lad0, m_lad1, m_lad2, m_lad3, m_lad4, m_lad5, m_lad6, m_lsame, m_fd0, m_fd1, m_fd2, m_fd3, m_fd4, m_fd5, m_fd6, m_data⟩ : Letter) := hp0
  all_goals have b0 : isBn 0 [] := ⟨[], rfl, Nat.le_refl _⟩
  all_goals have b1 := (isBn.num b0 1)
  all_goals have b2 := (isBn.num b1 m_src)
  all_goals have b3 := (isBn.num b2 m_dst)
  all_goals have b4 := (isBn.num b3 m_irep)
  all_goals have b5 := (isBn.num b4 m_islot)
  all_goals have b6 := (isBn.ballot b5 ⟨m_be, m_br⟩)
  all_goals have b7 := (isBn.cmdX b6 hrp.1)
  all_goals have b8 := (isBn.dput b7 ⟨m_tseq, m_td0, m_td1, m_td2, m_td3, m_td4, m_td5, m_td6⟩)
  all_goals first
    | (show Region.lexB _ _ = true; kernel_rfl)
    | exact k0
    | exact k1
    | exact k2
    | exact ⟨k3, k4⟩
    | exact k5
    | exact k6
    | exact k7
    | exact k8
    | exact f0
    | exact f1
    | exact f2
    | exact f3
    | exact f4
    | exact f5
    | exact f6
    | exact hrp.2.2
    | (show szT _; unfold szT; exact Nat.le_trans kd (by decide))
    | exact b0.le (by omega)
    | exact b0.mono (by omega)
    | exact b1.le (by omega)
    | exact b1.mono (by omega)
    | exact b2.le (by omega)
    | exact b2.mono (by omega)
    | exact b3.le (by omega)
    | exact b3.mono (by omega)
    | exact b4.le (by omega)
    | exact b4.mono (by omega)
    | exact b5.le (by omega)
    | exact b5.mono (by omega)
    | exact b6.le (by omega)
    | exact b6.mono (by omega)
    | exact b7.le (by omega)
    | exact b7.mono (by omega)
    | exact b8.le (by omega)
    | exact b8.mono (by omega)
    | (simp only [hq, nt, A0]; intros; first | assumption | trivial | (simp_all; done))
    | (have hc : rightC ⟨m_mkind, m_mclient, m_mseq, m_mkey, m_mfin, m_mold, m_mval⟩ = true := hrp.1
       have hl : rightCell ⟨m_lstatus, m_lpe, m_lpr, m_lve, m_lvr, m_lckind, m_lcclient, m_lcseq, m_lckey, m_lcfin, m_lcold, m_lcval, m_laseq, m_lad0, m_lad1, m_lad2, m_lad3, m_lad4, m_lad5, m_lad6, m_lsame⟩ = true := hrp.2.2
       refine ret_v ?_ rfl
       show DV.d (.slc 1 _) = DV.d (.slc 1 (putLet (⟨1, m_src, m_dst, m_irep, m_islot, m_be, m_br, m_mkind, m_mclient, m_mseq, m_mkey, m_mfin, m_mold, m_mval, m_tseq, m_td0, m_td1, m_td2, m_td3, m_td4, m_td5, m_td6, m_lstatus, m_lpe, m_lpr, m_lve, m_lvr, m_lckind, m_lcclient, m_lcseq, m_lckey, m_lcfin, m_lcold, m_lcval, m_laseq, m_lad0, m_lad1, m_lad2, m_lad3, m_lad4, m_lad5, m_lad6, m_lsame, m_fd0, m_fd1, m_fd2, m_fd3, m_fd4, m_fd5, m_fd6, m_data⟩ : Letter)))
       unfold putLet
       rw [if_pos hr]
       try simp only [A0, nc, FsR50, FsW0, FsR60, cmdX_put hc, putCellM_eq hl]
       rfl)
    | (simp; done)
    | exact ⟨by decide, by decide⟩
set_option maxRecDepth 100000 in
theorem v_pl2 (m : Letter) (hp0 : okLet m) (hr : rightL m = true) (e : m.lkind = 2) : FnV Try.prog 18 [m.D] (.d (.slc 1 (putLet m))) := by
  obtain ⟨m_lkind, m_src, m_dst, m_irep, m_islot, m_be, m_br, m_mkind, m_mclient, m_mseq, m_mkey, m_mfin, m_mold, m_mval, m_tseq, m_td0, m_td1, m_td2, m_td3, m_td4, m_td5, m_td6, m_lstatus, m_lpe, m_lpr, m_lve, m_lvr, m_lckind, m_lcclient, m_lcseq, m_lckey, m_lcfin, m_lcold, m_lcval, m_laseq, m_lad0, m_lad1, m_lad2, m_lad3, m_lad4, m_lad5, m_lad6, m_lsame, m_fd0, m_fd1, m_fd2, m_fd3, m_fd4, m_fd5, m_fd6, m_data⟩ := m
  replace e : m_lkind = 2 := e
  subst e
  have hrp := rightL_parts hr
  obtain ⟨GFsR5, hGFsR5⟩ : ∃ F, F = FsR50 := ⟨_, rfl⟩
  obtain ⟨GFsW, hGFsW⟩ : ∃ F, F = FsW0 := ⟨_, rfl⟩
  obtain ⟨GFsR6, hGFsR6⟩ : ∃ F, F = FsR60 := ⟨_, rfl⟩
  have hH : SoundK Try.prog [kn_rightL2 GFsR5, kn_rnum GFsW, kn_inst2 GFsR6, kn_ballot2 GFsR6, kn_cmd2 GFsR6, kn_attr2 GFsR6, kn_putCell2 GFsR6, kn_rtext GFsW] := by subst hGFsR5 hGFsW hGFsR6; exact orK_ok ok_rightL2 (orK_ok ok_rnum (orK_ok ok_inst2 (orK_ok ok_ballot2 (orK_ok ok_cmd2 (orK_ok ok_attr2 (orK_ok ok_putCell2 (orK_ok ok_rtext noK_ok)))))))
  refine FnD_cbv (T := fun _ => tabY [5003] []) (H := fun _ => [kn_rightL2 GFsR5, kn_rnum GFsW, kn_inst2 GFsR6, kn_ballot2 GFsR6, kn_cmd2 GFsR6, kn_attr2 GFsR6, kn_putCell2 GFsR6, kn_rtext GFsW]) (tabY_ok _ _) hH follows_mixed Try.func18 rfl Try.ntmps18 (by simp) fun A X W hA hX hW => ?_
  cbv
  have l0 : A.cmp .lss 0 7 = true := by subst hA; rfl
  cbv at l0
  have l1 : A.cmp .lss 1 7 = true := by subst hA; rfl
  cbv at l1
  have l2 : A.cmp .lss 2 7 = true := by subst hA; rfl
  cbv at l2
  have l3 : A.cmp .lss 3 7 = true := by subst hA; rfl
  cbv at l3
  have l4 : A.cmp .lss 4 7 = true := by subst hA; rfl
  cbv at l4
  have l5 : A.cmp .lss 5 7 = true := by subst hA; rfl
  cbv at l5
  have l6 : A.cmp .lss 6 7 = true := by subst hA; rfl
  cbv at l6
  have l7 : A.cmp .lss 7 7 = false := by subst hA; rfl
  cbv at l7
  have b0 : A.bin .add .i64 0 1 = 1 := by subst hA; rfl
  cbv at b0
  have b1 : A.bin .add .i64 1 1 = 2 := by subst hA; rfl
  cbv at b1
  have b2 : A.bin .add .i64 2 1 = 3 := by subst hA; rfl
  cbv at b2
  have b3 : A.bin .add .i64 3 1 = 4 := by subst hA; rfl
  cbv at b3
  have b4 : A.bin .add .i64 4 1 = 5 := by subst hA; rfl
  cbv at b4
  have b5 : A.bin .add .i64 5 1 = 6 := by subst hA; rfl
  cbv at b5
  have b6 : A.bin .add .i64 6 1 = 7 := by subst hA; rfl
  cbv at b6
  have o0_0 : A.off 0 0 1 = 0 := by subst hA; rfl
  cbv at o0_0
  have o0_1 : A.off 0 1 1 = 1 := by subst hA; rfl
  cbv at o0_1
  have o0_2 : A.off 0 2 1 = 2 := by subst hA; rfl
  cbv at o0_2
  have o0_3 : A.off 0 3 1 = 3 := by subst hA; rfl
  cbv at o0_3
  have o0_4 : A.off 0 4 1 = 4 := by subst hA; rfl
  cbv at o0_4
  have o0_5 : A.off 0 5 1 = 5 := by subst hA; rfl
  cbv at o0_5
  have o0_6 : A.off 0 6 1 = 6 := by subst hA; rfl
  cbv at o0_6
  have hq : GFsR5.rightL2 (⟨2, m_src, m_dst, m_irep, m_islot, m_be, m_br, m_mkind, m_mclient, m_mseq, m_mkey, m_mfin, m_mold, m_mval, m_tseq, m_td0, m_td1, m_td2, m_td3, m_td4, m_td5, m_td6, m_lstatus, m_lpe, m_lpr, m_lve, m_lvr, m_lckind, m_lcclient, m_lcseq, m_lckey, m_lcfin, m_lcold, m_lcval, m_laseq, m_lad0, m_lad1, m_lad2, m_lad3, m_lad4, m_lad5, m_lad6, m_lsame, m_fd0, m_fd1, m_fd2, m_fd3, m_fd4, m_fd5, m_fd6, m_data⟩ : Letter) = true := by subst hGFsR5; exact hr
  have nt : A.not true = false := by subst hA; rfl
  cbv at hq nt
  have f1 : A.cmp .lss 2 1 = false := by subst hA; rfl
  have f2 : A.cmp .gtr 2 11 = false := by subst hA; rfl
  have f3 : A.cmp .lss 2 9 = true := by subst hA; rfl
  have f4 : A.cmp .neq 2 5 = true := by subst hA; rfl
  have g0 : A.cmp .eql 2 1 = false := by subst hA; rfl
  have g1 : A.cmp .eql 2 3 = false := by subst hA; rfl
  have g2 : A.cmp .eql 2 5 = false := by subst hA; rfl
  have g3 : A.cmp .eql 2 2 = true := by subst hA; rfl
  have g4 : A.cmp .eql 2 7 = false := by subst hA; rfl
  have g5 : A.cmp .eql 2 9 = false := by subst hA; rfl
  have g6 : A.cmp .eql 2 11 = false := by subst hA; rfl
  have g7 : A.cmp .eql 2 10 = false := by subst hA; rfl
  have ftf : A.cond false true false = false := by subst hA; rfl
  have fff : A.cond false false false = false := by subst hA; rfl
  cbv at f1 f2 f3 f4 g0 g1 g2 g3 g4 g5 g6 g7 ftf fff
  repeat' first
    | (simp only [hq, nt, f1, f2, f3, f4, g0, g1, g2, g3, g4, g5, g6, g7, ftf, fff, l0, l1, l2, l3, l4, l5, l6, l7, b0, b1, b2, b3, b4, b5, b6, o0_0, o0_1, o0_2, o0_3, o0_4, o0_5, o0_6]; cbv)
    | (refine And.intro ?_ ?_)
  all_goals clear hH
  all_goals subst hA hX hW hGFsR5 hGFsW hGFsR6
  all_goals obtain ⟨⟨k0, k1, k2⟩, ⟨k3, k4⟩, k5, k6, k7, k8, ⟨f0, f1, f2, f3, f4, f5, f6⟩, kd⟩ : okLet (⟨2, m_src, m_dst, m_irep, m_islot, m_be, m_br, m_mkind, m_mclient, m_mseq, m_mkey, m_mfin, m_mold, m_mval, m_tseq, m_td0, m_td1, m_td2, m_td3, m_td4, m_td5, m_td6, m_lstatus, m_lpe, m_lpr, m_lve, m_lvr, m_lckind, m_lcclient, m_lcseq, m_lckey, m_lcfin, m_lcold, m_lcval, m_laseq, m_lad0, m_lad1, m_lad2, m_lad3, m_lad4, m_lad5, m_lad6, m_lsame, m_fd0, m_fd1, m_fd2, m_fd3, m_fd4, m_fd5, m_fd6, m_data⟩ : Letter) := hp0
  all_goals have b0 : isBn 0 [] := ⟨[], rfl, Nat.le_refl _⟩
  all_goals have b1 := (isBn.num b0 2)
  all_goals have b2 := (isBn.num b1 m_src)
  all_goals have b3 := (isBn.num b2 m_dst)
  all_goals have b4 := (isBn.num b3 m_irep)
  all_goals have b5 := (isBn.num b4 m_islot)
  all_goals have b6 := (isBn.ballot b5 ⟨m_be, m_br⟩)
  all_goals have b7 := (isBn.dput b6 ⟨m_tseq, m_td0, m_td1, m_td2, m_td3, m_td4, m_td5, m_td6⟩)
  all_goals first
    | (show Region.lexB _ _ = true; kernel_rfl)
    | exact k0
    | exact k1
    | exact k2
    | exact ⟨k3, k4⟩
    | exact k5
    | exact k6
    | exact k7
    | exact k8
    | exact f0
    | exact f1
    | exact f2
    | exact f3
    | exact f4
    | exact f5
    | exact f6
    | exact hrp.2.2
    | (show szT _; unfold szT; exact Nat.le_trans kd (by decide))
    | exact b0.le (by omega)
    | exact b0.mono (by omega)
    | exact b1.le (by omega)
    | exact b1.mono (by omega)
    | exact b2.le (by omega)
    | exact b2.mono (by omega)
    | exact b3.le (by omega)
    | exact b3.mono (by omega)
    | exact b4.le (by omega)
    | exact b4.mono (by omega)
    | exact b5.le (by omega)
    | exact b5.mono (by omega)
    | exact b6.le (by omega)
    | exact b6.mono (by omega)
    | exact b7.le (by omega)
    | exact b7.mono (by omega)
    | (simp only [hq, nt, A0]; intros; first | assumption | trivial | (simp_all; done))
    | (have hc : rightC ⟨m_mkind, m_mclient, m_mseq, m_mkey, m_mfin, m_mold, m_mval⟩ = true := hrp.1
       have hl : rightCell ⟨m_lstatus, m_lpe, m_lpr, m_lve, m_lvr, m_lckind, m_lcclient, m_lcseq, m_lckey, m_lcfin, m_lcold, m_lcval, m_laseq, m_lad0, m_lad1, m_lad2, m_lad3, m_lad4, m_lad5, m_lad6, m_lsame⟩ = true := hrp.2.2
       refine ret_v ?_ rfl
       show DV.d (.slc 1 _) = DV.d (.slc 1 (putLet (⟨2, m_src, m_dst, m_irep, m_islot, m_be, m_br, m_mkind, m_mclient, m_mseq, m_mkey, m_mfin, m_mold, m_mval, m_tseq, m_td0, m_td1, m_td2, m_td3, m_td4, m_td5, m_td6, m_lstatus, m_lpe, m_lpr, m_lve, m_lvr, m_lckind, m_lcclient, m_lcseq, m_lckey, m_lcfin, m_lcold, m_lcval, m_laseq, m_lad0, m_lad1, m_lad2, m_lad3, m_lad4, m_lad5, m_lad6, m_lsame, m_fd0, m_fd1, m_fd2, m_fd3, m_fd4, m_fd5, m_fd6, m_data⟩ : Letter)))
       unfold putLet
       rw [if_pos hr]
       try simp only [A0, nc, FsR50, FsW0, FsR60, cmdX_put hc, putCellM_eq hl]
       rfl)
    | (simp; done)
    | exact ⟨by decide, by decide⟩
set_option maxRecDepth 100000 in
theorem v_pl3 (m : Letter) (hp0 : okLet m) (hr : rightL m = true) (e : m.lkind = 3) : FnV Try.prog 18 [m.D] (.d (.slc 1 (putLet m))) := by
  obtain ⟨m_lkind, m_src, m_dst, m_irep, m_islot, m_be, m_br, m_mkind, m_mclient, m_mseq, m_mkey, m_mfin, m_mold, m_mval, m_tseq, m_td0, m_td1, m_td2, m_td3, m_td4, m_td5, m_td6, m_lstatus, m_lpe, m_lpr, m_lve, m_lvr, m_lckind, m_lcclient, m_lcseq, m_lckey, m_lcfin, m_lcold, m_lcval, m_laseq, m_lad0, m_lad1, m_lad2, m_lad3, m_lad4, m_lad5, m_lad6, m_lsame, m_fd0, m_fd1, m_fd2, m_fd3, m_fd4, m_fd5, m_fd6, m_data⟩ := m
  replace e : m_lkind = 3 := e
  subst e
  have hrp := rightL_parts hr
  obtain ⟨GFsR5, hGFsR5⟩ : ∃ F, F = FsR50 := ⟨_, rfl⟩
  obtain ⟨GFsW, hGFsW⟩ : ∃ F, F = FsW0 := ⟨_, rfl⟩
  obtain ⟨GFsR6, hGFsR6⟩ : ∃ F, F = FsR60 := ⟨_, rfl⟩
  have hH : SoundK Try.prog [kn_rightL2 GFsR5, kn_rnum GFsW, kn_inst2 GFsR6, kn_ballot2 GFsR6, kn_cmd2 GFsR6, kn_attr2 GFsR6, kn_putCell2 GFsR6, kn_rtext GFsW] := by subst hGFsR5 hGFsW hGFsR6; exact orK_ok ok_rightL2 (orK_ok ok_rnum (orK_ok ok_inst2 (orK_ok ok_ballot2 (orK_ok ok_cmd2 (orK_ok ok_attr2 (orK_ok ok_putCell2 (orK_ok ok_rtext noK_ok)))))))
  refine FnD_cbv (T := fun _ => tabY [5003] []) (H := fun _ => [kn_rightL2 GFsR5, kn_rnum GFsW, kn_inst2 GFsR6, kn_ballot2 GFsR6, kn_cmd2 GFsR6, kn_attr2 GFsR6, kn_putCell2 GFsR6, kn_rtext GFsW]) (tabY_ok _ _) hH follows_mixed Try.func18 rfl Try.ntmps18 (by simp) fun A X W hA hX hW => ?_
  cbv
  have l0 : A.cmp .lss 0 7 = true := by subst hA; rfl
  cbv at l0
  have l1 : A.cmp .lss 1 7 = true := by subst hA; rfl
  cbv at l1
  have l2 : A.cmp .lss 2 7 = true := by subst hA; rfl
  cbv at l2
  have l3 : A.cmp .lss 3 7 = true := by subst hA; rfl
  cbv at l3
  have l4 : A.cmp .lss 4 7 = true := by subst hA; rfl
  cbv at l4
  have l5 : A.cmp .lss 5 7 = true := by subst hA; rfl
  cbv at l5
  have l6 : A.cmp .lss 6 7 = true := by subst hA; rfl
  cbv at l6
  have l7 : A.cmp .lss 7 7 = false := by subst hA; rfl
  cbv at l7
  have b0 : A.bin .add .i64 0 1 = 1 := by subst hA; rfl
  cbv at b0
  have b1 : A.bin .add .i64 1 1 = 2 := by subst hA; rfl
  cbv at b1
  have b2 : A.bin .add .i64 2 1 = 3 := by subst hA; rfl
  cbv at b2
  have b3 : A.bin .add .i64 3 1 = 4 := by subst hA; rfl
  cbv at b3
  have b4 : A.bin .add .i64 4 1 = 5 := by subst hA; rfl
  cbv at b4
  have b5 : A.bin .add .i64 5 1 = 6 := by subst hA; rfl
  cbv at b5
  have b6 : A.bin .add .i64 6 1 = 7 := by subst hA; rfl
  cbv at b6
  have o0_0 : A.off 0 0 1 = 0 := by subst hA; rfl
  cbv at o0_0
  have o0_1 : A.off 0 1 1 = 1 := by subst hA; rfl
  cbv at o0_1
  have o0_2 : A.off 0 2 1 = 2 := by subst hA; rfl
  cbv at o0_2
  have o0_3 : A.off 0 3 1 = 3 := by subst hA; rfl
  cbv at o0_3
  have o0_4 : A.off 0 4 1 = 4 := by subst hA; rfl
  cbv at o0_4
  have o0_5 : A.off 0 5 1 = 5 := by subst hA; rfl
  cbv at o0_5
  have o0_6 : A.off 0 6 1 = 6 := by subst hA; rfl
  cbv at o0_6
  have hq : GFsR5.rightL2 (⟨3, m_src, m_dst, m_irep, m_islot, m_be, m_br, m_mkind, m_mclient, m_mseq, m_mkey, m_mfin, m_mold, m_mval, m_tseq, m_td0, m_td1, m_td2, m_td3, m_td4, m_td5, m_td6, m_lstatus, m_lpe, m_lpr, m_lve, m_lvr, m_lckind, m_lcclient, m_lcseq, m_lckey, m_lcfin, m_lcold, m_lcval, m_laseq, m_lad0, m_lad1, m_lad2, m_lad3, m_lad4, m_lad5, m_lad6, m_lsame, m_fd0, m_fd1, m_fd2, m_fd3, m_fd4, m_fd5, m_fd6, m_data⟩ : Letter) = true := by subst hGFsR5; exact hr
  have nt : A.not true = false := by subst hA; rfl
  cbv at hq nt
  have f1 : A.cmp .lss 3 1 = false := by subst hA; rfl
  have f2 : A.cmp .gtr 3 11 = false := by subst hA; rfl
  have f3 : A.cmp .lss 3 9 = true := by subst hA; rfl
  have f4 : A.cmp .neq 3 5 = true := by subst hA; rfl
  have g0 : A.cmp .eql 3 1 = false := by subst hA; rfl
  have g1 : A.cmp .eql 3 3 = true := by subst hA; rfl
  have g2 : A.cmp .eql 3 5 = false := by subst hA; rfl
  have g3 : A.cmp .eql 3 2 = false := by subst hA; rfl
  have g4 : A.cmp .eql 3 7 = false := by subst hA; rfl
  have g5 : A.cmp .eql 3 9 = false := by subst hA; rfl
  have g6 : A.cmp .eql 3 11 = false := by subst hA; rfl
  have g7 : A.cmp .eql 3 10 = false := by subst hA; rfl
  have ftf : A.cond false true false = false := by subst hA; rfl
  have fff : A.cond false false false = false := by subst hA; rfl
  cbv at f1 f2 f3 f4 g0 g1 g2 g3 g4 g5 g6 g7 ftf fff
  repeat' first
    | (simp only [hq, nt, f1, f2, f3, f4, g0, g1, g2, g3, g4, g5, g6, g7, ftf, fff, l0, l1, l2, l3, l4, l5, l6, l7, b0, b1, b2, b3, b4, b5, b6, o0_0, o0_1, o0_2, o0_3, o0_4, o0_5, o0_6]; cbv)
    | (refine And.intro ?_ ?_)
  all_goals clear hH
  all_goals subst hA hX hW hGFsR5 hGFsW hGFsR6
  all_goals obtain ⟨⟨k0, k1, k2⟩, ⟨k3, k4⟩, k5, k6, k7, k8, ⟨f0, f1, f2, f3, f4, f5, f6⟩, kd⟩ : okLet (⟨3, m_src, m_dst, m_irep, m_islot, m_be, m_br, m_mkind, m_mclient, m_mseq, m_mkey, m_mfin, m_mold, m_mval, m_tseq, m_td0, m_td1, m_td2, m_td3, m_td4, m_td5, m_td6, m_lstatus, m_lpe, m_lpr, m_lve, m_lvr, m_lckind, m_lcclient, m_lcseq, m_lckey, m_lcfin, m_lcold, m_lcval, m_laseq, m_lad0, m_lad1, m_lad2, m_lad3, m_lad4, m_lad5, m_lad6, m_lsame, m_fd0, m_fd1, m_fd2, m_fd3, m_fd4, m_fd5, m_fd6, m_data⟩ : Letter) := hp0
  all_goals have b0 : isBn 0 [] := ⟨[], rfl, Nat.le_refl _⟩
  all_goals have b1 := (isBn.num b0 3)
  all_goals have b2 := (isBn.num b1 m_src)
  all_goals have b3 := (isBn.num b2 m_dst)
  all_goals have b4 := (isBn.num b3 m_irep)
  all_goals have b5 := (isBn.num b4 m_islot)
  all_goals have b6 := (isBn.ballot b5 ⟨m_be, m_br⟩)
  all_goals have b7 := (isBn.cmdX b6 hrp.1)
  all_goals have b8 := (isBn.dput b7 ⟨m_tseq, m_td0, m_td1, m_td2, m_td3, m_td4, m_td5, m_td6⟩)
  all_goals first
    | (show Region.lexB _ _ = true; kernel_rfl)
    | exact k0
    | exact k1
    | exact k2
    | exact ⟨k3, k4⟩
    | exact k5
    | exact k6
    | exact k7
    | exact k8
    | exact f0
    | exact f1
    | exact f2
    | exact f3
    | exact f4
    | exact f5
    | exact f6
    | exact hrp.2.2
    | (show szT _; unfold szT; exact Nat.le_trans kd (by decide))
    | exact b0.le (by omega)
    | exact b0.mono (by omega)
    | exact b1.le (by omega)
    | exact b1.mono (by omega)
    | exact b2.le (by omega)
    | exact b2.mono (by omega)
    | exact b3.le (by omega)
    | exact b3.mono (by omega)
    | exact b4.le (by omega)
    | exact b4.mono (by omega)
    | exact b5.le (by omega)
    | exact b5.mono (by omega)
    | exact b6.le (by omega)
    | exact b6.mono (by omega)
    | exact b7.le (by omega)
    | exact b7.mono (by omega)
    | exact b8.le (by omega)
    | exact b8.mono (by omega)
    | (simp only [hq, nt, A0]; intros; first | assumption | trivial | (simp_all; done))
    | (have hc : rightC ⟨m_mkind, m_mclient, m_mseq, m_mkey, m_mfin, m_mold, m_mval⟩ = true := hrp.1
       have hl : rightCell ⟨m_lstatus, m_lpe, m_lpr, m_lve, m_lvr, m_lckind, m_lcclient, m_lcseq, m_lckey, m_lcfin, m_lcold, m_lcval, m_laseq, m_lad0, m_lad1, m_lad2, m_lad3, m_lad4, m_lad5, m_lad6, m_lsame⟩ = true := hrp.2.2
       refine ret_v ?_ rfl
       show DV.d (.slc 1 _) = DV.d (.slc 1 (putLet (⟨3, m_src, m_dst, m_irep, m_islot, m_be, m_br, m_mkind, m_mclient, m_mseq, m_mkey, m_mfin, m_mold, m_mval, m_tseq, m_td0, m_td1, m_td2, m_td3, m_td4, m_td5, m_td6, m_lstatus, m_lpe, m_lpr, m_lve, m_lvr, m_lckind, m_lcclient, m_lcseq, m_lckey, m_lcfin, m_lcold, m_lcval, m_laseq, m_lad0, m_lad1, m_lad2, m_lad3, m_lad4, m_lad5, m_lad6, m_lsame, m_fd0, m_fd1, m_fd2, m_fd3, m_fd4, m_fd5, m_fd6, m_data⟩ : Letter)))
       unfold putLet
       rw [if_pos hr]
       try simp only [A0, nc, FsR50, FsW0, FsR60, cmdX_put hc, putCellM_eq hl]
       rfl)
    | (simp; done)
    | exact ⟨by decide, by decide⟩
set_option maxRecDepth 100000 in
theorem v_pl4 (m : Letter) (hp0 : okLet m) (hr : rightL m = true) (e : m.lkind = 4) : FnV Try.prog 18 [m.D] (.d (.slc 1 (putLet m))) := by
  obtain ⟨m_lkind, m_src, m_dst, m_irep, m_islot, m_be, m_br, m_mkind, m_mclient, m_mseq, m_mkey, m_mfin, m_mold, m_mval, m_tseq, m_td0, m_td1, m_td2, m_td3, m_td4, m_td5, m_td6, m_lstatus, m_lpe, m_lpr, m_lve, m_lvr, m_lckind, m_lcclient, m_lcseq, m_lckey, m_lcfin, m_lcold, m_lcval, m_laseq, m_lad0, m_lad1, m_lad2, m_lad3, m_lad4, m_lad5, m_lad6, m_lsame, m_fd0, m_fd1, m_fd2, m_fd3, m_fd4, m_fd5, m_fd6, m_data⟩ := m
  replace e : m_lkind = 4 := e
  subst e
  have hrp := rightL_parts hr
  obtain ⟨GFsR5, hGFsR5⟩ : ∃ F, F = FsR50 := ⟨_, rfl⟩
  obtain ⟨GFsW, hGFsW⟩ : ∃ F, F = FsW0 := ⟨_, rfl⟩
  obtain ⟨GFsR6, hGFsR6⟩ : ∃ F, F = FsR60 := ⟨_, rfl⟩
  have hH : SoundK Try.prog [kn_rightL2 GFsR5, kn_rnum GFsW, kn_inst2 GFsR6, kn_ballot2 GFsR6, kn_cmd2 GFsR6, kn_attr2 GFsR6, kn_putCell2 GFsR6, kn_rtext GFsW] := by subst hGFsR5 hGFsW hGFsR6; exact orK_ok ok_rightL2 (orK_ok ok_rnum (orK_ok ok_inst2 (orK_ok ok_ballot2 (orK_ok ok_cmd2 (orK_ok ok_attr2 (orK_ok ok_putCell2 (orK_ok ok_rtext noK_ok)))))))
  refine FnD_cbv (T := fun _ => tabY [5003] []) (H := fun _ => [kn_rightL2 GFsR5, kn_rnum GFsW, kn_inst2 GFsR6, kn_ballot2 GFsR6, kn_cmd2 GFsR6, kn_attr2 GFsR6, kn_putCell2 GFsR6, kn_rtext GFsW]) (tabY_ok _ _) hH follows_mixed Try.func18 rfl Try.ntmps18 (by simp) fun A X W hA hX hW => ?_
  cbv
  have l0 : A.cmp .lss 0 7 = true := by subst hA; rfl
  cbv at l0
  have l1 : A.cmp .lss 1 7 = true := by subst hA; rfl
  cbv at l1
  have l2 : A.cmp .lss 2 7 = true := by subst hA; rfl
  cbv at l2
  have l3 : A.cmp .lss 3 7 = true := by subst hA; rfl
  cbv at l3
  have l4 : A.cmp .lss 4 7 = true := by subst hA; rfl
  cbv at l4
  have l5 : A.cmp .lss 5 7 = true := by subst hA; rfl
  cbv at l5
  have l6 : A.cmp .lss 6 7 = true := by subst hA; rfl
  cbv at l6
  have l7 : A.cmp .lss 7 7 = false := by subst hA; rfl
  cbv at l7
  have b0 : A.bin .add .i64 0 1 = 1 := by subst hA; rfl
  cbv at b0
  have b1 : A.bin .add .i64 1 1 = 2 := by subst hA; rfl
  cbv at b1
  have b2 : A.bin .add .i64 2 1 = 3 := by subst hA; rfl
  cbv at b2
  have b3 : A.bin .add .i64 3 1 = 4 := by subst hA; rfl
  cbv at b3
  have b4 : A.bin .add .i64 4 1 = 5 := by subst hA; rfl
  cbv at b4
  have b5 : A.bin .add .i64 5 1 = 6 := by subst hA; rfl
  cbv at b5
  have b6 : A.bin .add .i64 6 1 = 7 := by subst hA; rfl
  cbv at b6
  have o0_0 : A.off 0 0 1 = 0 := by subst hA; rfl
  cbv at o0_0
  have o0_1 : A.off 0 1 1 = 1 := by subst hA; rfl
  cbv at o0_1
  have o0_2 : A.off 0 2 1 = 2 := by subst hA; rfl
  cbv at o0_2
  have o0_3 : A.off 0 3 1 = 3 := by subst hA; rfl
  cbv at o0_3
  have o0_4 : A.off 0 4 1 = 4 := by subst hA; rfl
  cbv at o0_4
  have o0_5 : A.off 0 5 1 = 5 := by subst hA; rfl
  cbv at o0_5
  have o0_6 : A.off 0 6 1 = 6 := by subst hA; rfl
  cbv at o0_6
  have hq : GFsR5.rightL2 (⟨4, m_src, m_dst, m_irep, m_islot, m_be, m_br, m_mkind, m_mclient, m_mseq, m_mkey, m_mfin, m_mold, m_mval, m_tseq, m_td0, m_td1, m_td2, m_td3, m_td4, m_td5, m_td6, m_lstatus, m_lpe, m_lpr, m_lve, m_lvr, m_lckind, m_lcclient, m_lcseq, m_lckey, m_lcfin, m_lcold, m_lcval, m_laseq, m_lad0, m_lad1, m_lad2, m_lad3, m_lad4, m_lad5, m_lad6, m_lsame, m_fd0, m_fd1, m_fd2, m_fd3, m_fd4, m_fd5, m_fd6, m_data⟩ : Letter) = true := by subst hGFsR5; exact hr
  have nt : A.not true = false := by subst hA; rfl
  cbv at hq nt
  have f1 : A.cmp .lss 4 1 = false := by subst hA; rfl
  have f2 : A.cmp .gtr 4 11 = false := by subst hA; rfl
  have f3 : A.cmp .lss 4 9 = true := by subst hA; rfl
  have f4 : A.cmp .neq 4 5 = true := by subst hA; rfl
  have g0 : A.cmp .eql 4 1 = false := by subst hA; rfl
  have g1 : A.cmp .eql 4 3 = false := by subst hA; rfl
  have g2 : A.cmp .eql 4 5 = false := by subst hA; rfl
  have g3 : A.cmp .eql 4 2 = false := by subst hA; rfl
  have g4 : A.cmp .eql 4 7 = false := by subst hA; rfl
  have g5 : A.cmp .eql 4 9 = false := by subst hA; rfl
  have g6 : A.cmp .eql 4 11 = false := by subst hA; rfl
  have g7 : A.cmp .eql 4 10 = false := by subst hA; rfl
  have ftf : A.cond false true false = false := by subst hA; rfl
  have fff : A.cond false false false = false := by subst hA; rfl
  cbv at f1 f2 f3 f4 g0 g1 g2 g3 g4 g5 g6 g7 ftf fff
  repeat' first
    | (simp only [hq, nt, f1, f2, f3, f4, g0, g1, g2, g3, g4, g5, g6, g7, ftf, fff, l0, l1, l2, l3, l4, l5, l6, l7, b0, b1, b2, b3, b4, b5, b6, o0_0, o0_1, o0_2, o0_3, o0_4, o0_5, o0_6]; cbv)
    | (refine And.intro ?_ ?_)
  all_goals clear hH
  all_goals subst hA hX hW hGFsR5 hGFsW hGFsR6
  all_goals obtain ⟨⟨k0, k1, k2⟩, ⟨k3, k4⟩, k5, k6, k7, k8, ⟨f0, f1, f2, f3, f4, f5, f6⟩, kd⟩ : okLet (⟨4, m_src, m_dst, m_irep, m_islot, m_be, m_br, m_mkind, m_mclient, m_mseq, m_mkey, m_mfin, m_mold, m_mval, m_tseq, m_td0, m_td1, m_td2, m_td3, m_td4, m_td5, m_td6, m_lstatus, m_lpe, m_lpr, m_lve, m_lvr, m_lckind, m_lcclient, m_lcseq, m_lckey, m_lcfin, m_lcold, m_lcval, m_laseq, m_lad0, m_lad1, m_lad2, m_lad3, m_lad4, m_lad5, m_lad6, m_lsame, m_fd0, m_fd1, m_fd2, m_fd3, m_fd4, m_fd5, m_fd6, m_data⟩ : Letter) := hp0
  all_goals have b0 : isBn 0 [] := ⟨[], rfl, Nat.le_refl _⟩
  all_goals have b1 := (isBn.num b0 4)
  all_goals have b2 := (isBn.num b1 m_src)
  all_goals have b3 := (isBn.num b2 m_dst)
  all_goals have b4 := (isBn.num b3 m_irep)
  all_goals have b5 := (isBn.num b4 m_islot)
  all_goals have b6 := (isBn.ballot b5 ⟨m_be, m_br⟩)
  all_goals first
    | (show Region.lexB _ _ = true; kernel_rfl)
    | exact k0
    | exact k1
    | exact k2
    | exact ⟨k3, k4⟩
    | exact k5
    | exact k6
    | exact k7
    | exact k8
    | exact f0
    | exact f1
    | exact f2
    | exact f3
    | exact f4
    | exact f5
    | exact f6
    | exact hrp.2.2
    | (show szT _; unfold szT; exact Nat.le_trans kd (by decide))
    | exact b0.le (by omega)
    | exact b0.mono (by omega)
    | exact b1.le (by omega)
    | exact b1.mono (by omega)
    | exact b2.le (by omega)
    | exact b2.mono (by omega)
    | exact b3.le (by omega)
    | exact b3.mono (by omega)
    | exact b4.le (by omega)
    | exact b4.mono (by omega)
    | exact b5.le (by omega)
    | exact b5.mono (by omega)
    | exact b6.le (by omega)
    | exact b6.mono (by omega)
    | (simp only [hq, nt, A0]; intros; first | assumption | trivial | (simp_all; done))
    | (have hc : rightC ⟨m_mkind, m_mclient, m_mseq, m_mkey, m_mfin, m_mold, m_mval⟩ = true := hrp.1
       have hl : rightCell ⟨m_lstatus, m_lpe, m_lpr, m_lve, m_lvr, m_lckind, m_lcclient, m_lcseq, m_lckey, m_lcfin, m_lcold, m_lcval, m_laseq, m_lad0, m_lad1, m_lad2, m_lad3, m_lad4, m_lad5, m_lad6, m_lsame⟩ = true := hrp.2.2
       refine ret_v ?_ rfl
       show DV.d (.slc 1 _) = DV.d (.slc 1 (putLet (⟨4, m_src, m_dst, m_irep, m_islot, m_be, m_br, m_mkind, m_mclient, m_mseq, m_mkey, m_mfin, m_mold, m_mval, m_tseq, m_td0, m_td1, m_td2, m_td3, m_td4, m_td5, m_td6, m_lstatus, m_lpe, m_lpr, m_lve, m_lvr, m_lckind, m_lcclient, m_lcseq, m_lckey, m_lcfin, m_lcold, m_lcval, m_laseq, m_lad0, m_lad1, m_lad2, m_lad3, m_lad4, m_lad5, m_lad6, m_lsame, m_fd0, m_fd1, m_fd2, m_fd3, m_fd4, m_fd5, m_fd6, m_data⟩ : Letter)))
       unfold putLet
       rw [if_pos hr]
       try simp only [A0, nc, FsR50, FsW0, FsR60, cmdX_put hc, putCellM_eq hl]
       rfl)
    | (simp; done)
    | exact ⟨by decide, by decide⟩
set_option maxRecDepth 100000 in
theorem v_pl5 (m : Letter) (hp0 : okLet m) (hr : rightL m = true) (e : m.lkind = 5) : FnV Try.prog 18 [m.D] (.d (.slc 1 (putLet m))) := by
  obtain ⟨m_lkind, m_src, m_dst, m_irep, m_islot, m_be, m_br, m_mkind, m_mclient, m_mseq, m_mkey, m_mfin, m_mold, m_mval, m_tseq, m_td0, m_td1, m_td2, m_td3, m_td4, m_td5, m_td6, m_lstatus, m_lpe, m_lpr, m_lve, m_lvr, m_lckind, m_lcclient, m_lcseq, m_lckey, m_lcfin, m_lcold, m_lcval, m_laseq, m_lad0, m_lad1, m_lad2, m_lad3, m_lad4, m_lad5, m_lad6, m_lsame, m_fd0, m_fd1, m_fd2, m_fd3, m_fd4, m_fd5, m_fd6, m_data⟩ := m
  replace e : m_lkind = 5 := e
  subst e
  have hrp := rightL_parts hr
  obtain ⟨GFsR5, hGFsR5⟩ : ∃ F, F = FsR50 := ⟨_, rfl⟩
  obtain ⟨GFsW, hGFsW⟩ : ∃ F, F = FsW0 := ⟨_, rfl⟩
  obtain ⟨GFsR6, hGFsR6⟩ : ∃ F, F = FsR60 := ⟨_, rfl⟩
  have hH : SoundK Try.prog [kn_rightL2 GFsR5, kn_rnum GFsW, kn_inst2 GFsR6, kn_ballot2 GFsR6, kn_cmd2 GFsR6, kn_attr2 GFsR6, kn_putCell2 GFsR6, kn_rtext GFsW] := by subst hGFsR5 hGFsW hGFsR6; exact orK_ok ok_rightL2 (orK_ok ok_rnum (orK_ok ok_inst2 (orK_ok ok_ballot2 (orK_ok ok_cmd2 (orK_ok ok_attr2 (orK_ok ok_putCell2 (orK_ok ok_rtext noK_ok)))))))
  refine FnD_cbv (T := fun _ => tabY [5003] []) (H := fun _ => [kn_rightL2 GFsR5, kn_rnum GFsW, kn_inst2 GFsR6, kn_ballot2 GFsR6, kn_cmd2 GFsR6, kn_attr2 GFsR6, kn_putCell2 GFsR6, kn_rtext GFsW]) (tabY_ok _ _) hH follows_mixed Try.func18 rfl Try.ntmps18 (by simp) fun A X W hA hX hW => ?_
  cbv
  have l0 : A.cmp .lss 0 7 = true := by subst hA; rfl
  cbv at l0
  have l1 : A.cmp .lss 1 7 = true := by subst hA; rfl
  cbv at l1
  have l2 : A.cmp .lss 2 7 = true := by subst hA; rfl
  cbv at l2
  have l3 : A.cmp .lss 3 7 = true := by subst hA; rfl
  cbv at l3
  have l4 : A.cmp .lss 4 7 = true := by subst hA; rfl
  cbv at l4
  have l5 : A.cmp .lss 5 7 = true := by subst hA; rfl
  cbv at l5
  have l6 : A.cmp .lss 6 7 = true := by subst hA; rfl
  cbv at l6
  have l7 : A.cmp .lss 7 7 = false := by subst hA; rfl
  cbv at l7
  have b0 : A.bin .add .i64 0 1 = 1 := by subst hA; rfl
  cbv at b0
  have b1 : A.bin .add .i64 1 1 = 2 := by subst hA; rfl
  cbv at b1
  have b2 : A.bin .add .i64 2 1 = 3 := by subst hA; rfl
  cbv at b2
  have b3 : A.bin .add .i64 3 1 = 4 := by subst hA; rfl
  cbv at b3
  have b4 : A.bin .add .i64 4 1 = 5 := by subst hA; rfl
  cbv at b4
  have b5 : A.bin .add .i64 5 1 = 6 := by subst hA; rfl
  cbv at b5
  have b6 : A.bin .add .i64 6 1 = 7 := by subst hA; rfl
  cbv at b6
  have o0_0 : A.off 0 0 1 = 0 := by subst hA; rfl
  cbv at o0_0
  have o0_1 : A.off 0 1 1 = 1 := by subst hA; rfl
  cbv at o0_1
  have o0_2 : A.off 0 2 1 = 2 := by subst hA; rfl
  cbv at o0_2
  have o0_3 : A.off 0 3 1 = 3 := by subst hA; rfl
  cbv at o0_3
  have o0_4 : A.off 0 4 1 = 4 := by subst hA; rfl
  cbv at o0_4
  have o0_5 : A.off 0 5 1 = 5 := by subst hA; rfl
  cbv at o0_5
  have o0_6 : A.off 0 6 1 = 6 := by subst hA; rfl
  cbv at o0_6
  have hq : GFsR5.rightL2 (⟨5, m_src, m_dst, m_irep, m_islot, m_be, m_br, m_mkind, m_mclient, m_mseq, m_mkey, m_mfin, m_mold, m_mval, m_tseq, m_td0, m_td1, m_td2, m_td3, m_td4, m_td5, m_td6, m_lstatus, m_lpe, m_lpr, m_lve, m_lvr, m_lckind, m_lcclient, m_lcseq, m_lckey, m_lcfin, m_lcold, m_lcval, m_laseq, m_lad0, m_lad1, m_lad2, m_lad3, m_lad4, m_lad5, m_lad6, m_lsame, m_fd0, m_fd1, m_fd2, m_fd3, m_fd4, m_fd5, m_fd6, m_data⟩ : Letter) = true := by subst hGFsR5; exact hr
  have nt : A.not true = false := by subst hA; rfl
  cbv at hq nt
  have f1 : A.cmp .lss 5 1 = false := by subst hA; rfl
  have f2 : A.cmp .gtr 5 11 = false := by subst hA; rfl
  have f3 : A.cmp .lss 5 9 = true := by subst hA; rfl
  have f4 : A.cmp .neq 5 5 = false := by subst hA; rfl
  have g0 : A.cmp .eql 5 1 = false := by subst hA; rfl
  have g1 : A.cmp .eql 5 3 = false := by subst hA; rfl
  have g2 : A.cmp .eql 5 5 = true := by subst hA; rfl
  have g3 : A.cmp .eql 5 2 = false := by subst hA; rfl
  have g4 : A.cmp .eql 5 7 = false := by subst hA; rfl
  have g5 : A.cmp .eql 5 9 = false := by subst hA; rfl
  have g6 : A.cmp .eql 5 11 = false := by subst hA; rfl
  have g7 : A.cmp .eql 5 10 = false := by subst hA; rfl
  have ftf : A.cond false true false = false := by subst hA; rfl
  have fff : A.cond false false false = false := by subst hA; rfl
  cbv at f1 f2 f3 f4 g0 g1 g2 g3 g4 g5 g6 g7 ftf fff
  repeat' first
    | (simp only [hq, nt, f1, f2, f3, f4, g0, g1, g2, g3, g4, g5, g6, g7, ftf, fff, l0, l1, l2, l3, l4, l5, l6, l7, b0, b1, b2, b3, b4, b5, b6, o0_0, o0_1, o0_2, o0_3, o0_4, o0_5, o0_6]; cbv)
    | (refine And.intro ?_ ?_)
  all_goals clear hH
  all_goals subst hA hX hW hGFsR5 hGFsW hGFsR6
  all_goals obtain ⟨⟨k0, k1, k2⟩, ⟨k3, k4⟩, k5, k6, k7, k8, ⟨f0, f1, f2, f3, f4, f5, f6⟩, kd⟩ : okLet (⟨5, m_src, m_dst, m_irep, m_islot, m_be, m_br, m_mkind, m_mclient, m_mseq, m_mkey, m_mfin, m_mold, m_mval, m_tseq, m_td0, m_td1, m_td2, m_td3, m_td4, m_td5, m_td6, m_lstatus, m_lpe, m_lpr, m_lve, m_lvr, m_lckind, m_lcclient, m_lcseq, m_lckey, m_lcfin, m_lcold, m_lcval, m_laseq, m_lad0, m_lad1, m_lad2, m_lad3, m_lad4, m_lad5, m_lad6, m_lsame, m_fd0, m_fd1, m_fd2, m_fd3, m_fd4, m_fd5, m_fd6, m_data⟩ : Letter) := hp0
  all_goals have b0 : isBn 0 [] := ⟨[], rfl, Nat.le_refl _⟩
  all_goals have b1 := (isBn.num b0 5)
  all_goals have b2 := (isBn.num b1 m_src)
  all_goals have b3 := (isBn.num b2 m_dst)
  all_goals have b4 := (isBn.num b3 m_irep)
  all_goals have b5 := (isBn.num b4 m_islot)
  all_goals have b6 := (isBn.cmdX b5 hrp.1)
  all_goals have b7 := (isBn.dput b6 ⟨m_tseq, m_td0, m_td1, m_td2, m_td3, m_td4, m_td5, m_td6⟩)
  all_goals first
    | (show Region.lexB _ _ = true; kernel_rfl)
    | exact k0
    | exact k1
    | exact k2
    | exact ⟨k3, k4⟩
    | exact k5
    | exact k6
    | exact k7
    | exact k8
    | exact f0
    | exact f1
    | exact f2
    | exact f3
    | exact f4
    | exact f5
    | exact f6
    | exact hrp.2.2
    | (show szT _; unfold szT; exact Nat.le_trans kd (by decide))
    | exact b0.le (by omega)
    | exact b0.mono (by omega)
    | exact b1.le (by omega)
    | exact b1.mono (by omega)
    | exact b2.le (by omega)
    | exact b2.mono (by omega)
    | exact b3.le (by omega)
    | exact b3.mono (by omega)
    | exact b4.le (by omega)
    | exact b4.mono (by omega)
    | exact b5.le (by omega)
    | exact b5.mono (by omega)
    | exact b6.le (by omega)
    | exact b6.mono (by omega)
    | exact b7.le (by omega)
    | exact b7.mono (by omega)
    | (simp only [hq, nt, A0]; intros; first | assumption | trivial | (simp_all; done))
    | (have hc : rightC ⟨m_mkind, m_mclient, m_mseq, m_mkey, m_mfin, m_mold, m_mval⟩ = true := hrp.1
       have hl : rightCell ⟨m_lstatus, m_lpe, m_lpr, m_lve, m_lvr, m_lckind, m_lcclient, m_lcseq, m_lckey, m_lcfin, m_lcold, m_lcval, m_laseq, m_lad0, m_lad1, m_lad2, m_lad3, m_lad4, m_lad5, m_lad6, m_lsame⟩ = true := hrp.2.2
       refine ret_v ?_ rfl
       show DV.d (.slc 1 _) = DV.d (.slc 1 (putLet (⟨5, m_src, m_dst, m_irep, m_islot, m_be, m_br, m_mkind, m_mclient, m_mseq, m_mkey, m_mfin, m_mold, m_mval, m_tseq, m_td0, m_td1, m_td2, m_td3, m_td4, m_td5, m_td6, m_lstatus, m_lpe, m_lpr, m_lve, m_lvr, m_lckind, m_lcclient, m_lcseq, m_lckey, m_lcfin, m_lcold, m_lcval, m_laseq, m_lad0, m_lad1, m_lad2, m_lad3, m_lad4, m_lad5, m_lad6, m_lsame, m_fd0, m_fd1, m_fd2, m_fd3, m_fd4, m_fd5, m_fd6, m_data⟩ : Letter)))
       unfold putLet
       rw [if_pos hr]
       try simp only [A0, nc, FsR50, FsW0, FsR60, cmdX_put hc, putCellM_eq hl]
       rfl)
    | (simp; done)
    | exact ⟨by decide, by decide⟩
set_option maxRecDepth 100000 in
theorem v_pl6 (m : Letter) (hp0 : okLet m) (hr : rightL m = true) (e : m.lkind = 6) : FnV Try.prog 18 [m.D] (.d (.slc 1 (putLet m))) := by
  obtain ⟨m_lkind, m_src, m_dst, m_irep, m_islot, m_be, m_br, m_mkind, m_mclient, m_mseq, m_mkey, m_mfin, m_mold, m_mval, m_tseq, m_td0, m_td1, m_td2, m_td3, m_td4, m_td5, m_td6, m_lstatus, m_lpe, m_lpr, m_lve, m_lvr, m_lckind, m_lcclient, m_lcseq, m_lckey, m_lcfin, m_lcold, m_lcval, m_laseq, m_lad0, m_lad1, m_lad2, m_lad3, m_lad4, m_lad5, m_lad6, m_lsame, m_fd0, m_fd1, m_fd2, m_fd3, m_fd4, m_fd5, m_fd6, m_data⟩ := m
  replace e : m_lkind = 6 := e
  subst e
  have hrp := rightL_parts hr
  obtain ⟨GFsR5, hGFsR5⟩ : ∃ F, F = FsR50 := ⟨_, rfl⟩
  obtain ⟨GFsW, hGFsW⟩ : ∃ F, F = FsW0 := ⟨_, rfl⟩
  obtain ⟨GFsR6, hGFsR6⟩ : ∃ F, F = FsR60 := ⟨_, rfl⟩
  have hH : SoundK Try.prog [kn_rightL2 GFsR5, kn_rnum GFsW, kn_inst2 GFsR6, kn_ballot2 GFsR6, kn_cmd2 GFsR6, kn_attr2 GFsR6, kn_putCell2 GFsR6, kn_rtext GFsW] := by subst hGFsR5 hGFsW hGFsR6; exact orK_ok ok_rightL2 (orK_ok ok_rnum (orK_ok ok_inst2 (orK_ok ok_ballot2 (orK_ok ok_cmd2 (orK_ok ok_attr2 (orK_ok ok_putCell2 (orK_ok ok_rtext noK_ok)))))))
  refine FnD_cbv (T := fun _ => tabY [5003] []) (H := fun _ => [kn_rightL2 GFsR5, kn_rnum GFsW, kn_inst2 GFsR6, kn_ballot2 GFsR6, kn_cmd2 GFsR6, kn_attr2 GFsR6, kn_putCell2 GFsR6, kn_rtext GFsW]) (tabY_ok _ _) hH follows_mixed Try.func18 rfl Try.ntmps18 (by simp) fun A X W hA hX hW => ?_
  cbv
  have l0 : A.cmp .lss 0 7 = true := by subst hA; rfl
  cbv at l0
  have l1 : A.cmp .lss 1 7 = true := by subst hA; rfl
  cbv at l1
  have l2 : A.cmp .lss 2 7 = true := by subst hA; rfl
  cbv at l2
  have l3 : A.cmp .lss 3 7 = true := by subst hA; rfl
  cbv at l3
  have l4 : A.cmp .lss 4 7 = true := by subst hA; rfl
  cbv at l4
  have l5 : A.cmp .lss 5 7 = true := by subst hA; rfl
  cbv at l5
  have l6 : A.cmp .lss 6 7 = true := by subst hA; rfl
  cbv at l6
  have l7 : A.cmp .lss 7 7 = false := by subst hA; rfl
  cbv at l7
  have b0 : A.bin .add .i64 0 1 = 1 := by subst hA; rfl
  cbv at b0
  have b1 : A.bin .add .i64 1 1 = 2 := by subst hA; rfl
  cbv at b1
  have b2 : A.bin .add .i64 2 1 = 3 := by subst hA; rfl
  cbv at b2
  have b3 : A.bin .add .i64 3 1 = 4 := by subst hA; rfl
  cbv at b3
  have b4 : A.bin .add .i64 4 1 = 5 := by subst hA; rfl
  cbv at b4
  have b5 : A.bin .add .i64 5 1 = 6 := by subst hA; rfl
  cbv at b5
  have b6 : A.bin .add .i64 6 1 = 7 := by subst hA; rfl
  cbv at b6
  have o0_0 : A.off 0 0 1 = 0 := by subst hA; rfl
  cbv at o0_0
  have o0_1 : A.off 0 1 1 = 1 := by subst hA; rfl
  cbv at o0_1
  have o0_2 : A.off 0 2 1 = 2 := by subst hA; rfl
  cbv at o0_2
  have o0_3 : A.off 0 3 1 = 3 := by subst hA; rfl
  cbv at o0_3
  have o0_4 : A.off 0 4 1 = 4 := by subst hA; rfl
  cbv at o0_4
  have o0_5 : A.off 0 5 1 = 5 := by subst hA; rfl
  cbv at o0_5
  have o0_6 : A.off 0 6 1 = 6 := by subst hA; rfl
  cbv at o0_6
  have hq : GFsR5.rightL2 (⟨6, m_src, m_dst, m_irep, m_islot, m_be, m_br, m_mkind, m_mclient, m_mseq, m_mkey, m_mfin, m_mold, m_mval, m_tseq, m_td0, m_td1, m_td2, m_td3, m_td4, m_td5, m_td6, m_lstatus, m_lpe, m_lpr, m_lve, m_lvr, m_lckind, m_lcclient, m_lcseq, m_lckey, m_lcfin, m_lcold, m_lcval, m_laseq, m_lad0, m_lad1, m_lad2, m_lad3, m_lad4, m_lad5, m_lad6, m_lsame, m_fd0, m_fd1, m_fd2, m_fd3, m_fd4, m_fd5, m_fd6, m_data⟩ : Letter) = true := by subst hGFsR5; exact hr
  have nt : A.not true = false := by subst hA; rfl
  cbv at hq nt
  have f1 : A.cmp .lss 6 1 = false := by subst hA; rfl
  have f2 : A.cmp .gtr 6 11 = false := by subst hA; rfl
  have f3 : A.cmp .lss 6 9 = true := by subst hA; rfl
  have f4 : A.cmp .neq 6 5 = true := by subst hA; rfl
  have g0 : A.cmp .eql 6 1 = false := by subst hA; rfl
  have g1 : A.cmp .eql 6 3 = false := by subst hA; rfl
  have g2 : A.cmp .eql 6 5 = false := by subst hA; rfl
  have g3 : A.cmp .eql 6 2 = false := by subst hA; rfl
  have g4 : A.cmp .eql 6 7 = false := by subst hA; rfl
  have g5 : A.cmp .eql 6 9 = false := by subst hA; rfl
  have g6 : A.cmp .eql 6 11 = false := by subst hA; rfl
  have g7 : A.cmp .eql 6 10 = false := by subst hA; rfl
  have ftf : A.cond false true false = false := by subst hA; rfl
  have fff : A.cond false false false = false := by subst hA; rfl
  cbv at f1 f2 f3 f4 g0 g1 g2 g3 g4 g5 g6 g7 ftf fff
  repeat' first
    | (simp only [hq, nt, f1, f2, f3, f4, g0, g1, g2, g3, g4, g5, g6, g7, ftf, fff, l0, l1, l2, l3, l4, l5, l6, l7, b0, b1, b2, b3, b4, b5, b6, o0_0, o0_1, o0_2, o0_3, o0_4, o0_5, o0_6]; cbv)
    | (refine And.intro ?_ ?_)
  all_goals clear hH
  all_goals subst hA hX hW hGFsR5 hGFsW hGFsR6
  all_goals obtain ⟨⟨k0, k1, k2⟩, ⟨k3, k4⟩, k5, k6, k7, k8, ⟨f0, f1, f2, f3, f4, f5, f6⟩, kd⟩ : okLet (⟨6, m_src, m_dst, m_irep, m_islot, m_be, m_br, m_mkind, m_mclient, m_mseq, m_mkey, m_mfin, m_mold, m_mval, m_tseq, m_td0, m_td1, m_td2, m_td3, m_td4, m_td5, m_td6, m_lstatus, m_lpe, m_lpr, m_lve, m_lvr, m_lckind, m_lcclient, m_lcseq, m_lckey, m_lcfin, m_lcold, m_lcval, m_laseq, m_lad0, m_lad1, m_lad2, m_lad3, m_lad4, m_lad5, m_lad6, m_lsame, m_fd0, m_fd1, m_fd2, m_fd3, m_fd4, m_fd5, m_fd6, m_data⟩ : Letter) := hp0
  all_goals have b0 : isBn 0 [] := ⟨[], rfl, Nat.le_refl _⟩
  all_goals have b1 := (isBn.num b0 6)
  all_goals have b2 := (isBn.num b1 m_src)
  all_goals have b3 := (isBn.num b2 m_dst)
  all_goals have b4 := (isBn.num b3 m_irep)
  all_goals have b5 := (isBn.num b4 m_islot)
  all_goals have b6 := (isBn.ballot b5 ⟨m_be, m_br⟩)
  all_goals first
    | (show Region.lexB _ _ = true; kernel_rfl)
    | exact k0
    | exact k1
    | exact k2
    | exact ⟨k3, k4⟩
    | exact k5
    | exact k6
    | exact k7
    | exact k8
    | exact f0
    | exact f1
    | exact f2
    | exact f3
    | exact f4
    | exact f5
    | exact f6
    | exact hrp.2.2
    | (show szT _; unfold szT; exact Nat.le_trans kd (by decide))
    | exact b0.le (by omega)
    | exact b0.mono (by omega)
    | exact b1.le (by omega)
    | exact b1.mono (by omega)
    | exact b2.le (by omega)
    | exact b2.mono (by omega)
    | exact b3.le (by omega)
    | exact b3.mono (by omega)
    | exact b4.le (by omega)
    | exact b4.mono (by omega)
    | exact b5.le (by omega)
    | exact b5.mono (by omega)
    | exact b6.le (by omega)
    | exact b6.mono (by omega)
    | (simp only [hq, nt, A0]; intros; first | assumption | trivial | (simp_all; done))
    | (have hc : rightC ⟨m_mkind, m_mclient, m_mseq, m_mkey, m_mfin, m_mold, m_mval⟩ = true := hrp.1
       have hl : rightCell ⟨m_lstatus, m_lpe, m_lpr, m_lve, m_lvr, m_lckind, m_lcclient, m_lcseq, m_lckey, m_lcfin, m_lcold, m_lcval, m_laseq, m_lad0, m_lad1, m_lad2, m_lad3, m_lad4, m_lad5, m_lad6, m_lsame⟩ = true := hrp.2.2
       refine ret_v ?_ rfl
       show DV.d (.slc 1 _) = DV.d (.slc 1 (putLet (⟨6, m_src, m_dst, m_irep, m_islot, m_be, m_br, m_mkind, m_mclient, m_mseq, m_mkey, m_mfin, m_mold, m_mval, m_tseq, m_td0, m_td1, m_td2, m_td3, m_td4, m_td5, m_td6, m_lstatus, m_lpe, m_lpr, m_lve, m_lvr, m_lckind, m_lcclient, m_lcseq, m_lckey, m_lcfin, m_lcold, m_lcval, m_laseq, m_lad0, m_lad1, m_lad2, m_lad3, m_lad4, m_lad5, m_lad6, m_lsame, m_fd0, m_fd1, m_fd2, m_fd3, m_fd4, m_fd5, m_fd6, m_data⟩ : Letter)))
       unfold putLet
       rw [if_pos hr]
       try simp only [A0, nc, FsR50, FsW0, FsR60, cmdX_put hc, putCellM_eq hl]
       rfl)
    | (simp; done)
    | exact ⟨by decide, by decide⟩
set_option maxRecDepth 100000 in
theorem v_pl7 (m : Letter) (hp0 : okLet m) (hr : rightL m = true) (e : m.lkind = 7) : FnV Try.prog 18 [m.D] (.d (.slc 1 (putLet m))) := by
  obtain ⟨m_lkind, m_src, m_dst, m_irep, m_islot, m_be, m_br, m_mkind, m_mclient, m_mseq, m_mkey, m_mfin, m_mold, m_mval, m_tseq, m_td0, m_td1, m_td2, m_td3, m_td4, m_td5, m_td6, m_lstatus, m_lpe, m_lpr, m_lve, m_lvr, m_lckind, m_lcclient, m_lcseq, m_lckey, m_lcfin, m_lcold, m_lcval, m_laseq, m_lad0, m_lad1, m_lad2, m_lad3, m_lad4, m_lad5, m_lad6, m_lsame, m_fd0, m_fd1, m_fd2, m_fd3, m_fd4, m_fd5, m_fd6, m_data⟩ := m
  replace e : m_lkind = 7 := e
  subst e
  have hrp := rightL_parts hr
  obtain ⟨GFsR5, hGFsR5⟩ : ∃ F, F = FsR50 := ⟨_, rfl⟩
  obtain ⟨GFsW, hGFsW⟩ : ∃ F, F = FsW0 := ⟨_, rfl⟩
  obtain ⟨GFsR6, hGFsR6⟩ : ∃ F, F = FsR60 := ⟨_, rfl⟩
  have hH : SoundK Try.prog [kn_rightL2 GFsR5, kn_rnum GFsW, kn_inst2 GFsR6, kn_ballot2 GFsR6, kn_cmd2 GFsR6, kn_attr2 GFsR6, kn_putCell2 GFsR6, kn_rtext GFsW] := by subst hGFsR5 hGFsW hGFsR6; exact orK_ok ok_rightL2 (orK_ok ok_rnum (orK_ok ok_inst2 (orK_ok ok_ballot2 (orK_ok ok_cmd2 (orK_ok ok_attr2 (orK_ok ok_putCell2 (orK_ok ok_rtext noK_ok)))))))
  refine FnD_cbv (T := fun _ => tabY [5003] []) (H := fun _ => [kn_rightL2 GFsR5, kn_rnum GFsW, kn_inst2 GFsR6, kn_ballot2 GFsR6, kn_cmd2 GFsR6, kn_attr2 GFsR6, kn_putCell2 GFsR6, kn_rtext GFsW]) (tabY_ok _ _) hH follows_mixed Try.func18 rfl Try.ntmps18 (by simp) fun A X W hA hX hW => ?_
  cbv
  have l0 : A.cmp .lss 0 7 = true := by subst hA; rfl
  cbv at l0
  have l1 : A.cmp .lss 1 7 = true := by subst hA; rfl
  cbv at l1
  have l2 : A.cmp .lss 2 7 = true := by subst hA; rfl
  cbv at l2
  have l3 : A.cmp .lss 3 7 = true := by subst hA; rfl
  cbv at l3
  have l4 : A.cmp .lss 4 7 = true := by subst hA; rfl
  cbv at l4
  have l5 : A.cmp .lss 5 7 = true := by subst hA; rfl
  cbv at l5
  have l6 : A.cmp .lss 6 7 = true := by subst hA; rfl
  cbv at l6
  have l7 : A.cmp .lss 7 7 = false := by subst hA; rfl
  cbv at l7
  have b0 : A.bin .add .i64 0 1 = 1 := by subst hA; rfl
  cbv at b0
  have b1 : A.bin .add .i64 1 1 = 2 := by subst hA; rfl
  cbv at b1
  have b2 : A.bin .add .i64 2 1 = 3 := by subst hA; rfl
  cbv at b2
  have b3 : A.bin .add .i64 3 1 = 4 := by subst hA; rfl
  cbv at b3
  have b4 : A.bin .add .i64 4 1 = 5 := by subst hA; rfl
  cbv at b4
  have b5 : A.bin .add .i64 5 1 = 6 := by subst hA; rfl
  cbv at b5
  have b6 : A.bin .add .i64 6 1 = 7 := by subst hA; rfl
  cbv at b6
  have o0_0 : A.off 0 0 1 = 0 := by subst hA; rfl
  cbv at o0_0
  have o0_1 : A.off 0 1 1 = 1 := by subst hA; rfl
  cbv at o0_1
  have o0_2 : A.off 0 2 1 = 2 := by subst hA; rfl
  cbv at o0_2
  have o0_3 : A.off 0 3 1 = 3 := by subst hA; rfl
  cbv at o0_3
  have o0_4 : A.off 0 4 1 = 4 := by subst hA; rfl
  cbv at o0_4
  have o0_5 : A.off 0 5 1 = 5 := by subst hA; rfl
  cbv at o0_5
  have o0_6 : A.off 0 6 1 = 6 := by subst hA; rfl
  cbv at o0_6
  have hq : GFsR5.rightL2 (⟨7, m_src, m_dst, m_irep, m_islot, m_be, m_br, m_mkind, m_mclient, m_mseq, m_mkey, m_mfin, m_mold, m_mval, m_tseq, m_td0, m_td1, m_td2, m_td3, m_td4, m_td5, m_td6, m_lstatus, m_lpe, m_lpr, m_lve, m_lvr, m_lckind, m_lcclient, m_lcseq, m_lckey, m_lcfin, m_lcold, m_lcval, m_laseq, m_lad0, m_lad1, m_lad2, m_lad3, m_lad4, m_lad5, m_lad6, m_lsame, m_fd0, m_fd1, m_fd2, m_fd3, m_fd4, m_fd5, m_fd6, m_data⟩ : Letter) = true := by subst hGFsR5; exact hr
  have nt : A.not true = false := by subst hA; rfl
  cbv at hq nt
  have f1 : A.cmp .lss 7 1 = false := by subst hA; rfl
  have f2 : A.cmp .gtr 7 11 = false := by subst hA; rfl
  have f3 : A.cmp .lss 7 9 = true := by subst hA; rfl
  have f4 : A.cmp .neq 7 5 = true := by subst hA; rfl
  have g0 : A.cmp .eql 7 1 = false := by subst hA; rfl
  have g1 : A.cmp .eql 7 3 = false := by subst hA; rfl
  have g2 : A.cmp .eql 7 5 = false := by subst hA; rfl
  have g3 : A.cmp .eql 7 2 = false := by subst hA; rfl
  have g4 : A.cmp .eql 7 7 = true := by subst hA; rfl
  have g5 : A.cmp .eql 7 9 = false := by subst hA; rfl
  have g6 : A.cmp .eql 7 11 = false := by subst hA; rfl
  have g7 : A.cmp .eql 7 10 = false := by subst hA; rfl
  have ftf : A.cond false true false = false := by subst hA; rfl
  have fff : A.cond false false false = false := by subst hA; rfl
  cbv at f1 f2 f3 f4 g0 g1 g2 g3 g4 g5 g6 g7 ftf fff
  repeat' first
    | (simp only [hq, nt, f1, f2, f3, f4, g0, g1, g2, g3, g4, g5, g6, g7, ftf, fff, l0, l1, l2, l3, l4, l5, l6, l7, b0, b1, b2, b3, b4, b5, b6, o0_0, o0_1, o0_2, o0_3, o0_4, o0_5, o0_6]; cbv)
    | (refine And.intro ?_ ?_)
  all_goals clear hH
  all_goals subst hA hX hW hGFsR5 hGFsW hGFsR6
  all_goals obtain ⟨⟨k0, k1, k2⟩, ⟨k3, k4⟩, k5, k6, k7, k8, ⟨f0, f1, f2, f3, f4, f5, f6⟩, kd⟩ : okLet (⟨7, m_src, m_dst, m_irep, m_islot, m_be, m_br, m_mkind, m_mclient, m_mseq, m_mkey, m_mfin, m_mold, m_mval, m_tseq, m_td0, m_td1, m_td2, m_td3, m_td4, m_td5, m_td6, m_lstatus, m_lpe, m_lpr, m_lve, m_lvr, m_lckind, m_lcclient, m_lcseq, m_lckey, m_lcfin, m_lcold, m_lcval, m_laseq, m_lad0, m_lad1, m_lad2, m_lad3, m_lad4, m_lad5, m_lad6, m_lsame, m_fd0, m_fd1, m_fd2, m_fd3, m_fd4, m_fd5, m_fd6, m_data⟩ : Letter) := hp0
  all_goals have b0 : isBn 0 [] := ⟨[], rfl, Nat.le_refl _⟩
  all_goals have b1 := (isBn.num b0 7)
  all_goals have b2 := (isBn.num b1 m_src)
  all_goals have b3 := (isBn.num b2 m_dst)
  all_goals have b4 := (isBn.num b3 m_irep)
  all_goals have b5 := (isBn.num b4 m_islot)
  all_goals have b6 := (isBn.ballot b5 ⟨m_be, m_br⟩)
  all_goals have b7 := (isBn.cell b6 hrp.2.2)
  all_goals first
    | (show Region.lexB _ _ = true; kernel_rfl)
    | exact k0
    | exact k1
    | exact k2
    | exact ⟨k3, k4⟩
    | exact k5
    | exact k6
    | exact k7
    | exact k8
    | exact f0
    | exact f1
    | exact f2
    | exact f3
    | exact f4
    | exact f5
    | exact f6
    | exact hrp.2.2
    | (show szT _; unfold szT; exact Nat.le_trans kd (by decide))
    | exact b0.le (by omega)
    | exact b0.mono (by omega)
    | exact b1.le (by omega)
    | exact b1.mono (by omega)
    | exact b2.le (by omega)
    | exact b2.mono (by omega)
    | exact b3.le (by omega)
    | exact b3.mono (by omega)
    | exact b4.le (by omega)
    | exact b4.mono (by omega)
    | exact b5.le (by omega)
    | exact b5.mono (by omega)
    | exact b6.le (by omega)
    | exact b6.mono (by omega)
    | exact b7.le (by omega)
    | exact b7.mono (by omega)
    | (simp only [hq, nt, A0]; intros; first | assumption | trivial | (simp_all; done))
    | (have hc : rightC ⟨m_mkind, m_mclient, m_mseq, m_mkey, m_mfin, m_mold, m_mval⟩ = true := hrp.1
       have hl : rightCell ⟨m_lstatus, m_lpe, m_lpr, m_lve, m_lvr, m_lckind, m_lcclient, m_lcseq, m_lckey, m_lcfin, m_lcold, m_lcval, m_laseq, m_lad0, m_lad1, m_lad2, m_lad3, m_lad4, m_lad5, m_lad6, m_lsame⟩ = true := hrp.2.2
       refine ret_v ?_ rfl
       show DV.d (.slc 1 _) = DV.d (.slc 1 (putLet (⟨7, m_src, m_dst, m_irep, m_islot, m_be, m_br, m_mkind, m_mclient, m_mseq, m_mkey, m_mfin, m_mold, m_mval, m_tseq, m_td0, m_td1, m_td2, m_td3, m_td4, m_td5, m_td6, m_lstatus, m_lpe, m_lpr, m_lve, m_lvr, m_lckind, m_lcclient, m_lcseq, m_lckey, m_lcfin, m_lcold, m_lcval, m_laseq, m_lad0, m_lad1, m_lad2, m_lad3, m_lad4, m_lad5, m_lad6, m_lsame, m_fd0, m_fd1, m_fd2, m_fd3, m_fd4, m_fd5, m_fd6, m_data⟩ : Letter)))
       unfold putLet
       rw [if_pos hr]
       try simp only [A0, nc, FsR50, FsW0, FsR60, cmdX_put hc, putCellM_eq hl]
       rfl)
    | (simp; done)
    | exact ⟨by decide, by decide⟩
set_option maxRecDepth 100000 in
theorem v_pl8 (m : Letter) (hp0 : okLet m) (hr : rightL m = true) (e : m.lkind = 8) : FnV Try.prog 18 [m.D] (.d (.slc 1 (putLet m))) := by
  obtain ⟨m_lkind, m_src, m_dst, m_irep, m_islot, m_be, m_br, m_mkind, m_mclient, m_mseq, m_mkey, m_mfin, m_mold, m_mval, m_tseq, m_td0, m_td1, m_td2, m_td3, m_td4, m_td5, m_td6, m_lstatus, m_lpe, m_lpr, m_lve, m_lvr, m_lckind, m_lcclient, m_lcseq, m_lckey, m_lcfin, m_lcold, m_lcval, m_laseq, m_lad0, m_lad1, m_lad2, m_lad3, m_lad4, m_lad5, m_lad6, m_lsame, m_fd0, m_fd1, m_fd2, m_fd3, m_fd4, m_fd5, m_fd6, m_data⟩ := m
  replace e : m_lkind = 8 := e
  subst e
  have hrp := rightL_parts hr
  obtain ⟨GFsR5, hGFsR5⟩ : ∃ F, F = FsR50 := ⟨_, rfl⟩
  obtain ⟨GFsW, hGFsW⟩ : ∃ F, F = FsW0 := ⟨_, rfl⟩
  obtain ⟨GFsR6, hGFsR6⟩ : ∃ F, F = FsR60 := ⟨_, rfl⟩
  have hH : SoundK Try.prog [kn_rightL2 GFsR5, kn_rnum GFsW, kn_inst2 GFsR6, kn_ballot2 GFsR6, kn_cmd2 GFsR6, kn_attr2 GFsR6, kn_putCell2 GFsR6, kn_rtext GFsW] := by subst hGFsR5 hGFsW hGFsR6; exact orK_ok ok_rightL2 (orK_ok ok_rnum (orK_ok ok_inst2 (orK_ok ok_ballot2 (orK_ok ok_cmd2 (orK_ok ok_attr2 (orK_ok ok_putCell2 (orK_ok ok_rtext noK_ok)))))))
  refine FnD_cbv (T := fun _ => tabY [5003] []) (H := fun _ => [kn_rightL2 GFsR5, kn_rnum GFsW, kn_inst2 GFsR6, kn_ballot2 GFsR6, kn_cmd2 GFsR6, kn_attr2 GFsR6, kn_putCell2 GFsR6, kn_rtext GFsW]) (tabY_ok _ _) hH follows_mixed Try.func18 rfl Try.ntmps18 (by simp) fun A X W hA hX hW => ?_
  cbv
  have l0 : A.cmp .lss 0 7 = true := by subst hA; rfl
  cbv at l0
  have l1 : A.cmp .lss 1 7 = true := by subst hA; rfl
  cbv at l1
  have l2 : A.cmp .lss 2 7 = true := by subst hA; rfl
  cbv at l2
  have l3 : A.cmp .lss 3 7 = true := by subst hA; rfl
  cbv at l3
  have l4 : A.cmp .lss 4 7 = true := by subst hA; rfl
  cbv at l4
  have l5 : A.cmp .lss 5 7 = true := by subst hA; rfl
  cbv at l5
  have l6 : A.cmp .lss 6 7 = true := by subst hA; rfl
  cbv at l6
  have l7 : A.cmp .lss 7 7 = false := by subst hA; rfl
  cbv at l7
  have b0 : A.bin .add .i64 0 1 = 1 := by subst hA; rfl
  cbv at b0
  have b1 : A.bin .add .i64 1 1 = 2 := by subst hA; rfl
  cbv at b1
  have b2 : A.bin .add .i64 2 1 = 3 := by subst hA; rfl
  cbv at b2
  have b3 : A.bin .add .i64 3 1 = 4 := by subst hA; rfl
  cbv at b3
  have b4 : A.bin .add .i64 4 1 = 5 := by subst hA; rfl
  cbv at b4
  have b5 : A.bin .add .i64 5 1 = 6 := by subst hA; rfl
  cbv at b5
  have b6 : A.bin .add .i64 6 1 = 7 := by subst hA; rfl
  cbv at b6
  have o0_0 : A.off 0 0 1 = 0 := by subst hA; rfl
  cbv at o0_0
  have o0_1 : A.off 0 1 1 = 1 := by subst hA; rfl
  cbv at o0_1
  have o0_2 : A.off 0 2 1 = 2 := by subst hA; rfl
  cbv at o0_2
  have o0_3 : A.off 0 3 1 = 3 := by subst hA; rfl
  cbv at o0_3
  have o0_4 : A.off 0 4 1 = 4 := by subst hA; rfl
  cbv at o0_4
  have o0_5 : A.off 0 5 1 = 5 := by subst hA; rfl
  cbv at o0_5
  have o0_6 : A.off 0 6 1 = 6 := by subst hA; rfl
  cbv at o0_6
  have hq : GFsR5.rightL2 (⟨8, m_src, m_dst, m_irep, m_islot, m_be, m_br, m_mkind, m_mclient, m_mseq, m_mkey, m_mfin, m_mold, m_mval, m_tseq, m_td0, m_td1, m_td2, m_td3, m_td4, m_td5, m_td6, m_lstatus, m_lpe, m_lpr, m_lve, m_lvr, m_lckind, m_lcclient, m_lcseq, m_lckey, m_lcfin, m_lcold, m_lcval, m_laseq, m_lad0, m_lad1, m_lad2, m_lad3, m_lad4, m_lad5, m_lad6, m_lsame, m_fd0, m_fd1, m_fd2, m_fd3, m_fd4, m_fd5, m_fd6, m_data⟩ : Letter) = true := by subst hGFsR5; exact hr
  have nt : A.not true = false := by subst hA; rfl
  cbv at hq nt
  have f1 : A.cmp .lss 8 1 = false := by subst hA; rfl
  have f2 : A.cmp .gtr 8 11 = false := by subst hA; rfl
  have f3 : A.cmp .lss 8 9 = true := by subst hA; rfl
  have f4 : A.cmp .neq 8 5 = true := by subst hA; rfl
  have g0 : A.cmp .eql 8 1 = false := by subst hA; rfl
  have g1 : A.cmp .eql 8 3 = false := by subst hA; rfl
  have g2 : A.cmp .eql 8 5 = false := by subst hA; rfl
  have g3 : A.cmp .eql 8 2 = false := by subst hA; rfl
  have g4 : A.cmp .eql 8 7 = false := by subst hA; rfl
  have g5 : A.cmp .eql 8 9 = false := by subst hA; rfl
  have g6 : A.cmp .eql 8 11 = false := by subst hA; rfl
  have g7 : A.cmp .eql 8 10 = false := by subst hA; rfl
  have ftf : A.cond false true false = false := by subst hA; rfl
  have fff : A.cond false false false = false := by subst hA; rfl
  cbv at f1 f2 f3 f4 g0 g1 g2 g3 g4 g5 g6 g7 ftf fff
  repeat' first
    | (simp only [hq, nt, f1, f2, f3, f4, g0, g1, g2, g3, g4, g5, g6, g7, ftf, fff, l0, l1, l2, l3, l4, l5, l6, l7, b0, b1, b2, b3, b4, b5, b6, o0_0, o0_1, o0_2, o0_3, o0_4, o0_5, o0_6]; cbv)
    | (refine And.intro ?_ ?_)
  all_goals clear hH
  all_goals subst hA hX hW hGFsR5 hGFsW hGFsR6
  all_goals obtain ⟨⟨k0, k1, k2⟩, ⟨k3, k4⟩, k5, k6, k7, k8, ⟨f0, f1, f2, f3, f4, f5, f6⟩, kd⟩ : okLet (⟨8, m_src, m_dst, m_irep, m_islot, m_be, m_br, m_mkind, m_mclient, m_mseq, m_mkey, m_mfin, m_mold, m_mval, m_tseq, m_td0, m_td1, m_td2, m_td3, m_td4, m_td5, m_td6, m_lstatus, m_lpe, m_lpr, m_lve, m_lvr, m_lckind, m_lcclient, m_lcseq, m_lckey, m_lcfin, m_lcold, m_lcval, m_laseq, m_lad0, m_lad1, m_lad2, m_lad3, m_lad4, m_lad5, m_lad6, m_lsame, m_fd0, m_fd1, m_fd2, m_fd3, m_fd4, m_fd5, m_fd6, m_data⟩ : Letter) := hp0
  all_goals have b0 : isBn 0 [] := ⟨[], rfl, Nat.le_refl _⟩
  all_goals have b1 := (isBn.num b0 8)
  all_goals have b2 := (isBn.num b1 m_src)
  all_goals have b3 := (isBn.num b2 m_dst)
  all_goals have b4 := (isBn.num b3 m_irep)
  all_goals have b5 := (isBn.num b4 m_islot)
  all_goals have b6 := (isBn.ballot b5 ⟨m_be, m_br⟩)
  all_goals first
    | (show Region.lexB _ _ = true; kernel_rfl)
    | exact k0
    | exact k1
    | exact k2
    | exact ⟨k3, k4⟩
    | exact k5
    | exact k6
    | exact k7
    | exact k8
    | exact f0
    | exact f1
    | exact f2
    | exact f3
    | exact f4
    | exact f5
    | exact f6
    | exact hrp.2.2
    | (show szT _; unfold szT; exact Nat.le_trans kd (by decide))
    | exact b0.le (by omega)
    | exact b0.mono (by omega)
    | exact b1.le (by omega)
    | exact b1.mono (by omega)
    | exact b2.le (by omega)
    | exact b2.mono (by omega)
    | exact b3.le (by omega)
    | exact b3.mono (by omega)
    | exact b4.le (by omega)
    | exact b4.mono (by omega)
    | exact b5.le (by omega)
    | exact b5.mono (by omega)
    | exact b6.le (by omega)
    | exact b6.mono (by omega)
    | (simp only [hq, nt, A0]; intros; first | assumption | trivial | (simp_all; done))
    | (have hc : rightC ⟨m_mkind, m_mclient, m_mseq, m_mkey, m_mfin, m_mold, m_mval⟩ = true := hrp.1
       have hl : rightCell ⟨m_lstatus, m_lpe, m_lpr, m_lve, m_lvr, m_lckind, m_lcclient, m_lcseq, m_lckey, m_lcfin, m_lcold, m_lcval, m_laseq, m_lad0, m_lad1, m_lad2, m_lad3, m_lad4, m_lad5, m_lad6, m_lsame⟩ = true := hrp.2.2
       refine ret_v ?_ rfl
       show DV.d (.slc 1 _) = DV.d (.slc 1 (putLet (⟨8, m_src, m_dst, m_irep, m_islot, m_be, m_br, m_mkind, m_mclient, m_mseq, m_mkey, m_mfin, m_mold, m_mval, m_tseq, m_td0, m_td1, m_td2, m_td3, m_td4, m_td5, m_td6, m_lstatus, m_lpe, m_lpr, m_lve, m_lvr, m_lckind, m_lcclient, m_lcseq, m_lckey, m_lcfin, m_lcold, m_lcval, m_laseq, m_lad0, m_lad1, m_lad2, m_lad3, m_lad4, m_lad5, m_lad6, m_lsame, m_fd0, m_fd1, m_fd2, m_fd3, m_fd4, m_fd5, m_fd6, m_data⟩ : Letter)))
       unfold putLet
       rw [if_pos hr]
       try simp only [A0, nc, FsR50, FsW0, FsR60, cmdX_put hc, putCellM_eq hl]
       rfl)
    | (simp; done)
    | exact ⟨by decide, by decide⟩
set_option maxRecDepth 100000 in
theorem v_pl9 (m : Letter) (hp0 : okLet m) (hr : rightL m = true) (e : m.lkind = 9) : FnV Try.prog 18 [m.D] (.d (.slc 1 (putLet m))) := by
  obtain ⟨m_lkind, m_src, m_dst, m_irep, m_islot, m_be, m_br, m_mkind, m_mclient, m_mseq, m_mkey, m_mfin, m_mold, m_mval, m_tseq, m_td0, m_td1, m_td2, m_td3, m_td4, m_td5, m_td6, m_lstatus, m_lpe, m_lpr, m_lve, m_lvr, m_lckind, m_lcclient, m_lcseq, m_lckey, m_lcfin, m_lcold, m_lcval, m_laseq, m_lad0, m_lad1, m_lad2, m_lad3, m_lad4, m_lad5, m_lad6, m_lsame, m_fd0, m_fd1, m_fd2, m_fd3, m_fd4, m_fd5, m_fd6, m_data⟩ := m
  replace e : m_lkind = 9 := e
  subst e
  have hrp := rightL_parts hr
  obtain ⟨GFsR5, hGFsR5⟩ : ∃ F, F = FsR50 := ⟨_, rfl⟩
  obtain ⟨GFsW, hGFsW⟩ : ∃ F, F = FsW0 := ⟨_, rfl⟩
  obtain ⟨GFsR6, hGFsR6⟩ : ∃ F, F = FsR60 := ⟨_, rfl⟩
  have hH : SoundK Try.prog [kn_rightL2 GFsR5, kn_rnum GFsW, kn_inst2 GFsR6, kn_ballot2 GFsR6, kn_cmd2 GFsR6, kn_attr2 GFsR6, kn_putCell2 GFsR6, kn_rtext GFsW] := by subst hGFsR5 hGFsW hGFsR6; exact orK_ok ok_rightL2 (orK_ok ok_rnum (orK_ok ok_inst2 (orK_ok ok_ballot2 (orK_ok ok_cmd2 (orK_ok ok_attr2 (orK_ok ok_putCell2 (orK_ok ok_rtext noK_ok)))))))
  refine FnD_cbv (T := fun _ => tabY [5003] []) (H := fun _ => [kn_rightL2 GFsR5, kn_rnum GFsW, kn_inst2 GFsR6, kn_ballot2 GFsR6, kn_cmd2 GFsR6, kn_attr2 GFsR6, kn_putCell2 GFsR6, kn_rtext GFsW]) (tabY_ok _ _) hH follows_mixed Try.func18 rfl Try.ntmps18 (by simp) fun A X W hA hX hW => ?_
  cbv
  have l0 : A.cmp .lss 0 7 = true := by subst hA; rfl
  cbv at l0
  have l1 : A.cmp .lss 1 7 = true := by subst hA; rfl
  cbv at l1
  have l2 : A.cmp .lss 2 7 = true := by subst hA; rfl
  cbv at l2
  have l3 : A.cmp .lss 3 7 = true := by subst hA; rfl
  cbv at l3
  have l4 : A.cmp .lss 4 7 = true := by subst hA; rfl
  cbv at l4
  have l5 : A.cmp .lss 5 7 = true := by subst hA; rfl
  cbv at l5
  have l6 : A.cmp .lss 6 7 = true := by subst hA; rfl
  cbv at l6
  have l7 : A.cmp .lss 7 7 = false := by subst hA; rfl
  cbv at l7
  have b0 : A.bin .add .i64 0 1 = 1 := by subst hA; rfl
  cbv at b0
  have b1 : A.bin .add .i64 1 1 = 2 := by subst hA; rfl
  cbv at b1
  have b2 : A.bin .add .i64 2 1 = 3 := by subst hA; rfl
  cbv at b2
  have b3 : A.bin .add .i64 3 1 = 4 := by subst hA; rfl
  cbv at b3
  have b4 : A.bin .add .i64 4 1 = 5 := by subst hA; rfl
  cbv at b4
  have b5 : A.bin .add .i64 5 1 = 6 := by subst hA; rfl
  cbv at b5
  have b6 : A.bin .add .i64 6 1 = 7 := by subst hA; rfl
  cbv at b6
  have o0_0 : A.off 0 0 1 = 0 := by subst hA; rfl
  cbv at o0_0
  have o0_1 : A.off 0 1 1 = 1 := by subst hA; rfl
  cbv at o0_1
  have o0_2 : A.off 0 2 1 = 2 := by subst hA; rfl
  cbv at o0_2
  have o0_3 : A.off 0 3 1 = 3 := by subst hA; rfl
  cbv at o0_3
  have o0_4 : A.off 0 4 1 = 4 := by subst hA; rfl
  cbv at o0_4
  have o0_5 : A.off 0 5 1 = 5 := by subst hA; rfl
  cbv at o0_5
  have o0_6 : A.off 0 6 1 = 6 := by subst hA; rfl
  cbv at o0_6
  have hq : GFsR5.rightL2 (⟨9, m_src, m_dst, m_irep, m_islot, m_be, m_br, m_mkind, m_mclient, m_mseq, m_mkey, m_mfin, m_mold, m_mval, m_tseq, m_td0, m_td1, m_td2, m_td3, m_td4, m_td5, m_td6, m_lstatus, m_lpe, m_lpr, m_lve, m_lvr, m_lckind, m_lcclient, m_lcseq, m_lckey, m_lcfin, m_lcold, m_lcval, m_laseq, m_lad0, m_lad1, m_lad2, m_lad3, m_lad4, m_lad5, m_lad6, m_lsame, m_fd0, m_fd1, m_fd2, m_fd3, m_fd4, m_fd5, m_fd6, m_data⟩ : Letter) = true := by subst hGFsR5; exact hr
  have nt : A.not true = false := by subst hA; rfl
  cbv at hq nt
  have f1 : A.cmp .lss 9 1 = false := by subst hA; rfl
  have f2 : A.cmp .gtr 9 11 = false := by subst hA; rfl
  have f3 : A.cmp .lss 9 9 = false := by subst hA; rfl
  have f4 : A.cmp .neq 9 5 = true := by subst hA; rfl
  have g0 : A.cmp .eql 9 1 = false := by subst hA; rfl
  have g1 : A.cmp .eql 9 3 = false := by subst hA; rfl
  have g2 : A.cmp .eql 9 5 = false := by subst hA; rfl
  have g3 : A.cmp .eql 9 2 = false := by subst hA; rfl
  have g4 : A.cmp .eql 9 7 = false := by subst hA; rfl
  have g5 : A.cmp .eql 9 9 = true := by subst hA; rfl
  have g6 : A.cmp .eql 9 11 = false := by subst hA; rfl
  have g7 : A.cmp .eql 9 10 = false := by subst hA; rfl
  have ftf : A.cond false true false = false := by subst hA; rfl
  have fff : A.cond false false false = false := by subst hA; rfl
  cbv at f1 f2 f3 f4 g0 g1 g2 g3 g4 g5 g6 g7 ftf fff
  repeat' first
    | (simp only [hq, nt, f1, f2, f3, f4, g0, g1, g2, g3, g4, g5, g6, g7, ftf, fff, l0, l1, l2, l3, l4, l5, l6, l7, b0, b1, b2, b3, b4, b5, b6, o0_0, o0_1, o0_2, o0_3, o0_4, o0_5, o0_6]; cbv)
    | (refine And.intro ?_ ?_)
  rotate_right 1
  · refine unrollL (T := fun _ => tabY [5003] []) (H := fun _ => [kn_rightL2 GFsR5, kn_rnum GFsW, kn_inst2 GFsR6, kn_ballot2 GFsR6, kn_cmd2 GFsR6, kn_attr2 GFsR6, kn_putCell2 GFsR6, kn_rtext GFsW]) (tabY_ok _ _) hH follows_mixed hA hX 9 fun R2 hR2 => ?_
    cbv
    refine hR2 _ _ _ ?_
    cbv
    repeat' first
      | (simp only [hq, nt, f1, f2, f3, f4, g0, g1, g2, g3, g4, g5, g6, g7, ftf, fff, l0, l1, l2, l3, l4, l5, l6, l7, b0, b1, b2, b3, b4, b5, b6, o0_0, o0_1, o0_2, o0_3, o0_4, o0_5, o0_6]; cbv)
      | (refine And.intro ?_ ?_)
      | (refine hR2 _ _ _ ?_; cbv)
    all_goals clear hR2
    all_goals clear hH
    all_goals subst hA hX hW hGFsR5 hGFsW hGFsR6
    all_goals obtain ⟨⟨k0, k1, k2⟩, ⟨k3, k4⟩, k5, k6, k7, k8, ⟨f0, f1, f2, f3, f4, f5, f6⟩, kd⟩ : okLet (⟨9, m_src, m_dst, m_irep, m_islot, m_be, m_br, m_mkind, m_mclient, m_mseq, m_mkey, m_mfin, m_mold, m_mval, m_tseq, m_td0, m_td1, m_td2, m_td3, m_td4, m_td5, m_td6, m_lstatus, m_lpe, m_lpr, m_lve, m_lvr, m_lckind, m_lcclient, m_lcseq, m_lckey, m_lcfin, m_lcold, m_lcval, m_laseq, m_lad0, m_lad1, m_lad2, m_lad3, m_lad4, m_lad5, m_lad6, m_lsame, m_fd0, m_fd1, m_fd2, m_fd3, m_fd4, m_fd5, m_fd6, m_data⟩ : Letter) := hp0
    all_goals have b0 : isBn 0 [] := ⟨[], rfl, Nat.le_refl _⟩
    all_goals have b1 := (isBn.num b0 9)
    all_goals have b2 := (isBn.num b1 m_src)
    all_goals have b3 := (isBn.num b2 m_dst)
    all_goals have b4 := (isBn.num b3 m_fd0)
    all_goals have b5 := (isBn.num b4 m_fd1)
    all_goals have b6 := (isBn.num b5 m_fd2)
    all_goals have b7 := (isBn.num b6 m_fd3)
    all_goals have b8 := (isBn.num b7 m_fd4)
    all_goals have b9 := (isBn.num b8 m_fd5)
    all_goals have b10 := (isBn.num b9 m_fd6)
    all_goals first
      | (show Region.lexB _ _ = true; kernel_rfl)
      | exact k0
      | exact k1
      | exact k2
      | exact ⟨k3, k4⟩
      | exact k5
      | exact k6
      | exact k7
      | exact k8
      | exact f0
      | exact f1
      | exact f2
      | exact f3
      | exact f4
      | exact f5
      | exact f6
      | exact hrp.2.2
      | (show szT _; unfold szT; exact Nat.le_trans kd (by decide))
      | exact b0.le (by omega)
      | exact b0.mono (by omega)
      | exact b1.le (by omega)
      | exact b1.mono (by omega)
      | exact b2.le (by omega)
      | exact b2.mono (by omega)
      | exact b3.le (by omega)
      | exact b3.mono (by omega)
      | exact b4.le (by omega)
      | exact b4.mono (by omega)
      | exact b5.le (by omega)
      | exact b5.mono (by omega)
      | exact b6.le (by omega)
      | exact b6.mono (by omega)
      | exact b7.le (by omega)
      | exact b7.mono (by omega)
      | exact b8.le (by omega)
      | exact b8.mono (by omega)
      | exact b9.le (by omega)
      | exact b9.mono (by omega)
      | exact b10.le (by omega)
      | exact b10.mono (by omega)
      | (simp only [hq, nt, A0]; intros; first | assumption | trivial | (simp_all; done))
      | (have hc : rightC ⟨m_mkind, m_mclient, m_mseq, m_mkey, m_mfin, m_mold, m_mval⟩ = true := hrp.1
         have hl : rightCell ⟨m_lstatus, m_lpe, m_lpr, m_lve, m_lvr, m_lckind, m_lcclient, m_lcseq, m_lckey, m_lcfin, m_lcold, m_lcval, m_laseq, m_lad0, m_lad1, m_lad2, m_lad3, m_lad4, m_lad5, m_lad6, m_lsame⟩ = true := hrp.2.2
         refine ret_v ?_ rfl
         show DV.d (.slc 1 _) = DV.d (.slc 1 (putLet (⟨9, m_src, m_dst, m_irep, m_islot, m_be, m_br, m_mkind, m_mclient, m_mseq, m_mkey, m_mfin, m_mold, m_mval, m_tseq, m_td0, m_td1, m_td2, m_td3, m_td4, m_td5, m_td6, m_lstatus, m_lpe, m_lpr, m_lve, m_lvr, m_lckind, m_lcclient, m_lcseq, m_lckey, m_lcfin, m_lcold, m_lcval, m_laseq, m_lad0, m_lad1, m_lad2, m_lad3, m_lad4, m_lad5, m_lad6, m_lsame, m_fd0, m_fd1, m_fd2, m_fd3, m_fd4, m_fd5, m_fd6, m_data⟩ : Letter)))
         unfold putLet
         rw [if_pos hr]
         try simp only [A0, nc, FsR50, FsW0, FsR60, cmdX_put hc, putCellM_eq hl]
         rfl)
      | (simp; done)
      | exact ⟨by decide, by decide⟩
  all_goals clear hH
  all_goals subst hA hX hW hGFsR5 hGFsW hGFsR6
  all_goals obtain ⟨⟨k0, k1, k2⟩, ⟨k3, k4⟩, k5, k6, k7, k8, ⟨f0, f1, f2, f3, f4, f5, f6⟩, kd⟩ : okLet (⟨9, m_src, m_dst, m_irep, m_islot, m_be, m_br, m_mkind, m_mclient, m_mseq, m_mkey, m_mfin, m_mold, m_mval, m_tseq, m_td0, m_td1, m_td2, m_td3, m_td4, m_td5, m_td6, m_lstatus, m_lpe, m_lpr, m_lve, m_lvr, m_lckind, m_lcclient, m_lcseq, m_lckey, m_lcfin, m_lcold, m_lcval, m_laseq, m_lad0, m_lad1, m_lad2, m_lad3, m_lad4, m_lad5, m_lad6, m_lsame, m_fd0, m_fd1, m_fd2, m_fd3, m_fd4, m_fd5, m_fd6, m_data⟩ : Letter) := hp0
  all_goals have b0 : isBn 0 [] := ⟨[], rfl, Nat.le_refl _⟩
  all_goals have b1 := (isBn.num b0 9)
  all_goals have b2 := (isBn.num b1 m_src)
  all_goals have b3 := (isBn.num b2 m_dst)
  all_goals have b4 := (isBn.num b3 m_fd0)
  all_goals have b5 := (isBn.num b4 m_fd1)
  all_goals have b6 := (isBn.num b5 m_fd2)
  all_goals have b7 := (isBn.num b6 m_fd3)
  all_goals have b8 := (isBn.num b7 m_fd4)
  all_goals have b9 := (isBn.num b8 m_fd5)
  all_goals have b10 := (isBn.num b9 m_fd6)
  all_goals first
    | (show Region.lexB _ _ = true; kernel_rfl)
    | exact k0
    | exact k1
    | exact k2
    | exact ⟨k3, k4⟩
    | exact k5
    | exact k6
    | exact k7
    | exact k8
    | exact f0
    | exact f1
    | exact f2
    | exact f3
    | exact f4
    | exact f5
    | exact f6
    | exact hrp.2.2
    | (show szT _; unfold szT; exact Nat.le_trans kd (by decide))
    | exact b0.le (by omega)
    | exact b0.mono (by omega)
    | exact b1.le (by omega)
    | exact b1.mono (by omega)
    | exact b2.le (by omega)
    | exact b2.mono (by omega)
    | exact b3.le (by omega)
    | exact b3.mono (by omega)
    | exact b4.le (by omega)
    | exact b4.mono (by omega)
    | exact b5.le (by omega)
    | exact b5.mono (by omega)
    | exact b6.le (by omega)
    | exact b6.mono (by omega)
    | exact b7.le (by omega)
    | exact b7.mono (by omega)
    | exact b8.le (by omega)
    | exact b8.mono (by omega)
    | exact b9.le (by omega)
    | exact b9.mono (by omega)
    | exact b10.le (by omega)
    | exact b10.mono (by omega)
    | (simp only [hq, nt, A0]; intros; first | assumption | trivial | (simp_all; done))
    | (have hc : rightC ⟨m_mkind, m_mclient, m_mseq, m_mkey, m_mfin, m_mold, m_mval⟩ = true := hrp.1
       have hl : rightCell ⟨m_lstatus, m_lpe, m_lpr, m_lve, m_lvr, m_lckind, m_lcclient, m_lcseq, m_lckey, m_lcfin, m_lcold, m_lcval, m_laseq, m_lad0, m_lad1, m_lad2, m_lad3, m_lad4, m_lad5, m_lad6, m_lsame⟩ = true := hrp.2.2
       refine ret_v ?_ rfl
       show DV.d (.slc 1 _) = DV.d (.slc 1 (putLet (⟨9, m_src, m_dst, m_irep, m_islot, m_be, m_br, m_mkind, m_mclient, m_mseq, m_mkey, m_mfin, m_mold, m_mval, m_tseq, m_td0, m_td1, m_td2, m_td3, m_td4, m_td5, m_td6, m_lstatus, m_lpe, m_lpr, m_lve, m_lvr, m_lckind, m_lcclient, m_lcseq, m_lckey, m_lcfin, m_lcold, m_lcval, m_laseq, m_lad0, m_lad1, m_lad2, m_lad3, m_lad4, m_lad5, m_lad6, m_lsame, m_fd0, m_fd1, m_fd2, m_fd3, m_fd4, m_fd5, m_fd6, m_data⟩ : Letter)))
       unfold putLet
       rw [if_pos hr]
       try simp only [A0, nc, FsR50, FsW0, FsR60, cmdX_put hc, putCellM_eq hl]
       rfl)
    | (simp; done)
    | exact ⟨by decide, by decide⟩
set_option maxRecDepth 100000 in
theorem v_pl10 (m : Letter) (hp0 : okLet m) (hr : rightL m = true) (e : m.lkind = 10) : FnV Try.prog 18 [m.D] (.d (.slc 1 (putLet m))) := by
  obtain ⟨m_lkind, m_src, m_dst, m_irep, m_islot, m_be, m_br, m_mkind, m_mclient, m_mseq, m_mkey, m_mfin, m_mold, m_mval, m_tseq, m_td0, m_td1, m_td2, m_td3, m_td4, m_td5, m_td6, m_lstatus, m_lpe, m_lpr, m_lve, m_lvr, m_lckind, m_lcclient, m_lcseq, m_lckey, m_lcfin, m_lcold, m_lcval, m_laseq, m_lad0, m_lad1, m_lad2, m_lad3, m_lad4, m_lad5, m_lad6, m_lsame, m_fd0, m_fd1, m_fd2, m_fd3, m_fd4, m_fd5, m_fd6, m_data⟩ := m
  replace e : m_lkind = 10 := e
  subst e
  have hrp := rightL_parts hr
  obtain ⟨GFsR5, hGFsR5⟩ : ∃ F, F = FsR50 := ⟨_, rfl⟩
  obtain ⟨GFsW, hGFsW⟩ : ∃ F, F = FsW0 := ⟨_, rfl⟩
  obtain ⟨GFsR6, hGFsR6⟩ : ∃ F, F = FsR60 := ⟨_, rfl⟩
  have hH : SoundK Try.prog [kn_rightL2 GFsR5, kn_rnum GFsW, kn_inst2 GFsR6, kn_ballot2 GFsR6, kn_cmd2 GFsR6, kn_attr2 GFsR6, kn_putCell2 GFsR6, kn_rtext GFsW] := by subst hGFsR5 hGFsW hGFsR6; exact orK_ok ok_rightL2 (orK_ok ok_rnum (orK_ok ok_inst2 (orK_ok ok_ballot2 (orK_ok ok_cmd2 (orK_ok ok_attr2 (orK_ok ok_putCell2 (orK_ok ok_rtext noK_ok)))))))
  refine FnD_cbv (T := fun _ => tabY [5003] []) (H := fun _ => [kn_rightL2 GFsR5, kn_rnum GFsW, kn_inst2 GFsR6, kn_ballot2 GFsR6, kn_cmd2 GFsR6, kn_attr2 GFsR6, kn_putCell2 GFsR6, kn_rtext GFsW]) (tabY_ok _ _) hH follows_mixed Try.func18 rfl Try.ntmps18 (by simp) fun A X W hA hX hW => ?_
  cbv
  have l0 : A.cmp .lss 0 7 = true := by subst hA; rfl
  cbv at l0
  have l1 : A.cmp .lss 1 7 = true := by subst hA; rfl
  cbv at l1
  have l2 : A.cmp .lss 2 7 = true := by subst hA; rfl
  cbv at l2
  have l3 : A.cmp .lss 3 7 = true := by subst hA; rfl
  cbv at l3
  have l4 : A.cmp .lss 4 7 = true := by subst hA; rfl
  cbv at l4
  have l5 : A.cmp .lss 5 7 = true := by subst hA; rfl
  cbv at l5
  have l6 : A.cmp .lss 6 7 = true := by subst hA; rfl
  cbv at l6
  have l7 : A.cmp .lss 7 7 = false := by subst hA; rfl
  cbv at l7
  have b0 : A.bin .add .i64 0 1 = 1 := by subst hA; rfl
  cbv at b0
  have b1 : A.bin .add .i64 1 1 = 2 := by subst hA; rfl
  cbv at b1
  have b2 : A.bin .add .i64 2 1 = 3 := by subst hA; rfl
  cbv at b2
  have b3 : A.bin .add .i64 3 1 = 4 := by subst hA; rfl
  cbv at b3
  have b4 : A.bin .add .i64 4 1 = 5 := by subst hA; rfl
  cbv at b4
  have b5 : A.bin .add .i64 5 1 = 6 := by subst hA; rfl
  cbv at b5
  have b6 : A.bin .add .i64 6 1 = 7 := by subst hA; rfl
  cbv at b6
  have o0_0 : A.off 0 0 1 = 0 := by subst hA; rfl
  cbv at o0_0
  have o0_1 : A.off 0 1 1 = 1 := by subst hA; rfl
  cbv at o0_1
  have o0_2 : A.off 0 2 1 = 2 := by subst hA; rfl
  cbv at o0_2
  have o0_3 : A.off 0 3 1 = 3 := by subst hA; rfl
  cbv at o0_3
  have o0_4 : A.off 0 4 1 = 4 := by subst hA; rfl
  cbv at o0_4
  have o0_5 : A.off 0 5 1 = 5 := by subst hA; rfl
  cbv at o0_5
  have o0_6 : A.off 0 6 1 = 6 := by subst hA; rfl
  cbv at o0_6
  have hq : GFsR5.rightL2 (⟨10, m_src, m_dst, m_irep, m_islot, m_be, m_br, m_mkind, m_mclient, m_mseq, m_mkey, m_mfin, m_mold, m_mval, m_tseq, m_td0, m_td1, m_td2, m_td3, m_td4, m_td5, m_td6, m_lstatus, m_lpe, m_lpr, m_lve, m_lvr, m_lckind, m_lcclient, m_lcseq, m_lckey, m_lcfin, m_lcold, m_lcval, m_laseq, m_lad0, m_lad1, m_lad2, m_lad3, m_lad4, m_lad5, m_lad6, m_lsame, m_fd0, m_fd1, m_fd2, m_fd3, m_fd4, m_fd5, m_fd6, m_data⟩ : Letter) = true := by subst hGFsR5; exact hr
  have nt : A.not true = false := by subst hA; rfl
  cbv at hq nt
  have f1 : A.cmp .lss 10 1 = false := by subst hA; rfl
  have f2 : A.cmp .gtr 10 11 = false := by subst hA; rfl
  have f3 : A.cmp .lss 10 9 = false := by subst hA; rfl
  have f4 : A.cmp .neq 10 5 = true := by subst hA; rfl
  have g0 : A.cmp .eql 10 1 = false := by subst hA; rfl
  have g1 : A.cmp .eql 10 3 = false := by subst hA; rfl
  have g2 : A.cmp .eql 10 5 = false := by subst hA; rfl
  have g3 : A.cmp .eql 10 2 = false := by subst hA; rfl
  have g4 : A.cmp .eql 10 7 = false := by subst hA; rfl
  have g5 : A.cmp .eql 10 9 = false := by subst hA; rfl
  have g6 : A.cmp .eql 10 11 = false := by subst hA; rfl
  have g7 : A.cmp .eql 10 10 = true := by subst hA; rfl
  have ftf : A.cond false true false = false := by subst hA; rfl
  have fff : A.cond false false false = false := by subst hA; rfl
  cbv at f1 f2 f3 f4 g0 g1 g2 g3 g4 g5 g6 g7 ftf fff
  repeat' first
    | (simp only [hq, nt, f1, f2, f3, f4, g0, g1, g2, g3, g4, g5, g6, g7, ftf, fff, l0, l1, l2, l3, l4, l5, l6, l7, b0, b1, b2, b3, b4, b5, b6, o0_0, o0_1, o0_2, o0_3, o0_4, o0_5, o0_6]; cbv)
    | (refine And.intro ?_ ?_)
  all_goals clear hH
  all_goals subst hA hX hW hGFsR5 hGFsW hGFsR6
  all_goals obtain ⟨⟨k0, k1, k2⟩, ⟨k3, k4⟩, k5, k6, k7, k8, ⟨f0, f1, f2, f3, f4, f5, f6⟩, kd⟩ : okLet (⟨10, m_src, m_dst, m_irep, m_islot, m_be, m_br, m_mkind, m_mclient, m_mseq, m_mkey, m_mfin, m_mold, m_mval, m_tseq, m_td0, m_td1, m_td2, m_td3, m_td4, m_td5, m_td6, m_lstatus, m_lpe, m_lpr, m_lve, m_lvr, m_lckind, m_lcclient, m_lcseq, m_lckey, m_lcfin, m_lcold, m_lcval, m_laseq, m_lad0, m_lad1, m_lad2, m_lad3, m_lad4, m_lad5, m_lad6, m_lsame, m_fd0, m_fd1, m_fd2, m_fd3, m_fd4, m_fd5, m_fd6, m_data⟩ : Letter) := hp0
  all_goals have b0 : isBn 0 [] := ⟨[], rfl, Nat.le_refl _⟩
  all_goals have b1 := (isBn.num b0 10)
  all_goals have b2 := (isBn.num b1 m_src)
  all_goals have b3 := (isBn.num b2 m_dst)
  all_goals first
    | (show Region.lexB _ _ = true; kernel_rfl)
    | exact k0
    | exact k1
    | exact k2
    | exact ⟨k3, k4⟩
    | exact k5
    | exact k6
    | exact k7
    | exact k8
    | exact f0
    | exact f1
    | exact f2
    | exact f3
    | exact f4
    | exact f5
    | exact f6
    | exact hrp.2.2
    | (show szT _; unfold szT; exact Nat.le_trans kd (by decide))
    | exact b0.le (by omega)
    | exact b0.mono (by omega)
    | exact b1.le (by omega)
    | exact b1.mono (by omega)
    | exact b2.le (by omega)
    | exact b2.mono (by omega)
    | exact b3.le (by omega)
    | exact b3.mono (by omega)
    | (simp only [hq, nt, A0]; intros; first | assumption | trivial | (simp_all; done))
    | (have hc : rightC ⟨m_mkind, m_mclient, m_mseq, m_mkey, m_mfin, m_mold, m_mval⟩ = true := hrp.1
       have hl : rightCell ⟨m_lstatus, m_lpe, m_lpr, m_lve, m_lvr, m_lckind, m_lcclient, m_lcseq, m_lckey, m_lcfin, m_lcold, m_lcval, m_laseq, m_lad0, m_lad1, m_lad2, m_lad3, m_lad4, m_lad5, m_lad6, m_lsame⟩ = true := hrp.2.2
       refine ret_v ?_ rfl
       show DV.d (.slc 1 _) = DV.d (.slc 1 (putLet (⟨10, m_src, m_dst, m_irep, m_islot, m_be, m_br, m_mkind, m_mclient, m_mseq, m_mkey, m_mfin, m_mold, m_mval, m_tseq, m_td0, m_td1, m_td2, m_td3, m_td4, m_td5, m_td6, m_lstatus, m_lpe, m_lpr, m_lve, m_lvr, m_lckind, m_lcclient, m_lcseq, m_lckey, m_lcfin, m_lcold, m_lcval, m_laseq, m_lad0, m_lad1, m_lad2, m_lad3, m_lad4, m_lad5, m_lad6, m_lsame, m_fd0, m_fd1, m_fd2, m_fd3, m_fd4, m_fd5, m_fd6, m_data⟩ : Letter)))
       unfold putLet
       rw [if_pos hr]
       try simp only [A0, nc, FsR50, FsW0, FsR60, cmdX_put hc, putCellM_eq hl]
       rfl)
    | (simp; done)
    | exact ⟨by decide, by decide⟩
set_option maxRecDepth 100000 in
theorem v_pl11 (m : Letter) (hp0 : okLet m) (hr : rightL m = true) (e : m.lkind = 11) : FnV Try.prog 18 [m.D] (.d (.slc 1 (putLet m))) := by
  obtain ⟨m_lkind, m_src, m_dst, m_irep, m_islot, m_be, m_br, m_mkind, m_mclient, m_mseq, m_mkey, m_mfin, m_mold, m_mval, m_tseq, m_td0, m_td1, m_td2, m_td3, m_td4, m_td5, m_td6, m_lstatus, m_lpe, m_lpr, m_lve, m_lvr, m_lckind, m_lcclient, m_lcseq, m_lckey, m_lcfin, m_lcold, m_lcval, m_laseq, m_lad0, m_lad1, m_lad2, m_lad3, m_lad4, m_lad5, m_lad6, m_lsame, m_fd0, m_fd1, m_fd2, m_fd3, m_fd4, m_fd5, m_fd6, m_data⟩ := m
  replace e : m_lkind = 11 := e
  subst e
  have hrp := rightL_parts hr
  obtain ⟨GFsR5, hGFsR5⟩ : ∃ F, F = FsR50 := ⟨_, rfl⟩
  obtain ⟨GFsW, hGFsW⟩ : ∃ F, F = FsW0 := ⟨_, rfl⟩
  obtain ⟨GFsR6, hGFsR6⟩ : ∃ F, F = FsR60 := ⟨_, rfl⟩
  have hH : SoundK Try.prog [kn_rightL2 GFsR5, kn_rnum GFsW, kn_inst2 GFsR6, kn_ballot2 GFsR6, kn_cmd2 GFsR6, kn_attr2 GFsR6, kn_putCell2 GFsR6, kn_rtext GFsW] := by subst hGFsR5 hGFsW hGFsR6; exact orK_ok ok_rightL2 (orK_ok ok_rnum (orK_ok ok_inst2 (orK_ok ok_ballot2 (orK_ok ok_cmd2 (orK_ok ok_attr2 (orK_ok ok_putCell2 (orK_ok ok_rtext noK_ok)))))))
  refine FnD_cbv (T := fun _ => tabY [5003] []) (H := fun _ => [kn_rightL2 GFsR5, kn_rnum GFsW, kn_inst2 GFsR6, kn_ballot2 GFsR6, kn_cmd2 GFsR6, kn_attr2 GFsR6, kn_putCell2 GFsR6, kn_rtext GFsW]) (tabY_ok _ _) hH follows_mixed Try.func18 rfl Try.ntmps18 (by simp) fun A X W hA hX hW => ?_
  cbv
  have l0 : A.cmp .lss 0 7 = true := by subst hA; rfl
  cbv at l0
  have l1 : A.cmp .lss 1 7 = true := by subst hA; rfl
  cbv at l1
  have l2 : A.cmp .lss 2 7 = true := by subst hA; rfl
  cbv at l2
  have l3 : A.cmp .lss 3 7 = true := by subst hA; rfl
  cbv at l3
  have l4 : A.cmp .lss 4 7 = true := by subst hA; rfl
  cbv at l4
  have l5 : A.cmp .lss 5 7 = true := by subst hA; rfl
  cbv at l5
  have l6 : A.cmp .lss 6 7 = true := by subst hA; rfl
  cbv at l6
  have l7 : A.cmp .lss 7 7 = false := by subst hA; rfl
  cbv at l7
  have b0 : A.bin .add .i64 0 1 = 1 := by subst hA; rfl
  cbv at b0
  have b1 : A.bin .add .i64 1 1 = 2 := by subst hA; rfl
  cbv at b1
  have b2 : A.bin .add .i64 2 1 = 3 := by subst hA; rfl
  cbv at b2
  have b3 : A.bin .add .i64 3 1 = 4 := by subst hA; rfl
  cbv at b3
  have b4 : A.bin .add .i64 4 1 = 5 := by subst hA; rfl
  cbv at b4
  have b5 : A.bin .add .i64 5 1 = 6 := by subst hA; rfl
  cbv at b5
  have b6 : A.bin .add .i64 6 1 = 7 := by subst hA; rfl
  cbv at b6
  have o0_0 : A.off 0 0 1 = 0 := by subst hA; rfl
  cbv at o0_0
  have o0_1 : A.off 0 1 1 = 1 := by subst hA; rfl
  cbv at o0_1
  have o0_2 : A.off 0 2 1 = 2 := by subst hA; rfl
  cbv at o0_2
  have o0_3 : A.off 0 3 1 = 3 := by subst hA; rfl
  cbv at o0_3
  have o0_4 : A.off 0 4 1 = 4 := by subst hA; rfl
  cbv at o0_4
  have o0_5 : A.off 0 5 1 = 5 := by subst hA; rfl
  cbv at o0_5
  have o0_6 : A.off 0 6 1 = 6 := by subst hA; rfl
  cbv at o0_6
  have hq : GFsR5.rightL2 (⟨11, m_src, m_dst, m_irep, m_islot, m_be, m_br, m_mkind, m_mclient, m_mseq, m_mkey, m_mfin, m_mold, m_mval, m_tseq, m_td0, m_td1, m_td2, m_td3, m_td4, m_td5, m_td6, m_lstatus, m_lpe, m_lpr, m_lve, m_lvr, m_lckind, m_lcclient, m_lcseq, m_lckey, m_lcfin, m_lcold, m_lcval, m_laseq, m_lad0, m_lad1, m_lad2, m_lad3, m_lad4, m_lad5, m_lad6, m_lsame, m_fd0, m_fd1, m_fd2, m_fd3, m_fd4, m_fd5, m_fd6, m_data⟩ : Letter) = true := by subst hGFsR5; exact hr
  have nt : A.not true = false := by subst hA; rfl
  cbv at hq nt
  have f1 : A.cmp .lss 11 1 = false := by subst hA; rfl
  have f2 : A.cmp .gtr 11 11 = false := by subst hA; rfl
  have f3 : A.cmp .lss 11 9 = false := by subst hA; rfl
  have f4 : A.cmp .neq 11 5 = true := by subst hA; rfl
  have g0 : A.cmp .eql 11 1 = false := by subst hA; rfl
  have g1 : A.cmp .eql 11 3 = false := by subst hA; rfl
  have g2 : A.cmp .eql 11 5 = false := by subst hA; rfl
  have g3 : A.cmp .eql 11 2 = false := by subst hA; rfl
  have g4 : A.cmp .eql 11 7 = false := by subst hA; rfl
  have g5 : A.cmp .eql 11 9 = false := by subst hA; rfl
  have g6 : A.cmp .eql 11 11 = true := by subst hA; rfl
  have g7 : A.cmp .eql 11 10 = false := by subst hA; rfl
  have ftf : A.cond false true false = false := by subst hA; rfl
  have fff : A.cond false false false = false := by subst hA; rfl
  cbv at f1 f2 f3 f4 g0 g1 g2 g3 g4 g5 g6 g7 ftf fff
  repeat' first
    | (simp only [hq, nt, f1, f2, f3, f4, g0, g1, g2, g3, g4, g5, g6, g7, ftf, fff, l0, l1, l2, l3, l4, l5, l6, l7, b0, b1, b2, b3, b4, b5, b6, o0_0, o0_1, o0_2, o0_3, o0_4, o0_5, o0_6]; cbv)
    | (refine And.intro ?_ ?_)
  rotate_right 1
  · refine unrollL (T := fun _ => tabY [5003] []) (H := fun _ => [kn_rightL2 GFsR5, kn_rnum GFsW, kn_inst2 GFsR6, kn_ballot2 GFsR6, kn_cmd2 GFsR6, kn_attr2 GFsR6, kn_putCell2 GFsR6, kn_rtext GFsW]) (tabY_ok _ _) hH follows_mixed hA hX 9 fun R2 hR2 => ?_
    cbv
    refine hR2 _ _ _ ?_
    cbv
    repeat' first
      | (simp only [hq, nt, f1, f2, f3, f4, g0, g1, g2, g3, g4, g5, g6, g7, ftf, fff, l0, l1, l2, l3, l4, l5, l6, l7, b0, b1, b2, b3, b4, b5, b6, o0_0, o0_1, o0_2, o0_3, o0_4, o0_5, o0_6]; cbv)
      | (refine And.intro ?_ ?_)
      | (refine hR2 _ _ _ ?_; cbv)
    all_goals clear hR2
    all_goals clear hH
    all_goals subst hA hX hW hGFsR5 hGFsW hGFsR6
    all_goals obtain ⟨⟨k0, k1, k2⟩, ⟨k3, k4⟩, k5, k6, k7, k8, ⟨f0, f1, f2, f3, f4, f5, f6⟩, kd⟩ : okLet (⟨11, m_src, m_dst, m_irep, m_islot, m_be, m_br, m_mkind, m_mclient, m_mseq, m_mkey, m_mfin, m_mold, m_mval, m_tseq, m_td0, m_td1, m_td2, m_td3, m_td4, m_td5, m_td6, m_lstatus, m_lpe, m_lpr, m_lve, m_lvr, m_lckind, m_lcclient, m_lcseq, m_lckey, m_lcfin, m_lcold, m_lcval, m_laseq, m_lad0, m_lad1, m_lad2, m_lad3, m_lad4, m_lad5, m_lad6, m_lsame, m_fd0, m_fd1, m_fd2, m_fd3, m_fd4, m_fd5, m_fd6, m_data⟩ : Letter) := hp0
    all_goals have b0 : isBn 0 [] := ⟨[], rfl, Nat.le_refl _⟩
    all_goals have b1 := (isBn.num b0 11)
    all_goals have b2 := (isBn.num b1 m_src)
    all_goals have b3 := (isBn.num b2 m_dst)
    all_goals have b4 := (isBn.num b3 m_fd0)
    all_goals have b5 := (isBn.num b4 m_fd1)
    all_goals have b6 := (isBn.num b5 m_fd2)
    all_goals have b7 := (isBn.num b6 m_fd3)
    all_goals have b8 := (isBn.num b7 m_fd4)
    all_goals have b9 := (isBn.num b8 m_fd5)
    all_goals have b10 := (isBn.num b9 m_fd6)
    all_goals first
      | (show Region.lexB _ _ = true; kernel_rfl)
      | exact k0
      | exact k1
      | exact k2
      | exact ⟨k3, k4⟩
      | exact k5
      | exact k6
      | exact k7
      | exact k8
      | exact f0
      | exact f1
      | exact f2
      | exact f3
      | exact f4
      | exact f5
      | exact f6
      | exact hrp.2.2
      | (show szT _; unfold szT; exact Nat.le_trans kd (by decide))
      | exact b0.le (by omega)
      | exact b0.mono (by omega)
      | exact b1.le (by omega)
      | exact b1.mono (by omega)
      | exact b2.le (by omega)
      | exact b2.mono (by omega)
      | exact b3.le (by omega)
      | exact b3.mono (by omega)
      | exact b4.le (by omega)
      | exact b4.mono (by omega)
      | exact b5.le (by omega)
      | exact b5.mono (by omega)
      | exact b6.le (by omega)
      | exact b6.mono (by omega)
      | exact b7.le (by omega)
      | exact b7.mono (by omega)
      | exact b8.le (by omega)
      | exact b8.mono (by omega)
      | exact b9.le (by omega)
      | exact b9.mono (by omega)
      | exact b10.le (by omega)
      | exact b10.mono (by omega)
      | (simp only [hq, nt, A0]; intros; first | assumption | trivial | (simp_all; done))
      | (have hc : rightC ⟨m_mkind, m_mclient, m_mseq, m_mkey, m_mfin, m_mold, m_mval⟩ = true := hrp.1
         have hl : rightCell ⟨m_lstatus, m_lpe, m_lpr, m_lve, m_lvr, m_lckind, m_lcclient, m_lcseq, m_lckey, m_lcfin, m_lcold, m_lcval, m_laseq, m_lad0, m_lad1, m_lad2, m_lad3, m_lad4, m_lad5, m_lad6, m_lsame⟩ = true := hrp.2.2
         refine ret_v ?_ rfl
         show DV.d (.slc 1 _) = DV.d (.slc 1 (putLet (⟨11, m_src, m_dst, m_irep, m_islot, m_be, m_br, m_mkind, m_mclient, m_mseq, m_mkey, m_mfin, m_mold, m_mval, m_tseq, m_td0, m_td1, m_td2, m_td3, m_td4, m_td5, m_td6, m_lstatus, m_lpe, m_lpr, m_lve, m_lvr, m_lckind, m_lcclient, m_lcseq, m_lckey, m_lcfin, m_lcold, m_lcval, m_laseq, m_lad0, m_lad1, m_lad2, m_lad3, m_lad4, m_lad5, m_lad6, m_lsame, m_fd0, m_fd1, m_fd2, m_fd3, m_fd4, m_fd5, m_fd6, m_data⟩ : Letter)))
         unfold putLet
         rw [if_pos hr]
         try simp only [A0, nc, FsR50, FsW0, FsR60, cmdX_put hc, putCellM_eq hl]
         rfl)
      | (simp; done)
      | exact ⟨by decide, by decide⟩
  all_goals clear hH
  all_goals subst hA hX hW hGFsR5 hGFsW hGFsR6
  all_goals obtain ⟨⟨k0, k1, k2⟩, ⟨k3, k4⟩, k5, k6, k7, k8, ⟨f0, f1, f2, f3, f4, f5, f6⟩, kd⟩ : okLet (⟨11, m_src, m_dst, m_irep, m_islot, m_be, m_br, m_mkind, m_mclient, m_mseq, m_mkey, m_mfin, m_mold, m_mval, m_tseq, m_td0, m_td1, m_td2, m_td3, m_td4, m_td5, m_td6, m_lstatus, m_lpe, m_lpr, m_lve, m_lvr, m_lckind, m_lcclient, m_lcseq, m_lckey, m_lcfin, m_lcold, m_lcval, m_laseq, m_lad0, m_lad1, m_lad2, m_lad3, m_lad4, m_lad5, m_lad6, m_lsame, m_fd0, m_fd1, m_fd2, m_fd3, m_fd4, m_fd5, m_fd6, m_data⟩ : Letter) := hp0
  all_goals have b0 : isBn 0 [] := ⟨[], rfl, Nat.le_refl _⟩
  all_goals have b1 := (isBn.num b0 11)
  all_goals have b2 := (isBn.num b1 m_src)
  all_goals have b3 := (isBn.num b2 m_dst)
  all_goals have b4 := (isBn.num b3 m_fd0)
  all_goals have b5 := (isBn.num b4 m_fd1)
  all_goals have b6 := (isBn.num b5 m_fd2)
  all_goals have b7 := (isBn.num b6 m_fd3)
  all_goals have b8 := (isBn.num b7 m_fd4)
  all_goals have b9 := (isBn.num b8 m_fd5)
  all_goals have b10 := (isBn.num b9 m_fd6)
  all_goals first
    | (show Region.lexB _ _ = true; kernel_rfl)
    | exact k0
    | exact k1
    | exact k2
    | exact ⟨k3, k4⟩
    | exact k5
    | exact k6
    | exact k7
    | exact k8
    | exact f0
    | exact f1
    | exact f2
    | exact f3
    | exact f4
    | exact f5
    | exact f6
    | exact hrp.2.2
    | (show szT _; unfold szT; exact Nat.le_trans kd (by decide))
    | exact b0.le (by omega)
    | exact b0.mono (by omega)
    | exact b1.le (by omega)
    | exact b1.mono (by omega)
    | exact b2.le (by omega)
    | exact b2.mono (by omega)
    | exact b3.le (by omega)
    | exact b3.mono (by omega)
    | exact b4.le (by omega)
    | exact b4.mono (by omega)
    | exact b5.le (by omega)
    | exact b5.mono (by omega)
    | exact b6.le (by omega)
    | exact b6.mono (by omega)
    | exact b7.le (by omega)
    | exact b7.mono (by omega)
    | exact b8.le (by omega)
    | exact b8.mono (by omega)
    | exact b9.le (by omega)
    | exact b9.mono (by omega)
    | exact b10.le (by omega)
    | exact b10.mono (by omega)
    | (simp only [hq, nt, A0]; intros; first | assumption | trivial | (simp_all; done))
    | (have hc : rightC ⟨m_mkind, m_mclient, m_mseq, m_mkey, m_mfin, m_mold, m_mval⟩ = true := hrp.1
       have hl : rightCell ⟨m_lstatus, m_lpe, m_lpr, m_lve, m_lvr, m_lckind, m_lcclient, m_lcseq, m_lckey, m_lcfin, m_lcold, m_lcval, m_laseq, m_lad0, m_lad1, m_lad2, m_lad3, m_lad4, m_lad5, m_lad6, m_lsame⟩ = true := hrp.2.2
       refine ret_v ?_ rfl
       show DV.d (.slc 1 _) = DV.d (.slc 1 (putLet (⟨11, m_src, m_dst, m_irep, m_islot, m_be, m_br, m_mkind, m_mclient, m_mseq, m_mkey, m_mfin, m_mold, m_mval, m_tseq, m_td0, m_td1, m_td2, m_td3, m_td4, m_td5, m_td6, m_lstatus, m_lpe, m_lpr, m_lve, m_lvr, m_lckind, m_lcclient, m_lcseq, m_lckey, m_lcfin, m_lcold, m_lcval, m_laseq, m_lad0, m_lad1, m_lad2, m_lad3, m_lad4, m_lad5, m_lad6, m_lsame, m_fd0, m_fd1, m_fd2, m_fd3, m_fd4, m_fd5, m_fd6, m_data⟩ : Letter)))
       unfold putLet
       rw [if_pos hr]
       try simp only [A0, nc, FsR50, FsW0, FsR60, cmdX_put hc, putCellM_eq hl]
       rfl)
    | (simp; done)
    | exact ⟨by decide, by decide⟩
set_option maxRecDepth 100000 in
theorem v_putLet2 (m : Letter) (hp0 : okLet m) : FnV Try.prog 18 [m.D] (.d (.slc 1 (putLet m))) := by
  by_cases hr : rightL m = true
  · rcases kinds (rightL_kind hr) with e | e | e | e | e | e | e | e | e | e | e
    · exact v_pl1 m hp0 hr e
    · exact v_pl2 m hp0 hr e
    · exact v_pl3 m hp0 hr e
    · exact v_pl4 m hp0 hr e
    · exact v_pl5 m hp0 hr e
    · exact v_pl6 m hp0 hr e
    · exact v_pl7 m hp0 hr e
    · exact v_pl8 m hp0 hr e
    · exact v_pl9 m hp0 hr e
    · exact v_pl10 m hp0 hr e
    · exact v_pl11 m hp0 hr e
  obtain ⟨m_lkind, m_src, m_dst, m_irep, m_islot, m_be, m_br, m_mkind, m_mclient, m_mseq, m_mkey, m_mfin, m_mold, m_mval, m_tseq, m_td0, m_td1, m_td2, m_td3, m_td4, m_td5, m_td6, m_lstatus, m_lpe, m_lpr, m_lve, m_lvr, m_lckind, m_lcclient, m_lcseq, m_lckey, m_lcfin, m_lcold, m_lcval, m_laseq, m_lad0, m_lad1, m_lad2, m_lad3, m_lad4, m_lad5, m_lad6, m_lsame, m_fd0, m_fd1, m_fd2, m_fd3, m_fd4, m_fd5, m_fd6, m_data⟩ := m
  obtain ⟨GFsR5, hGFsR5⟩ : ∃ F, F = FsR50 := ⟨_, rfl⟩
  obtain ⟨GFsW, hGFsW⟩ : ∃ F, F = FsW0 := ⟨_, rfl⟩
  obtain ⟨GFsR6, hGFsR6⟩ : ∃ F, F = FsR60 := ⟨_, rfl⟩
  have hH : SoundK Try.prog [kn_rightL2 GFsR5, kn_rnum GFsW, kn_inst2 GFsR6, kn_ballot2 GFsR6, kn_cmd2 GFsR6, kn_attr2 GFsR6, kn_putCell2 GFsR6, kn_rtext GFsW] := by subst hGFsR5 hGFsW hGFsR6; exact orK_ok ok_rightL2 (orK_ok ok_rnum (orK_ok ok_inst2 (orK_ok ok_ballot2 (orK_ok ok_cmd2 (orK_ok ok_attr2 (orK_ok ok_putCell2 (orK_ok ok_rtext noK_ok)))))))
  refine FnD_cbv (T := fun _ => tabY [5003] []) (H := fun _ => [kn_rightL2 GFsR5, kn_rnum GFsW, kn_inst2 GFsR6, kn_ballot2 GFsR6, kn_cmd2 GFsR6, kn_attr2 GFsR6, kn_putCell2 GFsR6, kn_rtext GFsW]) (tabY_ok _ _) hH follows_mixed Try.func18 rfl Try.ntmps18 (by simp) fun A X W hA hX hW => ?_
  cbv
  have h0 : rightL (⟨m_lkind, m_src, m_dst, m_irep, m_islot, m_be, m_br, m_mkind, m_mclient, m_mseq, m_mkey, m_mfin, m_mold, m_mval, m_tseq, m_td0, m_td1, m_td2, m_td3, m_td4, m_td5, m_td6, m_lstatus, m_lpe, m_lpr, m_lve, m_lvr, m_lckind, m_lcclient, m_lcseq, m_lckey, m_lcfin, m_lcold, m_lcval, m_laseq, m_lad0, m_lad1, m_lad2, m_lad3, m_lad4, m_lad5, m_lad6, m_lsame, m_fd0, m_fd1, m_fd2, m_fd3, m_fd4, m_fd5, m_fd6, m_data⟩ : Letter) = false := by simpa using hr
  have hq : GFsR5.rightL2 (⟨m_lkind, m_src, m_dst, m_irep, m_islot, m_be, m_br, m_mkind, m_mclient, m_mseq, m_mkey, m_mfin, m_mold, m_mval, m_tseq, m_td0, m_td1, m_td2, m_td3, m_td4, m_td5, m_td6, m_lstatus, m_lpe, m_lpr, m_lve, m_lvr, m_lckind, m_lcclient, m_lcseq, m_lckey, m_lcfin, m_lcold, m_lcval, m_laseq, m_lad0, m_lad1, m_lad2, m_lad3, m_lad4, m_lad5, m_lad6, m_lsame, m_fd0, m_fd1, m_fd2, m_fd3, m_fd4, m_fd5, m_fd6, m_data⟩ : Letter) = false := by subst hGFsR5; exact h0
  have nt : A.not false = true := by subst hA; rfl
  cbv at hq nt
  simp only [hq, nt]
  cbv
  subst hA hX hW hGFsR5 hGFsW hGFsR6
  refine ret_nil (sz := 1) ?_
  simp [putLet, h0]
def kn_putLet2 (F : FsR6) : FuncId × (List DV → RV) := (18, fun args => match args with
  | [.agg m_cs] => (match decLetter m_cs with | some m => some ([F.okLet m], .d (.slc 1 (F.putLet2 m))) | none => none)
  | _ => none)
set_option maxRecDepth 100000 in
theorem ok_putLet2 (args : List DV) (cs : List Prop) (r : DV) (h : (kn_putLet2 FsR60).2 args = some (cs, r)) (hc : allP cs True) : FnV Try.prog 18 args r ∧ closedL 0 args = true := by
  unfold kn_putLet2 at h
  simp only at h
  split at h
  · split at h
    · rename_i e0
      cases h
      rw [decLetter_eq e0]
      exact ⟨v_putLet2 _ hc.1, rfl⟩
    · cases h
  · cases h
end Go.Proofs.Ytbhapclaochcnaa
