/- Which letters may be: the document's own look. No condition. -/
import Derived.Test.YtbhapclaochcnaaLeM1
namespace Go.Proofs.Ytbhapclaochcnaa
open Go.RowKit
set_option linter.all false
set_option maxHeartbeats 8000000

set_option maxRecDepth 100000 in
theorem v_rl5 (m : Letter) (e : m.lkind = 5) : FnV Try.prog 17 [m.D] (boolD (rightL m)) := by
  obtain ⟨m_lkind, m_src, m_dst, m_irep, m_islot, m_be, m_br, m_mkind, m_mclient, m_mseq, m_mkey, m_mfin, m_mold, m_mval, m_tseq, m_td0, m_td1, m_td2, m_td3, m_td4, m_td5, m_td6, m_lstatus, m_lpe, m_lpr, m_lve, m_lvr, m_lckind, m_lcclient, m_lcseq, m_lckey, m_lcfin, m_lcold, m_lcval, m_laseq, m_lad0, m_lad1, m_lad2, m_lad3, m_lad4, m_lad5, m_lad6, m_lsame, m_fd0, m_fd1, m_fd2, m_fd3, m_fd4, m_fd5, m_fd6, m_data⟩ := m
  replace e : m_lkind = 5 := e
  subst e
  obtain ⟨GFsR5, hGFsR5⟩ : ∃ F, F = FsR50 := ⟨_, rfl⟩
  obtain ⟨GFs5, hGFs5⟩ : ∃ F, F = Fs50 := ⟨_, rfl⟩
  obtain ⟨GFsA, hGFsA⟩ : ∃ F, F = FsA0 := ⟨_, rfl⟩
  have hH : SoundK Try.prog [kn_rightI2 GFsR5, kn_rightB2 GFsR5, kn_rightR GFs5, kn_rightAR GFsA, kn_rightCell2 GFsR5, kn_rightD GFsA] := by subst hGFsR5 hGFs5 hGFsA; exact orK_ok ok_rightI2 (orK_ok ok_rightB2 (orK_ok ok_rightR (orK_ok ok_rightAR (orK_ok ok_rightCell2 (orK_ok ok_rightD noK_ok)))))
  refine FnD_cbv (T := fun _ => tabY [] []) (H := fun _ => [kn_rightI2 GFsR5, kn_rightB2 GFsR5, kn_rightR GFs5, kn_rightAR GFsA, kn_rightCell2 GFsR5, kn_rightD GFsA]) (tabY_ok _ _) hH follows_mixed Try.func17 rfl Try.ntmps17 (by simp) fun A X W hA hX hW => ?_
  cbv
  have f1 : A.cmp .lss 5 1 = false := by subst hA; rfl
  have f2 : A.cmp .gtr 5 11 = false := by subst hA; rfl
  have f3 : A.cmp .lss 5 9 = true := by subst hA; rfl
  have f4 : A.cmp .neq 5 5 = false := by subst hA; rfl
  have g0 : A.cmp .eql 5 1 = false := by subst hA; rfl
  have g1 : A.cmp .eql 5 3 = false := by subst hA; rfl
  have g2 : A.cmp .eql 5 5 = true := by subst hA; rfl
  have g3 : A.cmp .eql 5 2 = false := by subst hA; rfl
  have g4 : A.cmp .eql 5 7 = false := by subst hA; rfl
  have g5 : A.cmp .eql 5 9 = false := by subst hA; rfl
  have g6 : A.cmp .eql 5 11 = false := by subst hA; rfl
  have g7 : A.cmp .eql 5 10 = false := by subst hA; rfl
  have ftf : A.cond false true false = false := by subst hA; rfl
  have fff : A.cond false false false = false := by subst hA; rfl
  cbv at f1 f2 f3 f4 g0 g1 g2 g3 g4 g5 g6 g7 ftf fff
  repeat' first
    | (simp only [f1, f2, f3, f4, g0, g1, g2, g3, g4, g5, g6, g7, ftf, fff]; cbv)
    | (refine part (fun h => ?_) (fun h => ?_) <;> try cbv)
    | (refine And.intro ?_ ?_)
  all_goals clear hH f1 f2 f3 f4 g0 g1 g2 g3 g4 g5 g6 g7 ftf fff
  all_goals subst hA hX hW hGFsR5 hGFs5 hGFsA
  all_goals first
    | (refine ret_v ?_ rfl
       exact congrArg (fun b => DV.d (.sc (.bool b))) (form_bad (m := (⟨5, m_src, m_dst, m_irep, m_islot, m_be, m_br, m_mkind, m_mclient, m_mseq, m_mkey, m_mfin, m_mold, m_mval, m_tseq, m_td0, m_td1, m_td2, m_td3, m_td4, m_td5, m_td6, m_lstatus, m_lpe, m_lpr, m_lve, m_lvr, m_lckind, m_lcclient, m_lcseq, m_lckey, m_lcfin, m_lcold, m_lcval, m_laseq, m_lad0, m_lad1, m_lad2, m_lad3, m_lad4, m_lad5, m_lad6, m_lsame, m_fd0, m_fd1, m_fd2, m_fd3, m_fd4, m_fd5, m_fd6, m_data⟩ : Letter)) ‹_›).symm)
    | (refine ret_v ?_ rfl
       exact congrArg (fun b => DV.d (.sc (.bool b))) (form_bad2 (m := (⟨5, m_src, m_dst, m_irep, m_islot, m_be, m_br, m_mkind, m_mclient, m_mseq, m_mkey, m_mfin, m_mold, m_mval, m_tseq, m_td0, m_td1, m_td2, m_td3, m_td4, m_td5, m_td6, m_lstatus, m_lpe, m_lpr, m_lve, m_lvr, m_lckind, m_lcclient, m_lcseq, m_lckey, m_lcfin, m_lcold, m_lcval, m_laseq, m_lad0, m_lad1, m_lad2, m_lad3, m_lad4, m_lad5, m_lad6, m_lsame, m_fd0, m_fd1, m_fd2, m_fd3, m_fd4, m_fd5, m_fd6, m_data⟩ : Letter)) (P := ⟨true, false, true, true, false, false, false⟩) rfl rfl ‹_›).symm)
    | (refine ret_v ?_ rfl
       rename_i h1
       exact congrArg (fun b => DV.d (.sc (.bool b))) (form_low (m := (⟨5, m_src, m_dst, m_irep, m_islot, m_be, m_br, m_mkind, m_mclient, m_mseq, m_mkey, m_mfin, m_mold, m_mval, m_tseq, m_td0, m_td1, m_td2, m_td3, m_td4, m_td5, m_td6, m_lstatus, m_lpe, m_lpr, m_lve, m_lvr, m_lckind, m_lcclient, m_lcseq, m_lckey, m_lcfin, m_lcold, m_lcval, m_laseq, m_lad0, m_lad1, m_lad2, m_lad3, m_lad4, m_lad5, m_lad6, m_lsame, m_fd0, m_fd1, m_fd2, m_fd3, m_fd4, m_fd5, m_fd6, m_data⟩ : Letter)) (P := ⟨true, false, true, true, false, false, false⟩) rfl rfl h1 h))
    | (show Region.lexB _ _ = true; kernel_rfl)
    | (show turnsB _ = true; kernel_rfl)
    | (simp only [A0]
       first
         | exact id
         | exact fun _ => trivial
         | (intro q; rw [q]; rfl)
         | (intro q; simpa using q))
set_option maxRecDepth 100000 in
theorem v_rl6 (m : Letter) (e : m.lkind = 6) : FnV Try.prog 17 [m.D] (boolD (rightL m)) := by
  obtain ⟨m_lkind, m_src, m_dst, m_irep, m_islot, m_be, m_br, m_mkind, m_mclient, m_mseq, m_mkey, m_mfin, m_mold, m_mval, m_tseq, m_td0, m_td1, m_td2, m_td3, m_td4, m_td5, m_td6, m_lstatus, m_lpe, m_lpr, m_lve, m_lvr, m_lckind, m_lcclient, m_lcseq, m_lckey, m_lcfin, m_lcold, m_lcval, m_laseq, m_lad0, m_lad1, m_lad2, m_lad3, m_lad4, m_lad5, m_lad6, m_lsame, m_fd0, m_fd1, m_fd2, m_fd3, m_fd4, m_fd5, m_fd6, m_data⟩ := m
  replace e : m_lkind = 6 := e
  subst e
  obtain ⟨GFsR5, hGFsR5⟩ : ∃ F, F = FsR50 := ⟨_, rfl⟩
  obtain ⟨GFs5, hGFs5⟩ : ∃ F, F = Fs50 := ⟨_, rfl⟩
  obtain ⟨GFsA, hGFsA⟩ : ∃ F, F = FsA0 := ⟨_, rfl⟩
  have hH : SoundK Try.prog [kn_rightI2 GFsR5, kn_rightB2 GFsR5, kn_rightR GFs5, kn_rightAR GFsA, kn_rightCell2 GFsR5, kn_rightD GFsA] := by subst hGFsR5 hGFs5 hGFsA; exact orK_ok ok_rightI2 (orK_ok ok_rightB2 (orK_ok ok_rightR (orK_ok ok_rightAR (orK_ok ok_rightCell2 (orK_ok ok_rightD noK_ok)))))
  refine FnD_cbv (T := fun _ => tabY [] []) (H := fun _ => [kn_rightI2 GFsR5, kn_rightB2 GFsR5, kn_rightR GFs5, kn_rightAR GFsA, kn_rightCell2 GFsR5, kn_rightD GFsA]) (tabY_ok _ _) hH follows_mixed Try.func17 rfl Try.ntmps17 (by simp) fun A X W hA hX hW => ?_
  cbv
  have f1 : A.cmp .lss 6 1 = false := by subst hA; rfl
  have f2 : A.cmp .gtr 6 11 = false := by subst hA; rfl
  have f3 : A.cmp .lss 6 9 = true := by subst hA; rfl
  have f4 : A.cmp .neq 6 5 = true := by subst hA; rfl
  have g0 : A.cmp .eql 6 1 = false := by subst hA; rfl
  have g1 : A.cmp .eql 6 3 = false := by subst hA; rfl
  have g2 : A.cmp .eql 6 5 = false := by subst hA; rfl
  have g3 : A.cmp .eql 6 2 = false := by subst hA; rfl
  have g4 : A.cmp .eql 6 7 = false := by subst hA; rfl
  have g5 : A.cmp .eql 6 9 = false := by subst hA; rfl
  have g6 : A.cmp .eql 6 11 = false := by subst hA; rfl
  have g7 : A.cmp .eql 6 10 = false := by subst hA; rfl
  have ftf : A.cond false true false = false := by subst hA; rfl
  have fff : A.cond false false false = false := by subst hA; rfl
  cbv at f1 f2 f3 f4 g0 g1 g2 g3 g4 g5 g6 g7 ftf fff
  repeat' first
    | (simp only [f1, f2, f3, f4, g0, g1, g2, g3, g4, g5, g6, g7, ftf, fff]; cbv)
    | (refine part (fun h => ?_) (fun h => ?_) <;> try cbv)
    | (refine And.intro ?_ ?_)
  all_goals clear hH f1 f2 f3 f4 g0 g1 g2 g3 g4 g5 g6 g7 ftf fff
  all_goals subst hA hX hW hGFsR5 hGFs5 hGFsA
  all_goals first
    | (refine ret_v ?_ rfl
       exact congrArg (fun b => DV.d (.sc (.bool b))) (form_bad (m := (⟨6, m_src, m_dst, m_irep, m_islot, m_be, m_br, m_mkind, m_mclient, m_mseq, m_mkey, m_mfin, m_mold, m_mval, m_tseq, m_td0, m_td1, m_td2, m_td3, m_td4, m_td5, m_td6, m_lstatus, m_lpe, m_lpr, m_lve, m_lvr, m_lckind, m_lcclient, m_lcseq, m_lckey, m_lcfin, m_lcold, m_lcval, m_laseq, m_lad0, m_lad1, m_lad2, m_lad3, m_lad4, m_lad5, m_lad6, m_lsame, m_fd0, m_fd1, m_fd2, m_fd3, m_fd4, m_fd5, m_fd6, m_data⟩ : Letter)) ‹_›).symm)
    | (refine ret_v ?_ rfl
       exact congrArg (fun b => DV.d (.sc (.bool b))) (form_bad2 (m := (⟨6, m_src, m_dst, m_irep, m_islot, m_be, m_br, m_mkind, m_mclient, m_mseq, m_mkey, m_mfin, m_mold, m_mval, m_tseq, m_td0, m_td1, m_td2, m_td3, m_td4, m_td5, m_td6, m_lstatus, m_lpe, m_lpr, m_lve, m_lvr, m_lckind, m_lcclient, m_lcseq, m_lckey, m_lcfin, m_lcold, m_lcval, m_laseq, m_lad0, m_lad1, m_lad2, m_lad3, m_lad4, m_lad5, m_lad6, m_lsame, m_fd0, m_fd1, m_fd2, m_fd3, m_fd4, m_fd5, m_fd6, m_data⟩ : Letter)) (P := ⟨true, true, false, false, false, false, false⟩) rfl rfl ‹_›).symm)
    | (refine ret_v ?_ rfl
       rename_i h1
       exact congrArg (fun b => DV.d (.sc (.bool b))) (form_low (m := (⟨6, m_src, m_dst, m_irep, m_islot, m_be, m_br, m_mkind, m_mclient, m_mseq, m_mkey, m_mfin, m_mold, m_mval, m_tseq, m_td0, m_td1, m_td2, m_td3, m_td4, m_td5, m_td6, m_lstatus, m_lpe, m_lpr, m_lve, m_lvr, m_lckind, m_lcclient, m_lcseq, m_lckey, m_lcfin, m_lcold, m_lcval, m_laseq, m_lad0, m_lad1, m_lad2, m_lad3, m_lad4, m_lad5, m_lad6, m_lsame, m_fd0, m_fd1, m_fd2, m_fd3, m_fd4, m_fd5, m_fd6, m_data⟩ : Letter)) (P := ⟨true, true, false, false, false, false, false⟩) rfl rfl h1 h))
    | (show Region.lexB _ _ = true; kernel_rfl)
    | (show turnsB _ = true; kernel_rfl)
    | (simp only [A0]
       first
         | exact id
         | exact fun _ => trivial
         | (intro q; rw [q]; rfl)
         | (intro q; simpa using q))
set_option maxRecDepth 100000 in
theorem v_rl7 (m : Letter) (e : m.lkind = 7) : FnV Try.prog 17 [m.D] (boolD (rightL m)) := by
  obtain ⟨m_lkind, m_src, m_dst, m_irep, m_islot, m_be, m_br, m_mkind, m_mclient, m_mseq, m_mkey, m_mfin, m_mold, m_mval, m_tseq, m_td0, m_td1, m_td2, m_td3, m_td4, m_td5, m_td6, m_lstatus, m_lpe, m_lpr, m_lve, m_lvr, m_lckind, m_lcclient, m_lcseq, m_lckey, m_lcfin, m_lcold, m_lcval, m_laseq, m_lad0, m_lad1, m_lad2, m_lad3, m_lad4, m_lad5, m_lad6, m_lsame, m_fd0, m_fd1, m_fd2, m_fd3, m_fd4, m_fd5, m_fd6, m_data⟩ := m
  replace e : m_lkind = 7 := e
  subst e
  obtain ⟨GFsR5, hGFsR5⟩ : ∃ F, F = FsR50 := ⟨_, rfl⟩
  obtain ⟨GFs5, hGFs5⟩ : ∃ F, F = Fs50 := ⟨_, rfl⟩
  obtain ⟨GFsA, hGFsA⟩ : ∃ F, F = FsA0 := ⟨_, rfl⟩
  have hH : SoundK Try.prog [kn_rightI2 GFsR5, kn_rightB2 GFsR5, kn_rightR GFs5, kn_rightAR GFsA, kn_rightCell2 GFsR5, kn_rightD GFsA] := by subst hGFsR5 hGFs5 hGFsA; exact orK_ok ok_rightI2 (orK_ok ok_rightB2 (orK_ok ok_rightR (orK_ok ok_rightAR (orK_ok ok_rightCell2 (orK_ok ok_rightD noK_ok)))))
  refine FnD_cbv (T := fun _ => tabY [] []) (H := fun _ => [kn_rightI2 GFsR5, kn_rightB2 GFsR5, kn_rightR GFs5, kn_rightAR GFsA, kn_rightCell2 GFsR5, kn_rightD GFsA]) (tabY_ok _ _) hH follows_mixed Try.func17 rfl Try.ntmps17 (by simp) fun A X W hA hX hW => ?_
  cbv
  have f1 : A.cmp .lss 7 1 = false := by subst hA; rfl
  have f2 : A.cmp .gtr 7 11 = false := by subst hA; rfl
  have f3 : A.cmp .lss 7 9 = true := by subst hA; rfl
  have f4 : A.cmp .neq 7 5 = true := by subst hA; rfl
  have g0 : A.cmp .eql 7 1 = false := by subst hA; rfl
  have g1 : A.cmp .eql 7 3 = false := by subst hA; rfl
  have g2 : A.cmp .eql 7 5 = false := by subst hA; rfl
  have g3 : A.cmp .eql 7 2 = false := by subst hA; rfl
  have g4 : A.cmp .eql 7 7 = true := by subst hA; rfl
  have g5 : A.cmp .eql 7 9 = false := by subst hA; rfl
  have g6 : A.cmp .eql 7 11 = false := by subst hA; rfl
  have g7 : A.cmp .eql 7 10 = false := by subst hA; rfl
  have ftf : A.cond false true false = false := by subst hA; rfl
  have fff : A.cond false false false = false := by subst hA; rfl
  cbv at f1 f2 f3 f4 g0 g1 g2 g3 g4 g5 g6 g7 ftf fff
  repeat' first
    | (simp only [f1, f2, f3, f4, g0, g1, g2, g3, g4, g5, g6, g7, ftf, fff]; cbv)
    | (refine part (fun h => ?_) (fun h => ?_) <;> try cbv)
    | (refine And.intro ?_ ?_)
  all_goals clear hH f1 f2 f3 f4 g0 g1 g2 g3 g4 g5 g6 g7 ftf fff
  all_goals subst hA hX hW hGFsR5 hGFs5 hGFsA
  all_goals first
    | (refine ret_v ?_ rfl
       exact congrArg (fun b => DV.d (.sc (.bool b))) (form_bad (m := (⟨7, m_src, m_dst, m_irep, m_islot, m_be, m_br, m_mkind, m_mclient, m_mseq, m_mkey, m_mfin, m_mold, m_mval, m_tseq, m_td0, m_td1, m_td2, m_td3, m_td4, m_td5, m_td6, m_lstatus, m_lpe, m_lpr, m_lve, m_lvr, m_lckind, m_lcclient, m_lcseq, m_lckey, m_lcfin, m_lcold, m_lcval, m_laseq, m_lad0, m_lad1, m_lad2, m_lad3, m_lad4, m_lad5, m_lad6, m_lsame, m_fd0, m_fd1, m_fd2, m_fd3, m_fd4, m_fd5, m_fd6, m_data⟩ : Letter)) ‹_›).symm)
    | (refine ret_v ?_ rfl
       exact congrArg (fun b => DV.d (.sc (.bool b))) (form_bad2 (m := (⟨7, m_src, m_dst, m_irep, m_islot, m_be, m_br, m_mkind, m_mclient, m_mseq, m_mkey, m_mfin, m_mold, m_mval, m_tseq, m_td0, m_td1, m_td2, m_td3, m_td4, m_td5, m_td6, m_lstatus, m_lpe, m_lpr, m_lve, m_lvr, m_lckind, m_lcclient, m_lcseq, m_lckey, m_lcfin, m_lcold, m_lcval, m_laseq, m_lad0, m_lad1, m_lad2, m_lad3, m_lad4, m_lad5, m_lad6, m_lsame, m_fd0, m_fd1, m_fd2, m_fd3, m_fd4, m_fd5, m_fd6, m_data⟩ : Letter)) (P := ⟨true, true, false, false, true, false, false⟩) rfl rfl ‹_›).symm)
    | (refine ret_v ?_ rfl
       rename_i h1
       exact congrArg (fun b => DV.d (.sc (.bool b))) (form_low (m := (⟨7, m_src, m_dst, m_irep, m_islot, m_be, m_br, m_mkind, m_mclient, m_mseq, m_mkey, m_mfin, m_mold, m_mval, m_tseq, m_td0, m_td1, m_td2, m_td3, m_td4, m_td5, m_td6, m_lstatus, m_lpe, m_lpr, m_lve, m_lvr, m_lckind, m_lcclient, m_lcseq, m_lckey, m_lcfin, m_lcold, m_lcval, m_laseq, m_lad0, m_lad1, m_lad2, m_lad3, m_lad4, m_lad5, m_lad6, m_lsame, m_fd0, m_fd1, m_fd2, m_fd3, m_fd4, m_fd5, m_fd6, m_data⟩ : Letter)) (P := ⟨true, true, false, false, true, false, false⟩) rfl rfl h1 h))
    | (show Region.lexB _ _ = true; kernel_rfl)
    | (show turnsB _ = true; kernel_rfl)
    | (simp only [A0]
       first
         | exact id
         | exact fun _ => trivial
         | (intro q; rw [q]; rfl)
         | (intro q; simpa using q))
set_option maxRecDepth 100000 in
theorem v_rl8 (m : Letter) (e : m.lkind = 8) : FnV Try.prog 17 [m.D] (boolD (rightL m)) := by
  obtain ⟨m_lkind, m_src, m_dst, m_irep, m_islot, m_be, m_br, m_mkind, m_mclient, m_mseq, m_mkey, m_mfin, m_mold, m_mval, m_tseq, m_td0, m_td1, m_td2, m_td3, m_td4, m_td5, m_td6, m_lstatus, m_lpe, m_lpr, m_lve, m_lvr, m_lckind, m_lcclient, m_lcseq, m_lckey, m_lcfin, m_lcold, m_lcval, m_laseq, m_lad0, m_lad1, m_lad2, m_lad3, m_lad4, m_lad5, m_lad6, m_lsame, m_fd0, m_fd1, m_fd2, m_fd3, m_fd4, m_fd5, m_fd6, m_data⟩ := m
  replace e : m_lkind = 8 := e
  subst e
  obtain ⟨GFsR5, hGFsR5⟩ : ∃ F, F = FsR50 := ⟨_, rfl⟩
  obtain ⟨GFs5, hGFs5⟩ : ∃ F, F = Fs50 := ⟨_, rfl⟩
  obtain ⟨GFsA, hGFsA⟩ : ∃ F, F = FsA0 := ⟨_, rfl⟩
  have hH : SoundK Try.prog [kn_rightI2 GFsR5, kn_rightB2 GFsR5, kn_rightR GFs5, kn_rightAR GFsA, kn_rightCell2 GFsR5, kn_rightD GFsA] := by subst hGFsR5 hGFs5 hGFsA; exact orK_ok ok_rightI2 (orK_ok ok_rightB2 (orK_ok ok_rightR (orK_ok ok_rightAR (orK_ok ok_rightCell2 (orK_ok ok_rightD noK_ok)))))
  refine FnD_cbv (T := fun _ => tabY [] []) (H := fun _ => [kn_rightI2 GFsR5, kn_rightB2 GFsR5, kn_rightR GFs5, kn_rightAR GFsA, kn_rightCell2 GFsR5, kn_rightD GFsA]) (tabY_ok _ _) hH follows_mixed Try.func17 rfl Try.ntmps17 (by simp) fun A X W hA hX hW => ?_
  cbv
  have f1 : A.cmp .lss 8 1 = false := by subst hA; rfl
  have f2 : A.cmp .gtr 8 11 = false := by subst hA; rfl
  have f3 : A.cmp .lss 8 9 = true := by subst hA; rfl
  have f4 : A.cmp .neq 8 5 = true := by subst hA; rfl
  have g0 : A.cmp .eql 8 1 = false := by subst hA; rfl
  have g1 : A.cmp .eql 8 3 = false := by subst hA; rfl
  have g2 : A.cmp .eql 8 5 = false := by subst hA; rfl
  have g3 : A.cmp .eql 8 2 = false := by subst hA; rfl
  have g4 : A.cmp .eql 8 7 = false := by subst hA; rfl
  have g5 : A.cmp .eql 8 9 = false := by subst hA; rfl
  have g6 : A.cmp .eql 8 11 = false := by subst hA; rfl
  have g7 : A.cmp .eql 8 10 = false := by subst hA; rfl
  have ftf : A.cond false true false = false := by subst hA; rfl
  have fff : A.cond false false false = false := by subst hA; rfl
  cbv at f1 f2 f3 f4 g0 g1 g2 g3 g4 g5 g6 g7 ftf fff
  repeat' first
    | (simp only [f1, f2, f3, f4, g0, g1, g2, g3, g4, g5, g6, g7, ftf, fff]; cbv)
    | (refine part (fun h => ?_) (fun h => ?_) <;> try cbv)
    | (refine And.intro ?_ ?_)
  all_goals clear hH f1 f2 f3 f4 g0 g1 g2 g3 g4 g5 g6 g7 ftf fff
  all_goals subst hA hX hW hGFsR5 hGFs5 hGFsA
  all_goals first
    | (refine ret_v ?_ rfl
       exact congrArg (fun b => DV.d (.sc (.bool b))) (form_bad (m := (⟨8, m_src, m_dst, m_irep, m_islot, m_be, m_br, m_mkind, m_mclient, m_mseq, m_mkey, m_mfin, m_mold, m_mval, m_tseq, m_td0, m_td1, m_td2, m_td3, m_td4, m_td5, m_td6, m_lstatus, m_lpe, m_lpr, m_lve, m_lvr, m_lckind, m_lcclient, m_lcseq, m_lckey, m_lcfin, m_lcold, m_lcval, m_laseq, m_lad0, m_lad1, m_lad2, m_lad3, m_lad4, m_lad5, m_lad6, m_lsame, m_fd0, m_fd1, m_fd2, m_fd3, m_fd4, m_fd5, m_fd6, m_data⟩ : Letter)) ‹_›).symm)
    | (refine ret_v ?_ rfl
       exact congrArg (fun b => DV.d (.sc (.bool b))) (form_bad2 (m := (⟨8, m_src, m_dst, m_irep, m_islot, m_be, m_br, m_mkind, m_mclient, m_mseq, m_mkey, m_mfin, m_mold, m_mval, m_tseq, m_td0, m_td1, m_td2, m_td3, m_td4, m_td5, m_td6, m_lstatus, m_lpe, m_lpr, m_lve, m_lvr, m_lckind, m_lcclient, m_lcseq, m_lckey, m_lcfin, m_lcold, m_lcval, m_laseq, m_lad0, m_lad1, m_lad2, m_lad3, m_lad4, m_lad5, m_lad6, m_lsame, m_fd0, m_fd1, m_fd2, m_fd3, m_fd4, m_fd5, m_fd6, m_data⟩ : Letter)) (P := ⟨true, true, false, false, false, false, false⟩) rfl rfl ‹_›).symm)
    | (refine ret_v ?_ rfl
       rename_i h1
       exact congrArg (fun b => DV.d (.sc (.bool b))) (form_low (m := (⟨8, m_src, m_dst, m_irep, m_islot, m_be, m_br, m_mkind, m_mclient, m_mseq, m_mkey, m_mfin, m_mold, m_mval, m_tseq, m_td0, m_td1, m_td2, m_td3, m_td4, m_td5, m_td6, m_lstatus, m_lpe, m_lpr, m_lve, m_lvr, m_lckind, m_lcclient, m_lcseq, m_lckey, m_lcfin, m_lcold, m_lcval, m_laseq, m_lad0, m_lad1, m_lad2, m_lad3, m_lad4, m_lad5, m_lad6, m_lsame, m_fd0, m_fd1, m_fd2, m_fd3, m_fd4, m_fd5, m_fd6, m_data⟩ : Letter)) (P := ⟨true, true, false, false, false, false, false⟩) rfl rfl h1 h))
    | (show Region.lexB _ _ = true; kernel_rfl)
    | (show turnsB _ = true; kernel_rfl)
    | (simp only [A0]
       first
         | exact id
         | exact fun _ => trivial
         | (intro q; rw [q]; rfl)
         | (intro q; simpa using q))
end Go.Proofs.Ytbhapclaochcnaa
namespace Go.Proofs.Ytbhapclaochcnaa
open Go.RowKit
set_option linter.all false
set_option maxHeartbeats 8000000

set_option maxRecDepth 100000 in
theorem v_rl9 (m : Letter) (e : m.lkind = 9) : FnV Try.prog 17 [m.D] (boolD (rightL m)) := by
  obtain ⟨m_lkind, m_src, m_dst, m_irep, m_islot, m_be, m_br, m_mkind, m_mclient, m_mseq, m_mkey, m_mfin, m_mold, m_mval, m_tseq, m_td0, m_td1, m_td2, m_td3, m_td4, m_td5, m_td6, m_lstatus, m_lpe, m_lpr, m_lve, m_lvr, m_lckind, m_lcclient, m_lcseq, m_lckey, m_lcfin, m_lcold, m_lcval, m_laseq, m_lad0, m_lad1, m_lad2, m_lad3, m_lad4, m_lad5, m_lad6, m_lsame, m_fd0, m_fd1, m_fd2, m_fd3, m_fd4, m_fd5, m_fd6, m_data⟩ := m
  replace e : m_lkind = 9 := e
  subst e
  obtain ⟨GFsR5, hGFsR5⟩ : ∃ F, F = FsR50 := ⟨_, rfl⟩
  obtain ⟨GFs5, hGFs5⟩ : ∃ F, F = Fs50 := ⟨_, rfl⟩
  obtain ⟨GFsA, hGFsA⟩ : ∃ F, F = FsA0 := ⟨_, rfl⟩
  have hH : SoundK Try.prog [kn_rightI2 GFsR5, kn_rightB2 GFsR5, kn_rightR GFs5, kn_rightAR GFsA, kn_rightCell2 GFsR5, kn_rightD GFsA] := by subst hGFsR5 hGFs5 hGFsA; exact orK_ok ok_rightI2 (orK_ok ok_rightB2 (orK_ok ok_rightR (orK_ok ok_rightAR (orK_ok ok_rightCell2 (orK_ok ok_rightD noK_ok)))))
  refine FnD_cbv (T := fun _ => tabY [] [21, 24]) (H := fun _ => [kn_rightI2 GFsR5, kn_rightB2 GFsR5, kn_rightR GFs5, kn_rightAR GFsA, kn_rightCell2 GFsR5, kn_rightD GFsA]) (tabY_ok _ _) hH follows_mixed Try.func17 rfl Try.ntmps17 (by simp) fun A X W hA hX hW => ?_
  cbv
  have f1 : A.cmp .lss 9 1 = false := by subst hA; rfl
  have f2 : A.cmp .gtr 9 11 = false := by subst hA; rfl
  have f3 : A.cmp .lss 9 9 = false := by subst hA; rfl
  have f4 : A.cmp .neq 9 5 = true := by subst hA; rfl
  have g0 : A.cmp .eql 9 1 = false := by subst hA; rfl
  have g1 : A.cmp .eql 9 3 = false := by subst hA; rfl
  have g2 : A.cmp .eql 9 5 = false := by subst hA; rfl
  have g3 : A.cmp .eql 9 2 = false := by subst hA; rfl
  have g4 : A.cmp .eql 9 7 = false := by subst hA; rfl
  have g5 : A.cmp .eql 9 9 = true := by subst hA; rfl
  have g6 : A.cmp .eql 9 11 = false := by subst hA; rfl
  have g7 : A.cmp .eql 9 10 = false := by subst hA; rfl
  have ftf : A.cond false true false = false := by subst hA; rfl
  have fff : A.cond false false false = false := by subst hA; rfl
  cbv at f1 f2 f3 f4 g0 g1 g2 g3 g4 g5 g6 g7 ftf fff
  repeat' first
    | (simp only [f1, f2, f3, f4, g0, g1, g2, g3, g4, g5, g6, g7, ftf, fff]; cbv)
    | (refine part (fun h => ?_) (fun h => ?_) <;> try cbv)
    | (refine And.intro ?_ ?_)
    | (with_reducible refine goL (T := fun _ => tabY [] []) (H := fun _ => [kn_rightI2 GFsR5, kn_rightB2 GFsR5, kn_rightR GFs5, kn_rightAR GFsA, kn_rightCell2 GFsR5, kn_rightD GFsA]) (tabY_ok _ _) hH follows_mixed hA hX ?_
       cbv)
  all_goals clear hH f1 f2 f3 f4 g0 g1 g2 g3 g4 g5 g6 g7 ftf fff
  all_goals subst hA hX hW hGFsR5 hGFs5 hGFsA
  all_goals first
    | (refine ret_v ?_ rfl
       exact congrArg (fun b => DV.d (.sc (.bool b))) (form_bad (m := (⟨9, m_src, m_dst, m_irep, m_islot, m_be, m_br, m_mkind, m_mclient, m_mseq, m_mkey, m_mfin, m_mold, m_mval, m_tseq, m_td0, m_td1, m_td2, m_td3, m_td4, m_td5, m_td6, m_lstatus, m_lpe, m_lpr, m_lve, m_lvr, m_lckind, m_lcclient, m_lcseq, m_lckey, m_lcfin, m_lcold, m_lcval, m_laseq, m_lad0, m_lad1, m_lad2, m_lad3, m_lad4, m_lad5, m_lad6, m_lsame, m_fd0, m_fd1, m_fd2, m_fd3, m_fd4, m_fd5, m_fd6, m_data⟩ : Letter)) ‹_›).symm)
    | (refine ret_v ?_ rfl
       exact congrArg (fun b => DV.d (.sc (.bool b))) (form_high (m := (⟨9, m_src, m_dst, m_irep, m_islot, m_be, m_br, m_mkind, m_mclient, m_mseq, m_mkey, m_mfin, m_mold, m_mval, m_tseq, m_td0, m_td1, m_td2, m_td3, m_td4, m_td5, m_td6, m_lstatus, m_lpe, m_lpr, m_lve, m_lvr, m_lckind, m_lcclient, m_lcseq, m_lckey, m_lcfin, m_lcold, m_lcval, m_laseq, m_lad0, m_lad1, m_lad2, m_lad3, m_lad4, m_lad5, m_lad6, m_lsame, m_fd0, m_fd1, m_fd2, m_fd3, m_fd4, m_fd5, m_fd6, m_data⟩ : Letter)) (P := ⟨false, false, false, false, false, true, false⟩) rfl rfl rfl h))
    | (show Region.lexB _ _ = true; kernel_rfl)
    | (show turnsB _ = true; kernel_rfl)
    | (simp only [A0]
       first
         | exact id
         | exact fun _ => trivial
         | (intro q; rw [q]; rfl)
         | (intro q; simpa using q))
set_option maxRecDepth 100000 in
theorem v_rl10 (m : Letter) (e : m.lkind = 10) : FnV Try.prog 17 [m.D] (boolD (rightL m)) := by
  obtain ⟨m_lkind, m_src, m_dst, m_irep, m_islot, m_be, m_br, m_mkind, m_mclient, m_mseq, m_mkey, m_mfin, m_mold, m_mval, m_tseq, m_td0, m_td1, m_td2, m_td3, m_td4, m_td5, m_td6, m_lstatus, m_lpe, m_lpr, m_lve, m_lvr, m_lckind, m_lcclient, m_lcseq, m_lckey, m_lcfin, m_lcold, m_lcval, m_laseq, m_lad0, m_lad1, m_lad2, m_lad3, m_lad4, m_lad5, m_lad6, m_lsame, m_fd0, m_fd1, m_fd2, m_fd3, m_fd4, m_fd5, m_fd6, m_data⟩ := m
  replace e : m_lkind = 10 := e
  subst e
  obtain ⟨GFsR5, hGFsR5⟩ : ∃ F, F = FsR50 := ⟨_, rfl⟩
  obtain ⟨GFs5, hGFs5⟩ : ∃ F, F = Fs50 := ⟨_, rfl⟩
  obtain ⟨GFsA, hGFsA⟩ : ∃ F, F = FsA0 := ⟨_, rfl⟩
  have hH : SoundK Try.prog [kn_rightI2 GFsR5, kn_rightB2 GFsR5, kn_rightR GFs5, kn_rightAR GFsA, kn_rightCell2 GFsR5, kn_rightD GFsA] := by subst hGFsR5 hGFs5 hGFsA; exact orK_ok ok_rightI2 (orK_ok ok_rightB2 (orK_ok ok_rightR (orK_ok ok_rightAR (orK_ok ok_rightCell2 (orK_ok ok_rightD noK_ok)))))
  refine FnD_cbv (T := fun _ => tabY [] []) (H := fun _ => [kn_rightI2 GFsR5, kn_rightB2 GFsR5, kn_rightR GFs5, kn_rightAR GFsA, kn_rightCell2 GFsR5, kn_rightD GFsA]) (tabY_ok _ _) hH follows_mixed Try.func17 rfl Try.ntmps17 (by simp) fun A X W hA hX hW => ?_
  cbv
  have f1 : A.cmp .lss 10 1 = false := by subst hA; rfl
  have f2 : A.cmp .gtr 10 11 = false := by subst hA; rfl
  have f3 : A.cmp .lss 10 9 = false := by subst hA; rfl
  have f4 : A.cmp .neq 10 5 = true := by subst hA; rfl
  have g0 : A.cmp .eql 10 1 = false := by subst hA; rfl
  have g1 : A.cmp .eql 10 3 = false := by subst hA; rfl
  have g2 : A.cmp .eql 10 5 = false := by subst hA; rfl
  have g3 : A.cmp .eql 10 2 = false := by subst hA; rfl
  have g4 : A.cmp .eql 10 7 = false := by subst hA; rfl
  have g5 : A.cmp .eql 10 9 = false := by subst hA; rfl
  have g6 : A.cmp .eql 10 11 = false := by subst hA; rfl
  have g7 : A.cmp .eql 10 10 = true := by subst hA; rfl
  have ftf : A.cond false true false = false := by subst hA; rfl
  have fff : A.cond false false false = false := by subst hA; rfl
  cbv at f1 f2 f3 f4 g0 g1 g2 g3 g4 g5 g6 g7 ftf fff
  repeat' first
    | (simp only [f1, f2, f3, f4, g0, g1, g2, g3, g4, g5, g6, g7, ftf, fff]; cbv)
    | (refine part (fun h => ?_) (fun h => ?_) <;> try cbv)
    | (refine And.intro ?_ ?_)
    | (with_reducible refine goL (T := fun _ => tabY [] []) (H := fun _ => [kn_rightI2 GFsR5, kn_rightB2 GFsR5, kn_rightR GFs5, kn_rightAR GFsA, kn_rightCell2 GFsR5, kn_rightD GFsA]) (tabY_ok _ _) hH follows_mixed hA hX ?_
       cbv)
  all_goals clear hH f1 f2 f3 f4 g0 g1 g2 g3 g4 g5 g6 g7 ftf fff
  all_goals subst hA hX hW hGFsR5 hGFs5 hGFsA
  all_goals first
    | (refine ret_v ?_ rfl
       exact congrArg (fun b => DV.d (.sc (.bool b))) (form_bad (m := (⟨10, m_src, m_dst, m_irep, m_islot, m_be, m_br, m_mkind, m_mclient, m_mseq, m_mkey, m_mfin, m_mold, m_mval, m_tseq, m_td0, m_td1, m_td2, m_td3, m_td4, m_td5, m_td6, m_lstatus, m_lpe, m_lpr, m_lve, m_lvr, m_lckind, m_lcclient, m_lcseq, m_lckey, m_lcfin, m_lcold, m_lcval, m_laseq, m_lad0, m_lad1, m_lad2, m_lad3, m_lad4, m_lad5, m_lad6, m_lsame, m_fd0, m_fd1, m_fd2, m_fd3, m_fd4, m_fd5, m_fd6, m_data⟩ : Letter)) ‹_›).symm)
    | (refine ret_v ?_ rfl
       exact congrArg (fun b => DV.d (.sc (.bool b))) (form_high (m := (⟨10, m_src, m_dst, m_irep, m_islot, m_be, m_br, m_mkind, m_mclient, m_mseq, m_mkey, m_mfin, m_mold, m_mval, m_tseq, m_td0, m_td1, m_td2, m_td3, m_td4, m_td5, m_td6, m_lstatus, m_lpe, m_lpr, m_lve, m_lvr, m_lckind, m_lcclient, m_lcseq, m_lckey, m_lcfin, m_lcold, m_lcval, m_laseq, m_lad0, m_lad1, m_lad2, m_lad3, m_lad4, m_lad5, m_lad6, m_lsame, m_fd0, m_fd1, m_fd2, m_fd3, m_fd4, m_fd5, m_fd6, m_data⟩ : Letter)) (P := ⟨false, false, false, false, false, false, true⟩) rfl rfl rfl h))
    | (show Region.lexB _ _ = true; kernel_rfl)
    | (show turnsB _ = true; kernel_rfl)
    | (simp only [A0]
       first
         | exact id
         | exact fun _ => trivial
         | (intro q; rw [q]; rfl)
         | (intro q; simpa using q))
set_option maxRecDepth 100000 in
theorem v_rl11 (m : Letter) (e : m.lkind = 11) : FnV Try.prog 17 [m.D] (boolD (rightL m)) := by
  obtain ⟨m_lkind, m_src, m_dst, m_irep, m_islot, m_be, m_br, m_mkind, m_mclient, m_mseq, m_mkey, m_mfin, m_mold, m_mval, m_tseq, m_td0, m_td1, m_td2, m_td3, m_td4, m_td5, m_td6, m_lstatus, m_lpe, m_lpr, m_lve, m_lvr, m_lckind, m_lcclient, m_lcseq, m_lckey, m_lcfin, m_lcold, m_lcval, m_laseq, m_lad0, m_lad1, m_lad2, m_lad3, m_lad4, m_lad5, m_lad6, m_lsame, m_fd0, m_fd1, m_fd2, m_fd3, m_fd4, m_fd5, m_fd6, m_data⟩ := m
  replace e : m_lkind = 11 := e
  subst e
  obtain ⟨GFsR5, hGFsR5⟩ : ∃ F, F = FsR50 := ⟨_, rfl⟩
  obtain ⟨GFs5, hGFs5⟩ : ∃ F, F = Fs50 := ⟨_, rfl⟩
  obtain ⟨GFsA, hGFsA⟩ : ∃ F, F = FsA0 := ⟨_, rfl⟩
  have hH : SoundK Try.prog [kn_rightI2 GFsR5, kn_rightB2 GFsR5, kn_rightR GFs5, kn_rightAR GFsA, kn_rightCell2 GFsR5, kn_rightD GFsA] := by subst hGFsR5 hGFs5 hGFsA; exact orK_ok ok_rightI2 (orK_ok ok_rightB2 (orK_ok ok_rightR (orK_ok ok_rightAR (orK_ok ok_rightCell2 (orK_ok ok_rightD noK_ok)))))
  refine FnD_cbv (T := fun _ => tabY [] [21, 24]) (H := fun _ => [kn_rightI2 GFsR5, kn_rightB2 GFsR5, kn_rightR GFs5, kn_rightAR GFsA, kn_rightCell2 GFsR5, kn_rightD GFsA]) (tabY_ok _ _) hH follows_mixed Try.func17 rfl Try.ntmps17 (by simp) fun A X W hA hX hW => ?_
  cbv
  have f1 : A.cmp .lss 11 1 = false := by subst hA; rfl
  have f2 : A.cmp .gtr 11 11 = false := by subst hA; rfl
  have f3 : A.cmp .lss 11 9 = false := by subst hA; rfl
  have f4 : A.cmp .neq 11 5 = true := by subst hA; rfl
  have g0 : A.cmp .eql 11 1 = false := by subst hA; rfl
  have g1 : A.cmp .eql 11 3 = false := by subst hA; rfl
  have g2 : A.cmp .eql 11 5 = false := by subst hA; rfl
  have g3 : A.cmp .eql 11 2 = false := by subst hA; rfl
  have g4 : A.cmp .eql 11 7 = false := by subst hA; rfl
  have g5 : A.cmp .eql 11 9 = false := by subst hA; rfl
  have g6 : A.cmp .eql 11 11 = true := by subst hA; rfl
  have g7 : A.cmp .eql 11 10 = false := by subst hA; rfl
  have ftf : A.cond false true false = false := by subst hA; rfl
  have fff : A.cond false false false = false := by subst hA; rfl
  cbv at f1 f2 f3 f4 g0 g1 g2 g3 g4 g5 g6 g7 ftf fff
  repeat' first
    | (simp only [f1, f2, f3, f4, g0, g1, g2, g3, g4, g5, g6, g7, ftf, fff]; cbv)
    | (refine part (fun h => ?_) (fun h => ?_) <;> try cbv)
    | (refine And.intro ?_ ?_)
    | (with_reducible refine goL (T := fun _ => tabY [] []) (H := fun _ => [kn_rightI2 GFsR5, kn_rightB2 GFsR5, kn_rightR GFs5, kn_rightAR GFsA, kn_rightCell2 GFsR5, kn_rightD GFsA]) (tabY_ok _ _) hH follows_mixed hA hX ?_
       cbv)
  all_goals clear hH f1 f2 f3 f4 g0 g1 g2 g3 g4 g5 g6 g7 ftf fff
  all_goals subst hA hX hW hGFsR5 hGFs5 hGFsA
  all_goals first
    | (refine ret_v ?_ rfl
       exact congrArg (fun b => DV.d (.sc (.bool b))) (form_bad (m := (⟨11, m_src, m_dst, m_irep, m_islot, m_be, m_br, m_mkind, m_mclient, m_mseq, m_mkey, m_mfin, m_mold, m_mval, m_tseq, m_td0, m_td1, m_td2, m_td3, m_td4, m_td5, m_td6, m_lstatus, m_lpe, m_lpr, m_lve, m_lvr, m_lckind, m_lcclient, m_lcseq, m_lckey, m_lcfin, m_lcold, m_lcval, m_laseq, m_lad0, m_lad1, m_lad2, m_lad3, m_lad4, m_lad5, m_lad6, m_lsame, m_fd0, m_fd1, m_fd2, m_fd3, m_fd4, m_fd5, m_fd6, m_data⟩ : Letter)) ‹_›).symm)
    | (refine ret_v ?_ rfl
       exact congrArg (fun b => DV.d (.sc (.bool b))) (form_high (m := (⟨11, m_src, m_dst, m_irep, m_islot, m_be, m_br, m_mkind, m_mclient, m_mseq, m_mkey, m_mfin, m_mold, m_mval, m_tseq, m_td0, m_td1, m_td2, m_td3, m_td4, m_td5, m_td6, m_lstatus, m_lpe, m_lpr, m_lve, m_lvr, m_lckind, m_lcclient, m_lcseq, m_lckey, m_lcfin, m_lcold, m_lcval, m_laseq, m_lad0, m_lad1, m_lad2, m_lad3, m_lad4, m_lad5, m_lad6, m_lsame, m_fd0, m_fd1, m_fd2, m_fd3, m_fd4, m_fd5, m_fd6, m_data⟩ : Letter)) (P := ⟨false, false, false, false, false, true, false⟩) rfl rfl rfl h))
    | (show Region.lexB _ _ = true; kernel_rfl)
    | (show turnsB _ = true; kernel_rfl)
    | (simp only [A0]
       first
         | exact id
         | exact fun _ => trivial
         | (intro q; rw [q]; rfl)
         | (intro q; simpa using q))
set_option maxRecDepth 100000 in
theorem v_rightL2 (m : Letter) : FnV Try.prog 17 [m.D] (boolD (rightL m)) := by
  by_cases hk : 1 ≤ m.lkind ∧ m.lkind ≤ 11
  · rcases kinds hk with e | e | e | e | e | e | e | e | e | e | e
    · exact v_rl1 m e
    · exact v_rl2 m e
    · exact v_rl3 m e
    · exact v_rl4 m e
    · exact v_rl5 m e
    · exact v_rl6 m e
    · exact v_rl7 m e
    · exact v_rl8 m e
    · exact v_rl9 m e
    · exact v_rl10 m e
    · exact v_rl11 m e
  obtain ⟨m_lkind, m_src, m_dst, m_irep, m_islot, m_be, m_br, m_mkind, m_mclient, m_mseq, m_mkey, m_mfin, m_mold, m_mval, m_tseq, m_td0, m_td1, m_td2, m_td3, m_td4, m_td5, m_td6, m_lstatus, m_lpe, m_lpr, m_lve, m_lvr, m_lckind, m_lcclient, m_lcseq, m_lckey, m_lcfin, m_lcold, m_lcval, m_laseq, m_lad0, m_lad1, m_lad2, m_lad3, m_lad4, m_lad5, m_lad6, m_lsame, m_fd0, m_fd1, m_fd2, m_fd3, m_fd4, m_fd5, m_fd6, m_data⟩ := m
  replace hk : ¬ (1 ≤ m_lkind ∧ m_lkind ≤ 11) := hk
  · have hr : rightL (⟨m_lkind, m_src, m_dst, m_irep, m_islot, m_be, m_br, m_mkind, m_mclient, m_mseq, m_mkey, m_mfin, m_mold, m_mval, m_tseq, m_td0, m_td1, m_td2, m_td3, m_td4, m_td5, m_td6, m_lstatus, m_lpe, m_lpr, m_lve, m_lvr, m_lckind, m_lcclient, m_lcseq, m_lckey, m_lcfin, m_lcold, m_lcval, m_laseq, m_lad0, m_lad1, m_lad2, m_lad3, m_lad4, m_lad5, m_lad6, m_lsame, m_fd0, m_fd1, m_fd2, m_fd3, m_fd4, m_fd5, m_fd6, m_data⟩ : Letter) = false := by
      cases h : rightL (⟨m_lkind, m_src, m_dst, m_irep, m_islot, m_be, m_br, m_mkind, m_mclient, m_mseq, m_mkey, m_mfin, m_mold, m_mval, m_tseq, m_td0, m_td1, m_td2, m_td3, m_td4, m_td5, m_td6, m_lstatus, m_lpe, m_lpr, m_lve, m_lvr, m_lckind, m_lcclient, m_lcseq, m_lckey, m_lcfin, m_lcold, m_lcval, m_laseq, m_lad0, m_lad1, m_lad2, m_lad3, m_lad4, m_lad5, m_lad6, m_lsame, m_fd0, m_fd1, m_fd2, m_fd3, m_fd4, m_fd5, m_fd6, m_data⟩ : Letter)
      · rfl
      · exact absurd (rightL_kind h) hk
    obtain ⟨GFsR5, hGFsR5⟩ : ∃ F, F = FsR50 := ⟨_, rfl⟩
    obtain ⟨GFs5, hGFs5⟩ : ∃ F, F = Fs50 := ⟨_, rfl⟩
    obtain ⟨GFsA, hGFsA⟩ : ∃ F, F = FsA0 := ⟨_, rfl⟩
    have hH : SoundK Try.prog [kn_rightI2 GFsR5, kn_rightB2 GFsR5, kn_rightR GFs5, kn_rightAR GFsA, kn_rightCell2 GFsR5, kn_rightD GFsA] := by subst hGFsR5 hGFs5 hGFsA; exact orK_ok ok_rightI2 (orK_ok ok_rightB2 (orK_ok ok_rightR (orK_ok ok_rightAR (orK_ok ok_rightCell2 (orK_ok ok_rightD noK_ok)))))
    refine FnD_cbv (T := fun _ => tabY [] []) (H := fun _ => [kn_rightI2 GFsR5, kn_rightB2 GFsR5, kn_rightR GFs5, kn_rightAR GFsA, kn_rightCell2 GFsR5, kn_rightD GFsA]) (tabY_ok _ _) hH follows_mixed Try.func17 rfl Try.ntmps17 (by simp) fun A X W hA hX hW => ?_
    cbv
    have f1 : A.cond (A.cmp .lss m_lkind 1) true (A.cmp .gtr m_lkind 11) = true := by
      subst hA
      show (bif decide (m_lkind < 1) then true else decide (11 < m_lkind)) = true
      by_cases q : m_lkind < 1
      · rw [decide_eq_true q]; rfl
      · rw [decide_eq_false q, decide_eq_true (show 11 < m_lkind by omega)]; rfl
    have f2 : A.cond true true (A.cmp .lss m_src 0) = true := by subst hA; rfl
    have f3 : A.cond true true (A.cmp .geq m_src 7) = true := by subst hA; rfl
    have f4 : A.cond true true (A.cmp .lss m_dst 0) = true := by subst hA; rfl
    have f5 : A.cond true true (A.cmp .geq m_dst 7) = true := by subst hA; rfl
    have f6 : A.cond true true (A.cmp .eql m_src m_dst) = true := by subst hA; rfl
    cbv at f1 f2 f3 f4 f5 f6
    repeat' first
      | (simp only [f1, f2, f3, f4, f5, f6]; cbv)
      | (refine And.intro ?_ ?_)
    all_goals clear hH f1 f2 f3 f4 f5 f6
    all_goals subst hA hX hW hGFsR5 hGFs5 hGFsA
    all_goals try simp only [A0, nc] at *
    all_goals first
      | (refine ret_v ?_ rfl; rw [hr]; rfl)
      | (intros; first | assumption | trivial | (simp_all; done))

def kn_rightL2 (F : FsR5) : FuncId × (List DV → RV) := (17, fun args => match args with
  | [.agg m_cs] => (match decLetter m_cs with | some m => some ([], boolD ((F.rightL2 m))) | none => none)
  | _ => none)
set_option maxRecDepth 100000 in
theorem ok_rightL2 (args : List DV) (cs : List Prop) (r : DV) (h : (kn_rightL2 FsR50).2 args = some (cs, r)) (hc : allP cs True) : FnV Try.prog 17 args r ∧ closedL 0 args = true := by
  unfold kn_rightL2 at h
  simp only at h
  split at h
  · split at h
    · rename_i e0
      cases h
      rw [decLetter_eq e0]
      exact ⟨v_rightL2 _, rfl⟩
    · cases h
  · cases h
end Go.Proofs.Ytbhapclaochcnaa
