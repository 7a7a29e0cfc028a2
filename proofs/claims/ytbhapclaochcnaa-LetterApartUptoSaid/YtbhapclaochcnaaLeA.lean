/- Two right letters have the same bytes just if they are the same. No condition. -/
import Derived.Test.YtbhapclaochcnaaLeY
namespace Go.Proofs.Ytbhapclaochcnaa
open Go.RowKit
set_option linter.all false
set_option maxHeartbeats 8000000

set_option maxRecDepth 100000 in
theorem v_apart (a b : Letter) (hp0 : okLet a) (hp1 : okLet b) : FnV Try.prog 7 [a.D, b.D] (boolD true) := by
  obtain ⟨a_lkind, a_src, a_dst, a_irep, a_islot, a_be, a_br, a_mkind, a_mclient, a_mseq, a_mkey, a_mfin, a_mold, a_mval, a_tseq, a_td0, a_td1, a_td2, a_td3, a_td4, a_td5, a_td6, a_lstatus, a_lpe, a_lpr, a_lve, a_lvr, a_lckind, a_lcclient, a_lcseq, a_lckey, a_lcfin, a_lcold, a_lcval, a_laseq, a_lad0, a_lad1, a_lad2, a_lad3, a_lad4, a_lad5, a_lad6, a_lsame, a_fd0, a_fd1, a_fd2, a_fd3, a_fd4, a_fd5, a_fd6, a_data⟩ := a
  obtain ⟨b_lkind, b_src, b_dst, b_irep, b_islot, b_be, b_br, b_mkind, b_mclient, b_mseq, b_mkey, b_mfin, b_mold, b_mval, b_tseq, b_td0, b_td1, b_td2, b_td3, b_td4, b_td5, b_td6, b_lstatus, b_lpe, b_lpr, b_lve, b_lvr, b_lckind, b_lcclient, b_lcseq, b_lckey, b_lcfin, b_lcold, b_lcval, b_laseq, b_lad0, b_lad1, b_lad2, b_lad3, b_lad4, b_lad5, b_lad6, b_lsame, b_fd0, b_fd1, b_fd2, b_fd3, b_fd4, b_fd5, b_fd6, b_data⟩ := b
  obtain ⟨GFsL9, hFsL9⟩ : ∃ F, F = FsL90 := ⟨_, rfl⟩
  obtain ⟨GFsL3, hFsL3⟩ : ∃ F, F = FsL30 := ⟨_, rfl⟩
  obtain ⟨GFsL5, hFsL5⟩ : ∃ F, F = FsL50 := ⟨_, rfl⟩
  obtain ⟨GFsQ, hFsQ⟩ : ∃ F, F = FsQ0 := ⟨_, rfl⟩
  obtain ⟨GFsK, hFsK⟩ : ∃ F, F = FsK0 := ⟨_, rfl⟩
  have hH : SoundK Try.prog [kn_light GFsL9, kn_rightL GFsL3, kn_putLet GFsL5, kn_same GFsQ, kn_runs15 GFsK] := by subst hFsL9 hFsL3 hFsL5 hFsQ hFsK; exact orK_ok ok_light (orK_ok ok_rightL (orK_ok ok_putLet (orK_ok ok_same (orK_ok ok_runs15 noK_ok))))
  have hB : SoundB Try.prog [] := by subst hFsL9 hFsL3 hFsL5 hFsQ hFsK; exact noB_ok
  refine FnD_cbv (T := fun _ => tabY [] []) (H := fun _ => [kn_light GFsL9, kn_rightL GFsL3, kn_putLet GFsL5, kn_same GFsQ, kn_runs15 GFsK]) (tabY_ok _ _) hH follows_mixed Try.func7 rfl Try.ntmps7 (by simp) fun A X W hA hX hW => ?_
  cbv
  repeat' first
    | (refine part (fun h => ?_) (fun h => ?_) <;> try cbv)
    | (refine And.intro ?_ ?_)
    | (with_reducible refine callB hX hB ?_) <;> cbv
  all_goals subst hA hX hW hFsL9 hFsL3 hFsL5 hFsQ hFsK
  all_goals clear hH hB
  all_goals try (show Region.lexB _ _ = true; kernel_rfl)
  all_goals try (show turnsB _ = true; kernel_rfl)
  all_goals simp only [A0, FsL90, FsL30, FsL50, FsQ0, FsK0, decide_eq_true_eq, decide_eq_false_iff_not, Bool.not_eq_true', Bool.not_eq_false'] at *
  all_goals try simp only [Bool.false_eq_true, if_false] at *
  all_goals first
    | exact hp0
    | exact hp1
    | (intro; exact hp0)
    | (intro; exact hp1)
    | (intro; exact isB_sub (putLet_B _) _ _)
    | (refine ret_v ?_ rfl; rfl)
    | (have hr : rightL (⟨a_lkind, a_src, a_dst, a_irep, a_islot, a_be, a_br, a_mkind, a_mclient, a_mseq, a_mkey, a_mfin, a_mold, a_mval, a_tseq, a_td0, a_td1, a_td2, a_td3, a_td4, a_td5, a_td6, a_lstatus, a_lpe, a_lpr, a_lve, a_lvr, a_lckind, a_lcclient, a_lcseq, a_lckey, a_lcfin, a_lcold, a_lcval, a_laseq, a_lad0, a_lad1, a_lad2, a_lad3, a_lad4, a_lad5, a_lad6, a_lsame, a_fd0, a_fd1, a_fd2, a_fd3, a_fd4, a_fd5, a_fd6, a_data⟩ : Letter) = true ∧ rightL (⟨b_lkind, b_src, b_dst, b_irep, b_islot, b_be, b_br, b_mkind, b_mclient, b_mseq, b_mkey, b_mfin, b_mold, b_mval, b_tseq, b_td0, b_td1, b_td2, b_td3, b_td4, b_td5, b_td6, b_lstatus, b_lpe, b_lpr, b_lve, b_lvr, b_lckind, b_lcclient, b_lcseq, b_lckey, b_lcfin, b_lcold, b_lcval, b_laseq, b_lad0, b_lad1, b_lad2, b_lad3, b_lad4, b_lad5, b_lad6, b_lsame, b_fd0, b_fd1, b_fd2, b_fd3, b_fd4, b_fd5, b_fd6, b_data⟩ : Letter) = true := by
         revert h
         cases lightL (⟨a_lkind, a_src, a_dst, a_irep, a_islot, a_be, a_br, a_mkind, a_mclient, a_mseq, a_mkey, a_mfin, a_mold, a_mval, a_tseq, a_td0, a_td1, a_td2, a_td3, a_td4, a_td5, a_td6, a_lstatus, a_lpe, a_lpr, a_lve, a_lvr, a_lckind, a_lcclient, a_lcseq, a_lckey, a_lcfin, a_lcold, a_lcval, a_laseq, a_lad0, a_lad1, a_lad2, a_lad3, a_lad4, a_lad5, a_lad6, a_lsame, a_fd0, a_fd1, a_fd2, a_fd3, a_fd4, a_fd5, a_fd6, a_data⟩ : Letter) <;> cases lightL (⟨b_lkind, b_src, b_dst, b_irep, b_islot, b_be, b_br, b_mkind, b_mclient, b_mseq, b_mkey, b_mfin, b_mold, b_mval, b_tseq, b_td0, b_td1, b_td2, b_td3, b_td4, b_td5, b_td6, b_lstatus, b_lpe, b_lpr, b_lve, b_lvr, b_lckind, b_lcclient, b_lcseq, b_lckey, b_lcfin, b_lcold, b_lcval, b_laseq, b_lad0, b_lad1, b_lad2, b_lad3, b_lad4, b_lad5, b_lad6, b_lsame, b_fd0, b_fd1, b_fd2, b_fd3, b_fd4, b_fd5, b_fd6, b_data⟩ : Letter) <;> cases rightL (⟨a_lkind, a_src, a_dst, a_irep, a_islot, a_be, a_br, a_mkind, a_mclient, a_mseq, a_mkey, a_mfin, a_mold, a_mval, a_tseq, a_td0, a_td1, a_td2, a_td3, a_td4, a_td5, a_td6, a_lstatus, a_lpe, a_lpr, a_lve, a_lvr, a_lckind, a_lcclient, a_lcseq, a_lckey, a_lcfin, a_lcold, a_lcval, a_laseq, a_lad0, a_lad1, a_lad2, a_lad3, a_lad4, a_lad5, a_lad6, a_lsame, a_fd0, a_fd1, a_fd2, a_fd3, a_fd4, a_fd5, a_fd6, a_data⟩ : Letter) <;> cases rightL (⟨b_lkind, b_src, b_dst, b_irep, b_islot, b_be, b_br, b_mkind, b_mclient, b_mseq, b_mkey, b_mfin, b_mold, b_mval, b_tseq, b_td0, b_td1, b_td2, b_td3, b_td4, b_td5, b_td6, b_lstatus, b_lpe, b_lpr, b_lve, b_lvr, b_lckind, b_lcclient, b_lcseq, b_lckey, b_lcfin, b_lcold, b_lcval, b_laseq, b_lad0, b_lad1, b_lad2, b_lad3, b_lad4, b_lad5, b_lad6, b_lsame, b_fd0, b_fd1, b_fd2, b_fd3, b_fd4, b_fd5, b_fd6, b_data⟩ : Letter) <;> simp
       have hk := apart_eq hr.1 hr.2 _ rfl
       refine ret_v ?_ rfl
       rw [hk.1, hk.2]
       show DV.d (.sc (.bool (bif bif true then decide (eqLet (⟨a_lkind, a_src, a_dst, a_irep, a_islot, a_be, a_br, a_mkind, a_mclient, a_mseq, a_mkey, a_mfin, a_mold, a_mval, a_tseq, a_td0, a_td1, a_td2, a_td3, a_td4, a_td5, a_td6, a_lstatus, a_lpe, a_lpr, a_lve, a_lvr, a_lckind, a_lcclient, a_lcseq, a_lckey, a_lcfin, a_lcold, a_lcval, a_laseq, a_lad0, a_lad1, a_lad2, a_lad3, a_lad4, a_lad5, a_lad6, a_lsame, a_fd0, a_fd1, a_fd2, a_fd3, a_fd4, a_fd5, a_fd6, a_data⟩ : Letter) (⟨b_lkind, b_src, b_dst, b_irep, b_islot, b_be, b_br, b_mkind, b_mclient, b_mseq, b_mkey, b_mfin, b_mold, b_mval, b_tseq, b_td0, b_td1, b_td2, b_td3, b_td4, b_td5, b_td6, b_lstatus, b_lpe, b_lpr, b_lve, b_lvr, b_lckind, b_lcclient, b_lcseq, b_lckey, b_lcfin, b_lcold, b_lcval, b_laseq, b_lad0, b_lad1, b_lad2, b_lad3, b_lad4, b_lad5, b_lad6, b_lsame, b_fd0, b_fd1, b_fd2, b_fd3, b_fd4, b_fd5, b_fd6, b_data⟩ : Letter) = eqLet (⟨a_lkind, a_src, a_dst, a_irep, a_islot, a_be, a_br, a_mkind, a_mclient, a_mseq, a_mkey, a_mfin, a_mold, a_mval, a_tseq, a_td0, a_td1, a_td2, a_td3, a_td4, a_td5, a_td6, a_lstatus, a_lpe, a_lpr, a_lve, a_lvr, a_lckind, a_lcclient, a_lcseq, a_lckey, a_lcfin, a_lcold, a_lcval, a_laseq, a_lad0, a_lad1, a_lad2, a_lad3, a_lad4, a_lad5, a_lad6, a_lsame, a_fd0, a_fd1, a_fd2, a_fd3, a_fd4, a_fd5, a_fd6, a_data⟩ : Letter) (⟨b_lkind, b_src, b_dst, b_irep, b_islot, b_be, b_br, b_mkind, b_mclient, b_mseq, b_mkey, b_mfin, b_mold, b_mval, b_tseq, b_td0, b_td1, b_td2, b_td3, b_td4, b_td5, b_td6, b_lstatus, b_lpe, b_lpr, b_lve, b_lvr, b_lckind, b_lcclient, b_lcseq, b_lckey, b_lcfin, b_lcold, b_lcval, b_laseq, b_lad0, b_lad1, b_lad2, b_lad3, b_lad4, b_lad5, b_lad6, b_lsame, b_fd0, b_fd1, b_fd2, b_fd3, b_fd4, b_fd5, b_fd6, b_data⟩ : Letter)) else false then true else false))) = boolD true
       rw [decide_eq_true rfl]
       rfl)
    | (intros; first | assumption | trivial | (simp_all; done) | omega | (simp only [cond_eq_ite] at *; simp_all; done))
end Go.Proofs.Ytbhapclaochcnaa
