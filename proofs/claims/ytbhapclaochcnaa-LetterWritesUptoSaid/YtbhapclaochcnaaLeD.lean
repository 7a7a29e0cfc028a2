/- Any cell, any letter: may it be, its bytes. No condition. -/
import Derived.Test.YtbhapclaochcnaaLeV
namespace Go.Proofs.Ytbhapclaochcnaa
open Go.RowKit
set_option linter.all false
set_option maxHeartbeats 8000000

theorem sameX_refl (xs : List (List PD)) : sameX xs xs = true := sameX_self xs
theorem putCellX_B {xs : List (List PD)} (h : isBn 1048576 xs) (c : Cell) : isB (putCellX xs c) := by
  cases hr : rightCell c
  · exact ⟨h.choose, by unfold putCellX; rw [hr]; exact h.choose_spec.1, by have := h.choose_spec.2; omega⟩
  · exact (h.cell hr).le (by omega)
set_option maxRecDepth 100000 in
theorem v_writes15 (m : Letter) (xs : List (List PD)) (hp0 : okLet m) (hp1 : isBn 1048576 xs) : FnV Try.prog 4 [m.D, .d (.slc 1 xs)] (boolD true) := by
  obtain ⟨m_lkind, m_src, m_dst, m_irep, m_islot, m_be, m_br, m_mkind, m_mclient, m_mseq, m_mkey, m_mfin, m_mold, m_mval, m_tseq, m_td0, m_td1, m_td2, m_td3, m_td4, m_td5, m_td6, m_lstatus, m_lpe, m_lpr, m_lve, m_lvr, m_lckind, m_lcclient, m_lcseq, m_lckey, m_lcfin, m_lcold, m_lcval, m_laseq, m_lad0, m_lad1, m_lad2, m_lad3, m_lad4, m_lad5, m_lad6, m_lsame, m_fd0, m_fd1, m_fd2, m_fd3, m_fd4, m_fd5, m_fd6, m_data⟩ := m
  have hxl : xs.length ≤ 1048576 := by
    obtain ⟨bs, hb, hl⟩ := hp1
    rw [hb, bytesP_length]
    exact hl
  have hsz1 : ∀ x ∈ xs, x.length = 1 := by
    obtain ⟨bs, hb, hl⟩ := hp1
    rw [hb]
    exact bytesP_sz bs
  obtain ⟨GFsL9, hFsL9⟩ : ∃ F, F = FsL90 := ⟨_, rfl⟩
  obtain ⟨GFsL1, hFsL1⟩ : ∃ F, F = FsL10 := ⟨_, rfl⟩
  obtain ⟨GFsL3, hFsL3⟩ : ∃ F, F = FsL30 := ⟨_, rfl⟩
  obtain ⟨GFsL5, hFsL5⟩ : ∃ F, F = FsL50 := ⟨_, rfl⟩
  obtain ⟨GFsL4, hFsL4⟩ : ∃ F, F = FsL40 := ⟨_, rfl⟩
  obtain ⟨GFsQ, hFsQ⟩ : ∃ F, F = FsQ0 := ⟨_, rfl⟩
  obtain ⟨GFsK, hFsK⟩ : ∃ F, F = FsK0 := ⟨_, rfl⟩
  obtain ⟨GFsR5, hFsR5⟩ : ∃ F, F = FsR50 := ⟨_, rfl⟩
  obtain ⟨GFsR6, hFsR6⟩ : ∃ F, F = FsR60 := ⟨_, rfl⟩
  have hH : SoundK Try.prog [kn_light GFsL9, kn_rightCell GFsL1, kn_rightL GFsL3, kn_putLet GFsL5, kn_putCellX GFsL4, kn_same GFsQ, kn_runs15 GFsK, kn_rightCell2 GFsR5, kn_rightL2 GFsR5, kn_putLet2 GFsR6, kn_putCell2 GFsR6] := by subst hFsL9 hFsL1 hFsL3 hFsL5 hFsL4 hFsQ hFsK hFsR5 hFsR6; exact orK_ok ok_light (orK_ok ok_rightCell (orK_ok ok_rightL (orK_ok ok_putLet (orK_ok ok_putCellX (orK_ok ok_same (orK_ok ok_runs15 (orK_ok ok_rightCell2 (orK_ok ok_rightL2 (orK_ok ok_putLet2 (orK_ok ok_putCell2 noK_ok))))))))))
  have hB : SoundB Try.prog [] := by subst hFsL9 hFsL1 hFsL3 hFsL5 hFsL4 hFsQ hFsK hFsR5 hFsR6; exact noB_ok
  refine FnD_cbv (T := fun _ => tabY [] [3]) (H := fun _ => [kn_light GFsL9, kn_rightCell GFsL1, kn_rightL GFsL3, kn_putLet GFsL5, kn_putCellX GFsL4, kn_same GFsQ, kn_runs15 GFsK, kn_rightCell2 GFsR5, kn_rightL2 GFsR5, kn_putLet2 GFsR6, kn_putCell2 GFsR6]) (tabY_ok _ _) hH follows_mixed Try.func4 rfl Try.ntmps4 (by simp) fun A X W hA hX hW => ?_
  cbv
  refine And.intro (by subst hFsL9; exact hp0) ?_
  refine part (fun h => ?_) (fun h => ?_)
  · cbv
    subst hA hX hW hFsL9 hFsL1 hFsL3 hFsL5 hFsL4 hFsQ hFsK hFsR5 hFsR6
    refine ret_v ?_ rfl
    rfl
  cbv
  refine afterL (T := fun _ => tabY [] []) (H := fun _ => [kn_light GFsL9, kn_rightCell GFsL1, kn_rightL GFsL3, kn_putLet GFsL5, kn_putCellX GFsL4, kn_same GFsQ, kn_runs15 GFsK, kn_rightCell2 GFsR5, kn_rightL2 GFsR5, kn_putLet2 GFsR6, kn_putCell2 GFsR6]) (tabY_ok _ _) hH follows_mixed hA hX ?_
  cbv
  refine And.intro (by subst hA; rfl) (And.intro (by subst hA; rfl) (And.intro ?_ ?_))
  · subst hA
    simp only [A0]
    first | omega | (refine ⟨?_, ?_⟩ <;> omega)
  refine ⟨[(1, .d (.slc 1 xs)), (2, .ref 0 0 0), (5, .d (.slc 1 xs))], [⟨37, ((.d (.sc (.int .i64 m_lkind))) :: (.d (.sc (.int .i64 m_src))) :: (.d (.sc (.int .i64 m_dst))) :: (.d (.sc (.int .i64 m_irep))) :: (.d (.sc (.int .i64 m_islot))) :: (.d (.sc (.int .i64 m_be))) :: (.d (.sc (.int .i64 m_br))) :: (.d (.sc (.int .i64 m_mkind))) :: (.d (.sc (.int .i64 m_mclient))) :: (.d (.sc (.int .i64 m_mseq))) :: (.d (.sc (.string m_mkey))) :: (.d (.sc (.string m_mfin))) :: (.d (.sc (.string m_mold))) :: (.d (.sc (.string m_mval))) :: (.d (.sc (.int .i64 m_tseq))) :: (.d (.sc (.int .i64 m_td0))) :: (.d (.sc (.int .i64 m_td1))) :: (.d (.sc (.int .i64 m_td2))) :: (.d (.sc (.int .i64 m_td3))) :: (.d (.sc (.int .i64 m_td4))) :: (.d (.sc (.int .i64 m_td5))) :: (.d (.sc (.int .i64 m_td6))) :: (.d (.sc (.int .i64 m_lstatus))) :: (.d (.sc (.int .i64 m_lpe))) :: (.d (.sc (.int .i64 m_lpr))) :: (.d (.sc (.int .i64 m_lve))) :: (.d (.sc (.int .i64 m_lvr))) :: (.d (.sc (.int .i64 m_lckind))) :: (.d (.sc (.int .i64 m_lcclient))) :: (.d (.sc (.int .i64 m_lcseq))) :: (.d (.sc (.string m_lckey))) :: (.d (.sc (.string m_lcfin))) :: (.d (.sc (.string m_lcold))) :: (.d (.sc (.string m_lcval))) :: (.d (.sc (.int .i64 m_laseq))) :: (.d (.sc (.int .i64 m_lad0))) :: (.d (.sc (.int .i64 m_lad1))) :: (.d (.sc (.int .i64 m_lad2))) :: (.d (.sc (.int .i64 m_lad3))) :: (.d (.sc (.int .i64 m_lad4))) :: (.d (.sc (.int .i64 m_lad5))) :: (.d (.sc (.int .i64 m_lad6))) :: (.d (.sc (.bool m_lsame))) :: (.d (.sc (.int .i64 m_fd0))) :: (.d (.sc (.int .i64 m_fd1))) :: (.d (.sc (.int .i64 m_fd2))) :: (.d (.sc (.int .i64 m_fd3))) :: (.d (.sc (.int .i64 m_fd4))) :: (.d (.sc (.int .i64 m_fd5))) :: (.d (.sc (.int .i64 m_fd6))) :: (.d (.sc (.string m_data))) :: []), false, 0, true⟩], ?_, ?_⟩
  · subst hA
    simp only [A0]
    refine Told.trans (told_freeze (s' := [(1, .d (.slc 1 xs)), (2, .ref 0 0 0), (5, .d (.slc 1 xs))]) 1 1 xs _ rfl rfl (Nat.le_refl 1) (by simp) hsz1 rfl ?_) (told_keep [0] rfl ?_ ?_)
    · simp [toldP, getS, fzD]
    · first | rfl | (simp [keepSt, pullBox, pullL, pullD, fzSt, fzD]; done)
    · simp [toldP, getS, pullD]
  cbv
  repeat' first
    | (refine part (fun h => ?_) (fun h => ?_) <;> try cbv)
    | (refine And.intro ?_ ?_)
    | (with_reducible refine callB hX hB ?_) <;> cbv
  all_goals clear hH hB
  all_goals subst hA hX hW hFsL9 hFsL1 hFsL3 hFsL5 hFsL4 hFsQ hFsK hFsR5 hFsR6
  all_goals have hcx := putCellX_B hp1 (⟨m_lstatus, m_lpe, m_lpr, m_lve, m_lvr, m_lckind, m_lcclient, m_lcseq, m_lckey, m_lcfin, m_lcold, m_lcval, m_laseq, m_lad0, m_lad1, m_lad2, m_lad3, m_lad4, m_lad5, m_lad6, m_lsame⟩ : Cell)
  all_goals have hxB : isB xs := hp1.le (by omega)
  all_goals have hok : okCell (⟨m_lstatus, m_lpe, m_lpr, m_lve, m_lvr, m_lckind, m_lcclient, m_lcseq, m_lckey, m_lcfin, m_lcold, m_lcval, m_laseq, m_lad0, m_lad1, m_lad2, m_lad3, m_lad4, m_lad5, m_lad6, m_lsame⟩ : Cell) := hp0.2.2.2.2.2.1
  all_goals first
    | (show Region.lexB _ _ = true; kernel_rfl)
    | (show turnsB _ = true; kernel_rfl)
    | exact hp0
    | exact hok
    | exact hp1.mono (by omega)
    | exact hxB
    | exact putLet_B _
    | exact hcx
    | exact h
    | (refine ret_v ?_ rfl
       have hm : putCellX xs (⟨m_lstatus, m_lpe, m_lpr, m_lve, m_lvr, m_lckind, m_lcclient, m_lcseq, m_lckey, m_lcfin, m_lcold, m_lcval, m_laseq, m_lad0, m_lad1, m_lad2, m_lad3, m_lad4, m_lad5, m_lad6, m_lsame⟩ : Cell) = xs := by
         have h' : rightCell (⟨m_lstatus, m_lpe, m_lpr, m_lve, m_lvr, m_lckind, m_lcclient, m_lcseq, m_lckey, m_lcfin, m_lcold, m_lcval, m_laseq, m_lad0, m_lad1, m_lad2, m_lad3, m_lad4, m_lad5, m_lad6, m_lsame⟩ : Cell) = false := h
         unfold putCellX
         rw [h']
         rfl
       show DV.d (.sc (.bool (bif (bif (bif (bif decide (rightCell (⟨m_lstatus, m_lpe, m_lpr, m_lve, m_lvr, m_lckind, m_lcclient, m_lcseq, m_lckey, m_lcfin, m_lcold, m_lcval, m_laseq, m_lad0, m_lad1, m_lad2, m_lad3, m_lad4, m_lad5, m_lad6, m_lsame⟩ : Cell) = rightCell (⟨m_lstatus, m_lpe, m_lpr, m_lve, m_lvr, m_lckind, m_lcclient, m_lcseq, m_lckey, m_lcfin, m_lcold, m_lcval, m_laseq, m_lad0, m_lad1, m_lad2, m_lad3, m_lad4, m_lad5, m_lad6, m_lsame⟩ : Cell)) then decide (rightL (⟨m_lkind, m_src, m_dst, m_irep, m_islot, m_be, m_br, m_mkind, m_mclient, m_mseq, m_mkey, m_mfin, m_mold, m_mval, m_tseq, m_td0, m_td1, m_td2, m_td3, m_td4, m_td5, m_td6, m_lstatus, m_lpe, m_lpr, m_lve, m_lvr, m_lckind, m_lcclient, m_lcseq, m_lckey, m_lcfin, m_lcold, m_lcval, m_laseq, m_lad0, m_lad1, m_lad2, m_lad3, m_lad4, m_lad5, m_lad6, m_lsame, m_fd0, m_fd1, m_fd2, m_fd3, m_fd4, m_fd5, m_fd6, m_data⟩ : Letter) = rightL (⟨m_lkind, m_src, m_dst, m_irep, m_islot, m_be, m_br, m_mkind, m_mclient, m_mseq, m_mkey, m_mfin, m_mold, m_mval, m_tseq, m_td0, m_td1, m_td2, m_td3, m_td4, m_td5, m_td6, m_lstatus, m_lpe, m_lpr, m_lve, m_lvr, m_lckind, m_lcclient, m_lcseq, m_lckey, m_lcfin, m_lcold, m_lcval, m_laseq, m_lad0, m_lad1, m_lad2, m_lad3, m_lad4, m_lad5, m_lad6, m_lsame, m_fd0, m_fd1, m_fd2, m_fd3, m_fd4, m_fd5, m_fd6, m_data⟩ : Letter)) else false) then sameX (putLet (⟨m_lkind, m_src, m_dst, m_irep, m_islot, m_be, m_br, m_mkind, m_mclient, m_mseq, m_mkey, m_mfin, m_mold, m_mval, m_tseq, m_td0, m_td1, m_td2, m_td3, m_td4, m_td5, m_td6, m_lstatus, m_lpe, m_lpr, m_lve, m_lvr, m_lckind, m_lcclient, m_lcseq, m_lckey, m_lcfin, m_lcold, m_lcval, m_laseq, m_lad0, m_lad1, m_lad2, m_lad3, m_lad4, m_lad5, m_lad6, m_lsame, m_fd0, m_fd1, m_fd2, m_fd3, m_fd4, m_fd5, m_fd6, m_data⟩ : Letter)) (putLet (⟨m_lkind, m_src, m_dst, m_irep, m_islot, m_be, m_br, m_mkind, m_mclient, m_mseq, m_mkey, m_mfin, m_mold, m_mval, m_tseq, m_td0, m_td1, m_td2, m_td3, m_td4, m_td5, m_td6, m_lstatus, m_lpe, m_lpr, m_lve, m_lvr, m_lckind, m_lcclient, m_lcseq, m_lckey, m_lcfin, m_lcold, m_lcval, m_laseq, m_lad0, m_lad1, m_lad2, m_lad3, m_lad4, m_lad5, m_lad6, m_lsame, m_fd0, m_fd1, m_fd2, m_fd3, m_fd4, m_fd5, m_fd6, m_data⟩ : Letter)) else false) then sameX (putCellX xs (⟨m_lstatus, m_lpe, m_lpr, m_lve, m_lvr, m_lckind, m_lcclient, m_lcseq, m_lckey, m_lcfin, m_lcold, m_lcval, m_laseq, m_lad0, m_lad1, m_lad2, m_lad3, m_lad4, m_lad5, m_lad6, m_lsame⟩ : Cell)) xs else false) then true else false))) = boolD true
       rw [hm, sameX_self, sameX_self, decide_eq_true rfl, decide_eq_true rfl]
       rfl)
    | (refine ret_v ?_ rfl
       have hm : putCellM xs (⟨m_lstatus, m_lpe, m_lpr, m_lve, m_lvr, m_lckind, m_lcclient, m_lcseq, m_lckey, m_lcfin, m_lcold, m_lcval, m_laseq, m_lad0, m_lad1, m_lad2, m_lad3, m_lad4, m_lad5, m_lad6, m_lsame⟩ : Cell) = putCellX xs (⟨m_lstatus, m_lpe, m_lpr, m_lve, m_lvr, m_lckind, m_lcclient, m_lcseq, m_lckey, m_lcfin, m_lcold, m_lcval, m_laseq, m_lad0, m_lad1, m_lad2, m_lad3, m_lad4, m_lad5, m_lad6, m_lsame⟩ : Cell) := putCellM_eq h
       show DV.d (.sc (.bool (bif (bif (bif (bif decide (rightCell (⟨m_lstatus, m_lpe, m_lpr, m_lve, m_lvr, m_lckind, m_lcclient, m_lcseq, m_lckey, m_lcfin, m_lcold, m_lcval, m_laseq, m_lad0, m_lad1, m_lad2, m_lad3, m_lad4, m_lad5, m_lad6, m_lsame⟩ : Cell) = rightCell (⟨m_lstatus, m_lpe, m_lpr, m_lve, m_lvr, m_lckind, m_lcclient, m_lcseq, m_lckey, m_lcfin, m_lcold, m_lcval, m_laseq, m_lad0, m_lad1, m_lad2, m_lad3, m_lad4, m_lad5, m_lad6, m_lsame⟩ : Cell)) then decide (rightL (⟨m_lkind, m_src, m_dst, m_irep, m_islot, m_be, m_br, m_mkind, m_mclient, m_mseq, m_mkey, m_mfin, m_mold, m_mval, m_tseq, m_td0, m_td1, m_td2, m_td3, m_td4, m_td5, m_td6, m_lstatus, m_lpe, m_lpr, m_lve, m_lvr, m_lckind, m_lcclient, m_lcseq, m_lckey, m_lcfin, m_lcold, m_lcval, m_laseq, m_lad0, m_lad1, m_lad2, m_lad3, m_lad4, m_lad5, m_lad6, m_lsame, m_fd0, m_fd1, m_fd2, m_fd3, m_fd4, m_fd5, m_fd6, m_data⟩ : Letter) = rightL (⟨m_lkind, m_src, m_dst, m_irep, m_islot, m_be, m_br, m_mkind, m_mclient, m_mseq, m_mkey, m_mfin, m_mold, m_mval, m_tseq, m_td0, m_td1, m_td2, m_td3, m_td4, m_td5, m_td6, m_lstatus, m_lpe, m_lpr, m_lve, m_lvr, m_lckind, m_lcclient, m_lcseq, m_lckey, m_lcfin, m_lcold, m_lcval, m_laseq, m_lad0, m_lad1, m_lad2, m_lad3, m_lad4, m_lad5, m_lad6, m_lsame, m_fd0, m_fd1, m_fd2, m_fd3, m_fd4, m_fd5, m_fd6, m_data⟩ : Letter)) else false) then sameX (putLet (⟨m_lkind, m_src, m_dst, m_irep, m_islot, m_be, m_br, m_mkind, m_mclient, m_mseq, m_mkey, m_mfin, m_mold, m_mval, m_tseq, m_td0, m_td1, m_td2, m_td3, m_td4, m_td5, m_td6, m_lstatus, m_lpe, m_lpr, m_lve, m_lvr, m_lckind, m_lcclient, m_lcseq, m_lckey, m_lcfin, m_lcold, m_lcval, m_laseq, m_lad0, m_lad1, m_lad2, m_lad3, m_lad4, m_lad5, m_lad6, m_lsame, m_fd0, m_fd1, m_fd2, m_fd3, m_fd4, m_fd5, m_fd6, m_data⟩ : Letter)) (putLet (⟨m_lkind, m_src, m_dst, m_irep, m_islot, m_be, m_br, m_mkind, m_mclient, m_mseq, m_mkey, m_mfin, m_mold, m_mval, m_tseq, m_td0, m_td1, m_td2, m_td3, m_td4, m_td5, m_td6, m_lstatus, m_lpe, m_lpr, m_lve, m_lvr, m_lckind, m_lcclient, m_lcseq, m_lckey, m_lcfin, m_lcold, m_lcval, m_laseq, m_lad0, m_lad1, m_lad2, m_lad3, m_lad4, m_lad5, m_lad6, m_lsame, m_fd0, m_fd1, m_fd2, m_fd3, m_fd4, m_fd5, m_fd6, m_data⟩ : Letter)) else false) then sameX (putCellX xs (⟨m_lstatus, m_lpe, m_lpr, m_lve, m_lvr, m_lckind, m_lcclient, m_lcseq, m_lckey, m_lcfin, m_lcold, m_lcval, m_laseq, m_lad0, m_lad1, m_lad2, m_lad3, m_lad4, m_lad5, m_lad6, m_lsame⟩ : Cell)) (putCellM xs (⟨m_lstatus, m_lpe, m_lpr, m_lve, m_lvr, m_lckind, m_lcclient, m_lcseq, m_lckey, m_lcfin, m_lcold, m_lcval, m_laseq, m_lad0, m_lad1, m_lad2, m_lad3, m_lad4, m_lad5, m_lad6, m_lsame⟩ : Cell)) else false) then true else false))) = boolD true
       rw [hm, sameX_self, sameX_self, decide_eq_true rfl, decide_eq_true rfl]
       rfl)
    | (simp only [A0]
       first
         | exact fun _ => hp0
         | exact fun _ => hok
         | exact fun _ => hp1.mono (by omega)
         | exact fun _ => hxB
         | exact fun _ => putLet_B _
         | exact fun _ => hcx
         | exact fun _ => (show isB (putCellM xs (⟨m_lstatus, m_lpe, m_lpr, m_lve, m_lvr, m_lckind, m_lcclient, m_lcseq, m_lckey, m_lcfin, m_lcold, m_lcval, m_laseq, m_lad0, m_lad1, m_lad2, m_lad3, m_lad4, m_lad5, m_lad6, m_lsame⟩ : Cell)) from (putCellM_eq h).symm ▸ hcx)
         | exact id
         | exact fun _ => trivial
         | (intro q; rw [q]; rfl)
         | (intro q; simpa using q))

end Go.Proofs.Ytbhapclaochcnaa
