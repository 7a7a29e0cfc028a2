/- Chapter 7's runs. No condition. -/
import Derived.Test.YtikodmddomaneaaDp6
namespace Go.Proofs.Ytikodmddomaneaa
open Go.RowKit
set_option linter.all false
set_option maxHeartbeats 4000000

structure FsR where
  runs : Bool
def FsR0 : FsR where
  runs := true
set_option maxRecDepth 100000 in
theorem v_runs : FnV Try.prog 3 [] (boolD true) := by
  obtain ⟨GFsL, hGFsL⟩ : ∃ F, F = FsL0 := ⟨_, rfl⟩
  obtain ⟨GFsJ, hGFsJ⟩ : ∃ F, F = FsJ0 := ⟨_, rfl⟩
  obtain ⟨GFsA, hGFsA⟩ : ∃ F, F = FsA0 := ⟨_, rfl⟩
  obtain ⟨GFsO, hGFsO⟩ : ∃ F, F = FsO0 := ⟨_, rfl⟩
  obtain ⟨GFsI, hGFsI⟩ : ∃ F, F = FsI0 := ⟨_, rfl⟩
  obtain ⟨GFsQ, hGFsQ⟩ : ∃ F, F = FsQ0 := ⟨_, rfl⟩
  have hH : SoundK Try.prog [kn_atF GFsL, kn_join GFsJ, kn_reach GFsA, kn_most GFsO, kn_list GFsI, kn_sameI GFsQ] := by subst hGFsL hGFsJ hGFsA hGFsO hGFsI hGFsQ; exact orK_ok ok_atF (orK_ok ok_join (orK_ok ok_reach (orK_ok ok_most (orK_ok ok_list (orK_ok ok_sameI noK_ok)))))
  refine FnD_cbv (T := fun _ => tabY [] [1, 2, 3, 4]) (H := fun _ => [kn_atF GFsL, kn_join GFsJ, kn_reach GFsA, kn_most GFsO, kn_list GFsI, kn_sameI GFsQ]) (tabY_ok _ _) hH follows_mixed Try.func3 rfl Try.ntmps3 (by simp) fun A X W hA hX hW => ?_
  cbv
  repeat' first
    | (refine part (fun h => ?_) (fun h => ?_) <;> try cbv)
    | (refine And.intro ?_ ?_)
    | ((with_reducible refine regionF (T := fun _ => tabY [] [1,2,3,4]) (H := fun _ => [kn_atF GFsL, kn_join GFsJ, kn_reach GFsA, kn_most GFsO, kn_list GFsI, kn_sameI GFsQ]) (tabY_ok _ _) hH hA hX ?_) <;> cbv)
    | ((with_reducible refine regionL [1000001,1000002] [] (T := fun _ => tabY [] []) (H := fun _ => [kn_atF GFsL, kn_join GFsJ, kn_reach GFsA, kn_most GFsO, kn_list GFsI, kn_sameI GFsQ]) (B := fun _ => []) (R := fun _ => []) (A := A) (tabY_ok _ _) hH noB_ok noR_ok follows_mixed hA hX (by kernel_rfl) (by kernel_rfl) (by kernel_rfl) ?_) <;> cbv)
  all_goals subst hA hX hW hGFsL hGFsJ hGFsA hGFsO hGFsI hGFsQ
  all_goals clear hH
  all_goals simp only [A0, nc, FsL0, FsJ0, FsA0, FsO0, FsI0, FsQ0] at *
  all_goals first
    | exact ⟨[0, 4], rfl⟩
    | exact ⟨[0], rfl⟩
    | exact ⟨[1], rfl⟩
    | exact ⟨[1, 2], rfl⟩
    | exact ⟨[0, 1], rfl⟩
    | exact ⟨[2, 0], rfl⟩
    | exact ⟨[1, 5], rfl⟩
    | exact ⟨[2, 5], rfl⟩
    | exact ⟨[atX 1 [[.sc (.int .i64 0)]], atX 2 [[.sc (.int .i64 1)]], atX 2 [[.sc (.int .i64 1)]]], rfl, by decide, by unfold rAttr r64; decide⟩
    | exact ⟨[atX 1 [[.sc (.int .i64 2)], [.sc (.int .i64 0)]], atX 3 [[.sc (.int .i64 1)], [.sc (.int .i64 5)]]], rfl, by decide, by unfold rAttr r64; decide⟩
    | exact list_isIn _ _
    | exact ⟨[⟨0, 1⟩, ⟨1, 2⟩], rfl, by decide⟩
    | (show rDeps _; unfold rDeps r64; decide)
    | (exact absurd (‹_ = false›.symm.trans (by kernel_rfl)) (by decide : ¬ (false = true)))
    | (refine ret_v ?_ rfl; kernel_rfl)

def kn_runs (F : FsR) : FuncId × (List DV → RV) := (3, fun args => match args with
  | [] => some ([], boolD F.runs)
  | _ => none)
theorem ok_runs (args : List DV) (cs : List Prop) (r : DV) (h : (kn_runs FsR0).2 args = some (cs, r)) (hc : allP cs True) : FnV Try.prog 3 args r ∧ closedL 0 args = true := by
  unfold kn_runs at h
  simp only at h
  split at h
  · cases h; exact ⟨v_runs, rfl⟩
  · cases h
end Go.Proofs.Ytikodmddomaneaa
