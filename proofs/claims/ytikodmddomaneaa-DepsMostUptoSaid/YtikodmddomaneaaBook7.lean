/- The book's Within. No condition. -/
import Derived.Test.YtikodmddomaneaaR64
namespace Go.Proofs.Ytikodmddomaneaa
open Go.RowKit
set_option linter.all false
def within3 (n lo hi : Int) : Int := lo + n % (hi - lo + 1)
def span3 (lo hi : Int) : Prop := lo ≤ hi ∧ -1099511627776 ≤ lo ∧ hi ≤ 1099511627776
theorem tmod_cases (n W : Int) (hW : 0 < W) : (n.tmod W < 0 → n.tmod W + W = n % W) ∧ (¬ n.tmod W < 0 → n.tmod W = n % W) := by
  have h1 := Int.emod_nonneg n (show W ≠ 0 by omega)
  have h2 := Int.emod_lt_of_pos n hW
  rw [Int.tmod_eq_emod]
  have h3 : ((W.natAbs : Nat) : Int) = W := by omega
  split
  · omega
  · rw [h3]; omega

structure FsW where
  within3 : Int → Int → Int → Int
  r64 : Int → Prop
  span3 : Int → Int → Prop
def FsW0 : FsW where
  within3 := within3
  r64 := r64
  span3 := span3
set_option maxRecDepth 100000 in
theorem v_within3 (n : Int) (lo : Int) (hi : Int) (hp0 : FsW0.r64 n) (hp1 : FsW0.span3 lo hi) : FnV Try.prog 16 [intD n, intD lo, intD hi] (intD ((within3 n lo hi))) := by
  refine FnD_cbv (T := fun _ => tabY [] []) (H := fun _ => []) (tabY_ok _ _) noK_ok follows_mixed Try.func16 rfl Try.ntmps16 (by simp) fun A X W hA hX hW => ?_
  cbv
  repeat' first
    | (refine part (fun h => ?_) (fun h => ?_) <;> try cbv)
    | (refine And.intro ?_ ?_)
  all_goals subst hA hX hW
  all_goals try (show Region.lexB _ _ = true; kernel_rfl)
  all_goals try (show turnsB _ = true; kernel_rfl)
  all_goals simp only [A0, FsW0, decide_eq_true_eq, decide_eq_false_iff_not, Bool.not_eq_true', Bool.not_eq_false'] at *
  all_goals
    have hr : r64 n := hp0
    have hs : span3 lo hi := hp1
    unfold span3 at hs
    have e1 : IntKind.wrap .i64 (hi - lo) = hi - lo := wrap_i64 (by unfold r64; omega)
    have e2 : IntKind.wrap .i64 (hi - lo + 1) = hi - lo + 1 := wrap_i64 (by unfold r64; omega)
    have hc := tmod_cases n (hi - lo + 1) (by omega)
    have h1 := Int.emod_nonneg n (show hi - lo + 1 ≠ 0 by omega)
    have h2 := Int.emod_lt_of_pos n (show 0 < hi - lo + 1 by omega)
    simp only [e1, e2] at *
  · omega
  · refine ret_v ?_ rfl
    have h3 := hc.1 h
    have e3 : IntKind.wrap .i64 (n.tmod (hi - lo + 1) + hi) = n.tmod (hi - lo + 1) + hi := wrap_i64 (by unfold r64; omega)
    have e4 : IntKind.wrap .i64 (n.tmod (hi - lo + 1) + hi - lo) = n.tmod (hi - lo + 1) + hi - lo := wrap_i64 (by unfold r64; omega)
    have e5 : IntKind.wrap .i64 (n.tmod (hi - lo + 1) + hi - lo + 1) = n % (hi - lo + 1) := by rw [wrap_i64 (by unfold r64; omega)]; omega
    have e6 : IntKind.wrap .i64 (lo + n % (hi - lo + 1)) = lo + n % (hi - lo + 1) := wrap_i64 (by unfold r64; omega)
    rw [e3, e4, e5, e6]
    rfl
  · refine ret_v ?_ rfl
    rw [hc.2 h]
    have e6 : IntKind.wrap .i64 (lo + n % (hi - lo + 1)) = lo + n % (hi - lo + 1) := wrap_i64 (by unfold r64; omega)
    rw [e6]
    rfl
def kn_within3 (F : FsW) : FuncId × (List DV → RV) := (16, fun args => match args with
  | [.d (.sc (.int .i64 n)), .d (.sc (.int .i64 lo)), .d (.sc (.int .i64 hi))] => some ([F.r64 n, F.span3 lo hi], intD ((F.within3 n lo hi)))
  | _ => none)
theorem ok_within3 (args : List DV) (cs : List Prop) (r : DV) (h : (kn_within3 FsW0).2 args = some (cs, r)) (hc : allP cs True) : FnV Try.prog 16 args r ∧ closedL 0 args = true := by
  unfold kn_within3 at h
  simp only at h
  split at h
  · cases h; exact ⟨v_within3 _ _ _ hc.1 hc.2.1, rfl⟩
  · cases h
end Go.Proofs.Ytikodmddomaneaa
