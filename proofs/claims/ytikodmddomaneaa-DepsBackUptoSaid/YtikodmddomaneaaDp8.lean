/- Covering; joining. No condition. -/
import Derived.Test.YtikodmddomaneaaDp7
namespace Go.Proofs.Ytikodmddomaneaa
open Go.RowKit
set_option linter.all false
set_option maxHeartbeats 4000000
theorem covers_iff {a b : Deps} : coversD a b = true ↔ b.d0 ≤ a.d0 ∧ b.d1 ≤ a.d1 ∧ b.d2 ≤ a.d2 ∧ b.d3 ≤ a.d3 ∧ b.d4 ≤ a.d4 ∧ b.d5 ≤ a.d5 ∧ b.d6 ≤ a.d6 := by
  simp [coversD, and_assoc]
theorem covers_trans {a b c : Deps} (h : coversD a b = true) (g : coversD b c = true) : coversD a c = true := by
  rw [covers_iff] at *
  omega
theorem covers_refl (a : Deps) : coversD a a = true := by rw [covers_iff]; omega
theorem covers_anti {a b : Deps} (h : coversD a b = true) (g : coversD b a = true) : a = b := by
  rw [covers_iff] at *
  cases a; cases b
  simp only at h g
  simp only [Deps.mk.injEq]
  omega
theorem covers_eqs {a b : Deps} (h1 : coversD a b = true) (h2 : coversD b a = true) : (decide (a.d0 = b.d0) && (decide (a.d1 = b.d1) && (decide (a.d2 = b.d2) && (decide (a.d3 = b.d3) && (decide (a.d4 = b.d4) && (decide (a.d5 = b.d5) && (decide (a.d6 = b.d6) && true))))))) = true := by
  have := covers_anti h1 h2
  subst this
  simp
theorem covers_reach {a b : Deps} {i : Inst} (h : coversD a b = true) (g : reachD b i = true) : reachD a i = true := by
  rw [covers_iff] at h
  unfold reachD at *
  simp only [Bool.and_eq_true, decide_eq_true_eq] at *
  refine ⟨g.1, ?_⟩
  have h2 := g.2
  have hk := rightI_rep g.1
  unfold Deps.at at *
  rcases hk with e | e | e | e | e | e | e <;> simp only [e] at * <;> simp at * <;> omega

structure FsV where
  coversL : Deps → Deps → Deps → Inst → Bool
def FsV0 : FsV where
  coversL := fun _ _ _ _ => true
set_option maxRecDepth 100000 in
theorem v_coversL (a : Deps) (b : Deps) (c : Deps) (i : Inst) : FnV Try.prog 7 [Deps.D a, Deps.D b, Deps.D c, Inst.D i] (boolD (((fun (_ _ _ : Deps) (_ : Inst) => true) a b c i))) := by
  obtain ⟨a_d0, a_d1, a_d2, a_d3, a_d4, a_d5, a_d6⟩ := a
  obtain ⟨b_d0, b_d1, b_d2, b_d3, b_d4, b_d5, b_d6⟩ := b
  obtain ⟨c_d0, c_d1, c_d2, c_d3, c_d4, c_d5, c_d6⟩ := c
  obtain ⟨i_replica, i_slot⟩ := i
  obtain ⟨GFsA, hGFsA⟩ : ∃ F, F = FsA0 := ⟨_, rfl⟩
  obtain ⟨GFsR, hGFsR⟩ : ∃ F, F = FsR0 := ⟨_, rfl⟩
  have hH : SoundK Try.prog [kn_covers GFsA, kn_reach GFsA, kn_runs GFsR] := by subst hGFsA hGFsR; exact orK_ok ok_covers (orK_ok ok_reach (orK_ok ok_runs noK_ok))
  refine FnD_cbv (T := fun _ => tabY [] []) (H := fun _ => [kn_covers GFsA, kn_reach GFsA, kn_runs GFsR]) (tabY_ok _ _) hH follows_mixed Try.func7 rfl Try.ntmps7 (by simp) fun A X W hA hX hW => ?_
  cbv
  repeat' first
    | (refine part (fun h => ?_) (fun h => ?_) <;> try cbv)
    | (refine And.intro ?_ ?_)
  all_goals subst hA hX hW hGFsA hGFsR
  all_goals clear hH
  all_goals simp only [A0, nc, FsA0, FsR0] at *
  all_goals have k1 := @covers_trans ⟨a_d0, a_d1, a_d2, a_d3, a_d4, a_d5, a_d6⟩ ⟨b_d0, b_d1, b_d2, b_d3, b_d4, b_d5, b_d6⟩ ⟨c_d0, c_d1, c_d2, c_d3, c_d4, c_d5, c_d6⟩
  all_goals have k2 := covers_refl ⟨a_d0, a_d1, a_d2, a_d3, a_d4, a_d5, a_d6⟩
  all_goals have k3 := @covers_eqs ⟨a_d0, a_d1, a_d2, a_d3, a_d4, a_d5, a_d6⟩ ⟨b_d0, b_d1, b_d2, b_d3, b_d4, b_d5, b_d6⟩
  all_goals have k4 := @covers_reach ⟨a_d0, a_d1, a_d2, a_d3, a_d4, a_d5, a_d6⟩ ⟨b_d0, b_d1, b_d2, b_d3, b_d4, b_d5, b_d6⟩ ⟨i_replica, i_slot⟩
  all_goals simp only at k3
  all_goals generalize (decide (a_d0 = b_d0) && (decide (a_d1 = b_d1) && (decide (a_d2 = b_d2) && (decide (a_d3 = b_d3) && (decide (a_d4 = b_d4) && (decide (a_d5 = b_d5) && (decide (a_d6 = b_d6) && true))))))) = E at *
  all_goals generalize coversD ⟨a_d0, a_d1, a_d2, a_d3, a_d4, a_d5, a_d6⟩ ⟨b_d0, b_d1, b_d2, b_d3, b_d4, b_d5, b_d6⟩ = p at *
  all_goals generalize coversD ⟨b_d0, b_d1, b_d2, b_d3, b_d4, b_d5, b_d6⟩ ⟨c_d0, c_d1, c_d2, c_d3, c_d4, c_d5, c_d6⟩ = q at *
  all_goals generalize coversD ⟨a_d0, a_d1, a_d2, a_d3, a_d4, a_d5, a_d6⟩ ⟨c_d0, c_d1, c_d2, c_d3, c_d4, c_d5, c_d6⟩ = r at *
  all_goals generalize coversD ⟨b_d0, b_d1, b_d2, b_d3, b_d4, b_d5, b_d6⟩ ⟨a_d0, a_d1, a_d2, a_d3, a_d4, a_d5, a_d6⟩ = t at *
  all_goals generalize coversD ⟨a_d0, a_d1, a_d2, a_d3, a_d4, a_d5, a_d6⟩ ⟨a_d0, a_d1, a_d2, a_d3, a_d4, a_d5, a_d6⟩ = u at *
  all_goals generalize reachD ⟨b_d0, b_d1, b_d2, b_d3, b_d4, b_d5, b_d6⟩ ⟨i_replica, i_slot⟩ = x at *
  all_goals generalize reachD ⟨a_d0, a_d1, a_d2, a_d3, a_d4, a_d5, a_d6⟩ ⟨i_replica, i_slot⟩ = y at *
  all_goals subst k2
  all_goals first
    | (show Region.lexB _ _ = true; kernel_rfl)
    | (show turnsB _ = true; kernel_rfl)
    | (intros; first | assumption | trivial | (simp_all; done))
    | (cases p <;> cases q <;> cases r <;> cases t <;> cases E <;> cases x <;> cases y <;> first | (simp_all; done) | (refine ret_v ?_ rfl; rfl) | (refine ret_v ?_ rfl; simp_all [boolD]; done) | (exfalso; simp_all; done))

end Go.Proofs.Ytikodmddomaneaa
