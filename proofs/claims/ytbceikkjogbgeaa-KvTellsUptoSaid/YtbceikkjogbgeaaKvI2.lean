/- slices.Insert of one pair behind the last, slices.Delete of one. No condition. -/
import Derived.Test.YtbceikkjogbgeaaKvI
namespace Go.Proofs.Ytbceikkjogbgeaa
open Go.RowKit
set_option linter.all false

set_option maxRecDepth 100000 in
set_option maxHeartbeats 8000000 in
theorem w_insertE (cs ds : List DV) (n : Nat) (i : Int) (v w : Nat) (hcs : cs.length = n * 3) (hds : ds.length = 3) (hi : i = n) (h0 : 0 < n) (hn : n ≤ 1000000) :
    FnD Try.prog 26 [.view 3 0 v 0 n, .d (.sc (.int .i64 i)), .view 3 1 w 0 1] [⟨29, cs, true, v, true⟩, ⟨29, ds, false, w, true⟩]
      (fun r st' => r = .view 3 0 (v + 1) 0 (n + 1) ∧ st' = [⟨29, cs ++ ds, true, v + 1, true⟩, ⟨29, ds, false, w, true⟩]) := by
  refine FnD_cbv (T := fun _ => tabY [5000, 5002] []) (H := fun _ => []) (tabY_ok _ _) noK_ok follows_mixed Try.func26 rfl Try.ntmps26 (by simp) fun A X W hA hX hW => ?_
  cbv
  refine And.intro ?_ (And.intro ?_ (And.intro ?_ (And.intro ?_ ?_)))
  · subst hA; simp only [A0]
  · subst hA hi; simp only [A0]
  · subst hA; simp only [A0]; exact h0
  · subst hA; simp only [A0]
  refine part (fun h => ?_) (fun h => ?_)
  · subst hA
    simp [A0] at h
  cbv
  refine And.intro (by subst hA; simp only [A0]) ?_
  refine part (fun h => ?_) (fun h => ?_)
  rotate_left
  · subst hA hi
    simp [A0] at h
  cbv
  subst hA hX hW hi
  simp only [A0, nc]
  refine ⟨trivial, by omega, trivial, by omega, by omega, RetW.refl ⟨rfl, ?_⟩⟩
  simp only [Nat.one_mul, List.drop_zero]
  rw [List.take_of_length_le (by omega)]
set_option maxRecDepth 100000 in
set_option maxHeartbeats 8000000 in
theorem w_delete (cs : List DV) (n k : Nat) (i j : Int) (v : Nat) (hcs : cs.length = n * 3) (hi : i = k) (hj : j = (k + 1 : Nat)) (h1 : k + 1 < n) (hn : n ≤ 4194304) :
    FnD Try.prog 27 [.view 3 0 v 0 n, .d (.sc (.int .i64 i)), .d (.sc (.int .i64 j))] [⟨29, cs, true, v, true⟩]
      (fun r st' => r = .view 3 0 (v + 1) 0 (n - 1) ∧ st' = [⟨29, delR cs k, true, v + 1, true⟩]) := by
  refine FnD.reveal 0 3 n _ rfl rfl (by simp) hcs fun c hc => ?_
  obtain ⟨cs', hcs'⟩ : ∃ x, x = cs ++ List.replicate ((c - n) * 3) DV.any := ⟨_, rfl⟩
  have hlen : cs'.length = c * 3 := by rw [hcs', List.length_append, List.length_replicate, hcs]; omega
  show FnD Try.prog 27 [.view 3 0 v 0 n, .d (.sc (.int .i64 i)), .d (.sc (.int .i64 j))] [⟨29, cs ++ List.replicate ((c - n) * 3) DV.any, false, v, true⟩] _
  rw [← hcs']
  refine FnD_cbv (T := fun _ => tabY [5000, 5001] []) (H := fun _ => []) (tabY_ok _ _) noK_ok follows_mixed Try.func27 rfl Try.ntmps27 (by simp) fun A X W hA hX hW => ?_
  cbv
  repeat' first
    | (refine part (fun h => ?_) (fun h => ?_) <;> try cbv)
    | (refine And.intro ?_ ?_)
  all_goals subst hA hX hW hi hj
  all_goals simp only [A0, nc, decide_eq_true_eq, decide_eq_false_iff_not, Bool.not_eq_true', Bool.not_eq_false'] at *
  all_goals have m1 : k + (n - (k + 1)) = n - 1 := by omega
  all_goals have m2 : ((n - 1 : Nat) : Int) = (n : Int) - 1 := by omega
  all_goals try simp only [m1, Int.toNat_natCast, Nat.zero_add, show Int.toNat 0 = 0 from rfl, Nat.zero_mul, List.drop_zero, Nat.sub_zero]
  all_goals have fl : ([DV.d (.sc (.string { data := { toList := [] } })), DV.d (.sc (.string { data := { toList := [] } })), DV.d (.sc (.int .i64 0))] : List DV).length = 3 := rfl
  all_goals have m3 : n - (n - 1) = 1 := by omega
  all_goals have f3 := flat3 _ fl 1
  all_goals have f4 : (splice cs' (k * 3) (List.take ((n - (k + 1)) * 3) (List.drop ((k + 1) * 3) cs'))).length = c * 3 := by rw [splice_length _ _ _ (by simp; omega), hlen]
  all_goals try simp only [m3, f4]
  all_goals first
    | rfl
    | assumption
    | omega
    | (exfalso; simp_all; done)
    | (exfalso; omega)
    | (show Region.lexB _ _ = true; kernel_rfl)
    | (show turnsB _ = true; kernel_rfl)
    | exact ⟨by omega, by omega, by omega, by omega⟩
    | (refine ⟨⟨by omega, by omega⟩, ?_, ?_⟩ <;> first | exact .inl (by omega) | exact .inr (.inl (by omega)) | exact .inr ⟨trivial, by omega⟩ | exact .inr (.inr ⟨trivial, by omega⟩))
    | (simp only [splice, List.length_append, f3, List.length_take, List.length_drop]; omega)
    | (refine ret_hide 0 ((n - 1) * 3) _ rfl ?_
       refine ret_bump rfl (RetW.refl ⟨rfl, ?_⟩)
       simp only [List.set_cons_zero, hcs', del_room cs _ n k _ hcs fl (show k < n by omega)]
       done)

theorem delE_room (cs z : List DV) (n k x : Nat) (hcs : cs.length = n * 3) (hz : z.length = 3) (hk : k + 1 = n) :
    (splice (splice (cs ++ List.replicate x DV.any) (k * 3) (rowsD [])) ((n - 1) * 3) (List.replicate 1 z).flatten).take ((n - 1) * 3) = delR cs (k : Int) := by
  have e : rowsD [] = [] := rfl
  rw [e, splice_nil]
  have h1 : (cs ++ List.replicate x DV.any).length = n * 3 + x := by simp [hcs]
  have h4 := flat3 z hz 1
  apply List.ext_getElem?
  intro j
  rw [List.getElem?_take, splice, splice_get _ _ _ (by rw [h1, h4]; omega)]
  simp only [delR, Int.toNat_natCast, h4]
  by_cases c1 : j < k * 3
  · rw [if_pos (by omega), if_neg (by omega), List.getElem?_append_left (by omega), List.getElem?_append_left (by simp [hcs]; omega), List.getElem?_take, if_pos c1]
  · rw [if_neg (by omega), List.getElem?_eq_none (by simp [hcs]; omega)]

set_option maxRecDepth 100000 in
set_option maxHeartbeats 8000000 in
theorem w_deleteE (cs : List DV) (n k : Nat) (i j : Int) (v : Nat) (hcs : cs.length = n * 3) (hi : i = k) (hj : j = (k + 1 : Nat)) (h1 : k + 1 = n) (hn : n ≤ 4194304) :
    FnD Try.prog 27 [.view 3 0 v 0 n, .d (.sc (.int .i64 i)), .d (.sc (.int .i64 j))] [⟨29, cs, true, v, true⟩]
      (fun r st' => r = .view 3 0 (v + 1) 0 (n - 1) ∧ st' = [⟨29, delR cs k, true, v + 1, true⟩]) := by
  refine FnD.reveal 0 3 n _ rfl rfl (by simp) hcs fun c hc => ?_
  obtain ⟨cs', hcs'⟩ : ∃ x, x = cs ++ List.replicate ((c - n) * 3) DV.any := ⟨_, rfl⟩
  have hlen : cs'.length = c * 3 := by rw [hcs', List.length_append, List.length_replicate, hcs]; omega
  show FnD Try.prog 27 [.view 3 0 v 0 n, .d (.sc (.int .i64 i)), .d (.sc (.int .i64 j))] [⟨29, cs ++ List.replicate ((c - n) * 3) DV.any, false, v, true⟩] _
  rw [← hcs']
  refine FnD_cbv (T := fun _ => tabY [5000, 5001, 5002] []) (H := fun _ => []) (tabY_ok _ _) noK_ok follows_mixed Try.func27 rfl Try.ntmps27 (by simp) fun A X W hA hX hW => ?_
  cbv
  repeat' first
    | (refine part (fun h => ?_) (fun h => ?_) <;> try cbv)
    | (refine And.intro ?_ ?_)
  all_goals subst hA hX hW hi hj
  all_goals simp only [A0, nc, decide_eq_true_eq, decide_eq_false_iff_not, Bool.not_eq_true', Bool.not_eq_false'] at *
  all_goals have m1 : k + ([] : List (List PD)).length = n - 1 := by simp; omega
  all_goals have m2 : ((n - 1 : Nat) : Int) = (n : Int) - 1 := by omega
  all_goals try simp only [m1, Int.toNat_natCast, Nat.zero_add, show Int.toNat 0 = 0 from rfl, Nat.zero_mul, List.drop_zero, Nat.sub_zero]
  all_goals have fl : ([DV.d (.sc (.string { data := { toList := [] } })), DV.d (.sc (.string { data := { toList := [] } })), DV.d (.sc (.int .i64 0))] : List DV).length = 3 := rfl
  all_goals have m3 : n - (n - 1) = 1 := by omega
  all_goals have f3 := flat3 _ fl 1
  all_goals have f4 : (splice cs' (k * 3) (rowsD [])).length = c * 3 := by rw [splice_length _ _ _ (by simp [rowsD]; omega), hlen]
  all_goals try simp only [m3, f4]
  all_goals first
    | rfl
    | assumption
    | omega
    | (exfalso; simp_all; done)
    | (exfalso; omega)
    | (show Region.lexB _ _ = true; kernel_rfl)
    | (show turnsB _ = true; kernel_rfl)
    | exact ⟨by omega, by omega, by omega, by omega⟩
    | (refine ⟨⟨by omega, by omega⟩, ?_, ?_⟩ <;> first | exact .inl (by omega) | exact .inr (.inl (by omega)) | exact .inr ⟨trivial, by omega⟩ | exact .inr (.inr ⟨trivial, by omega⟩))
    | (simp only [splice, List.length_append, f3, List.length_take, List.length_drop]; omega)
    | (refine ret_hide 0 ((n - 1) * 3) _ rfl ?_
       refine ret_bump rfl (RetW.refl ⟨rfl, ?_⟩)
       simp only [List.set_cons_zero, hcs', delE_room cs _ n k _ hcs fl h1]
       done)

end Go.Proofs.Ytbceikkjogbgeaa
