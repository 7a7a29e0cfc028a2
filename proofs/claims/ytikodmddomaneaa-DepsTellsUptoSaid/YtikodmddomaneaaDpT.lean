/- Any attributes joined, counted; any row reached, covered, listed. No condition. -/
import Derived.Test.YtikodmddomaneaaDpM
namespace Go.Proofs.Ytikodmddomaneaa
open Go.RowKit
set_option linter.all false
set_option maxHeartbeats 4000000

structure FsT where
  tellsL : List (List PD) → Deps → Deps → Inst → Bool
  isAt : List (List PD) → Prop
  rDeps : Deps → Prop
def FsT0 : FsT where
  tellsL := fun _ _ _ _ => true
  isAt := isAt
  rDeps := rDeps
theorem and7 {k : Int} (h : k = 0 ∨ k = 1 ∨ k = 2 ∨ k = 3 ∨ k = 4 ∨ k = 5 ∨ k = 6) : (bitsV IntKind.i64 (fun {n} (x1 x2 : BitVec n) => x1 &&& x2) k 7).tmod 7 = k := by
  rcases h with rfl | rfl | rfl | rfl | rfl | rfl | rfl <;> decide
/-- Region n of a body. -/
noncomputable def fndT (n : Nat) : Code → List (Array Oper)
  | .region i ops _ => if i == n then [ops] else []
  | .seq a b => fndT n a ++ fndT n b
  | .cond _ a b => fndT n a ++ fndT n b
  | .block _ b => fndT n b
  | .loop b => fndT n b
  | .scope b => fndT n b
  | _ => []
noncomputable def regT : Array Oper := (fndT 22 (Try.f8.body.getD .skip)).headD #[]
theorem regT_lex : Region.lexB .any regT = true := by kernel_rfl
theorem regT_of {ops : Array Oper} (h : ops = regT) : Region.lexB .any ops = true := by rw [h]; exact regT_lex
theorem right_bif (i : Inst) : (bif (bif (bif decide (0 ≤ i.replica) then decide (i.replica < 7) else false) then decide (1 ≤ i.slot) else false) then decide (i.slot ≤ 1073741824) else false) = rightI i := by
  unfold rightI
  cases decide (0 ≤ i.replica) <;> cases decide (i.replica < 7) <;> cases decide (1 ≤ i.slot) <;> cases decide (i.slot ≤ 1073741824) <;> rfl
theorem joinA_self (a : Attr) : joinA a a = a := by simp [joinA]
theorem joinL_step {l : List Attr} {i : Nat} (h : i < l.length) : joinL (l.take (i + 1)) = joinA (if i = 0 then l[i] else joinL (l.take i)) l[i] := by
  cases l with
  | nil => simp at h
  | cons a l =>
    cases i with
    | zero => simp [joinL, joinA_self]
    | succ i =>
      have h2 : i < l.length := by simpa using h
      have := fold_step (f := a) h2
      simpa [joinL] using this
theorem cutL {α : Sort _} {X : Cps} {c : Code} {Q : Exit → SL → Store → Prop} {G : Prop} (I : α → Prop) (S : α → SL) (ST : Store) (pf : ∀ y, I y → X.st c Q (S y) ST) (g : (∀ y, I y → X.st c Q (S y) ST) → G) : G := g pf

set_option maxRecDepth 100000 in
theorem v_tellsL (xs : List (List PD)) (d : Deps) (f : Deps) (i : Inst) (hp0 : FsT0.isAt xs) (hp1 : FsT0.rDeps d) (hp2 : FsT0.rDeps f) : FnV Try.prog 8 [.d (.slc 8 xs), Deps.D d, Deps.D f, Inst.D i] (boolD (((fun (_ : List (List PD)) (_ _ : Deps) (_ : Inst) => true) xs d f i))) := by
  obtain ⟨d_d0, d_d1, d_d2, d_d3, d_d4, d_d5, d_d6⟩ := d
  obtain ⟨f_d0, f_d1, f_d2, f_d3, f_d4, f_d5, f_d6⟩ := f
  obtain ⟨i_replica, i_slot⟩ := i
  obtain ⟨GFsL, hGFsL⟩ : ∃ F, F = FsL0 := ⟨_, rfl⟩
  obtain ⟨GFsM, hGFsM⟩ : ∃ F, F = FsM0 := ⟨_, rfl⟩
  obtain ⟨GFsA, hGFsA⟩ : ∃ F, F = FsA0 := ⟨_, rfl⟩
  obtain ⟨GFsO, hGFsO⟩ : ∃ F, F = FsO0 := ⟨_, rfl⟩
  obtain ⟨GFsO2, hGFsO2⟩ : ∃ F, F = FsO20 := ⟨_, rfl⟩
  obtain ⟨GFsJ, hGFsJ⟩ : ∃ F, F = FsJ0 := ⟨_, rfl⟩
  obtain ⟨GFsI, hGFsI⟩ : ∃ F, F = FsI0 := ⟨_, rfl⟩
  obtain ⟨GFsI2, hGFsI2⟩ : ∃ F, F = FsI20 := ⟨_, rfl⟩
  obtain ⟨GFsQ, hGFsQ⟩ : ∃ F, F = FsQ0 := ⟨_, rfl⟩
  obtain ⟨GFsR, hGFsR⟩ : ∃ F, F = FsR0 := ⟨_, rfl⟩
  have hH : SoundK Try.prog [kn_atF GFsL, kn_roomyA GFsM, kn_join2 GFsA, kn_rightA GFsA, kn_rightAR GFsA, kn_most GFsO, kn_mostR GFsO2, kn_join GFsJ, kn_covers GFsA, kn_reach GFsA, kn_list GFsI, kn_listR GFsI2, kn_sameI GFsQ, kn_intactA GFsM, kn_runs GFsR] := by subst hGFsL hGFsM hGFsA hGFsO hGFsO2 hGFsJ hGFsI hGFsI2 hGFsQ hGFsR; exact orK_ok ok_atF (orK_ok ok_roomyA (orK_ok ok_join2 (orK_ok ok_rightA (orK_ok ok_rightAR (orK_ok ok_most (orK_ok ok_mostR (orK_ok ok_join (orK_ok ok_covers (orK_ok ok_reach (orK_ok ok_list (orK_ok ok_listR (orK_ok ok_sameI (orK_ok ok_intactA (orK_ok ok_runs noK_ok))))))))))))))
  refine FnD_cbv (T := fun _ => tabY [5003, 42, 47, 52, 57, 68, 71, 108] [3, 19, 21, 22]) (H := fun _ => [kn_atF GFsL, kn_roomyA GFsM, kn_join2 GFsA, kn_rightA GFsA, kn_rightAR GFsA, kn_most GFsO, kn_mostR GFsO2, kn_join GFsJ, kn_covers GFsA, kn_reach GFsA, kn_list GFsI, kn_listR GFsI2, kn_sameI GFsQ, kn_intactA GFsM, kn_runs GFsR]) (tabY_ok _ _) hH follows_mixed Try.func8 rfl Try.ntmps8 (by simp) fun A X W hA hX hW => ?_
  cbv
  have hx : isAt xs := hp0
  apply cutL (fun ys : List (List PD) => isAt ys ∧ ys.length ≤ 30) (fun ys => [(0, .d (.slc 8 ys)), (5, .ref 0 0 0), (6, .ref 1 0 0), (7, .ref 2 0 0), (8, .d (.sc (.bool false)))]) [⟨23, [.d (.sc (.int .i64 d_d0)), .d (.sc (.int .i64 d_d1)), .d (.sc (.int .i64 d_d2)), .d (.sc (.int .i64 d_d3)), .d (.sc (.int .i64 d_d4)), .d (.sc (.int .i64 d_d5)), .d (.sc (.int .i64 d_d6))], false, 0, true⟩, ⟨23, [.d (.sc (.int .i64 f_d0)), .d (.sc (.int .i64 f_d1)), .d (.sc (.int .i64 f_d2)), .d (.sc (.int .i64 f_d3)), .d (.sc (.int .i64 f_d4)), .d (.sc (.int .i64 f_d5)), .d (.sc (.int .i64 f_d6))], false, 0, true⟩, ⟨34, [.d (.sc (.int .i64 i_replica)), .d (.sc (.int .i64 i_slot))], false, 0, true⟩]
  rotate_left
  · intro key
    refine part (fun h => ?_) (fun h => ?_) <;> cbv
    · refine And.intro ?_ ?_
      · subst hA; simp only [A0, nc, decide_eq_true_eq] at *; replace h : (30 : Int) < xs.length := h; exact ⟨by omega, by omega, by omega⟩
      · refine pauseL hX (s' := _) (st' := _) ?_ (key (xs.take 30) ⟨isAt_take hx 30, by simp; omega⟩)
        subst hA
        exact told_less (by simp [toldP, getS, A0])
    · refine pauseL hX (s' := _) (st' := _) ?_ (key xs ⟨hx, ?_⟩)
      · exact told_less (by simp [toldP, getS])
      · subst hA; simp only [A0, nc, decide_eq_false_iff_not] at h; replace h : ¬ (30 : Int) < xs.length := h; omega
  rintro ys ⟨hys, hy30⟩
  with_reducible refine goL (T := fun _ => tabY [5003, 42, 47, 52, 57, 68, 71, 108] []) (H := fun _ => [kn_atF GFsL, kn_roomyA GFsM, kn_join2 GFsA, kn_rightA GFsA, kn_rightAR GFsA, kn_most GFsO, kn_mostR GFsO2, kn_join GFsJ, kn_covers GFsA, kn_reach GFsA, kn_list GFsI, kn_listR GFsI2, kn_sameI GFsQ, kn_intactA GFsM, kn_runs GFsR]) (tabY_ok _ _) hH follows_mixed hA hX ?_
  cbv
  obtain ⟨l, hl, hll, hlr⟩ := hys
  have hys : isAt ys := ⟨l, hl, hll, hlr⟩
  have hlen : ys.length = l.length := by rw [hl]; exact attrsX_length l
  refine And.intro (by subst hGFsL; exact ⟨[], rfl⟩) (And.intro (by subst hGFsM; exact hys) ?_)
  obtain ⟨m, hm⟩ : ∃ m : Attr, GFsL.atF 9 [] = m := ⟨_, rfl⟩
  obtain ⟨ms, m0, m1, m2, m3, m4, m5, m6⟩ := m
  have hm2 := hm
  cbv at hm
  simp only [hm]
  obtain ⟨full, hfull⟩ : ∃ full, GFsM.roomyA ys ⟨ms, m0, m1, m2, m3, m4, m5, m6⟩ = full := ⟨_, rfl⟩
  have hful2 : full = roomG ys (Attr.row ⟨ms, m0, m1, m2, m3, m4, m5, m6⟩) := by rw [← hfull]; subst hGFsM; rfl
  have eo : A.sub full 0 (A.len ys) = ys := by subst hA; rw [hful2]; exact roomG_take ys _
  have ec : A.bnd 0 (A.len ys) (A.len full) := by subst hA; simp only [A0]; rw [hful2, roomG_length]; exact ⟨by omega, by omega, by omega⟩
  cbv at hfull eo ec
  simp only [hfull, eo]
  refine And.intro ec ?_
  obtain ⟨n, hn⟩ : ∃ n : Int, n = l.length := ⟨_, rfl⟩
  refine loopL (T := fun _ => tabY [5003, 42, 47, 52, 57, 68, 71, 108] [11,19]) (H := fun _ => [kn_atF GFsL, kn_roomyA GFsM, kn_join2 GFsA, kn_rightA GFsA, kn_rightAR GFsA, kn_most GFsO, kn_mostR GFsO2, kn_join GFsJ, kn_covers GFsA, kn_reach GFsA, kn_list GFsI, kn_listR GFsI2, kn_sameI GFsQ, kn_intactA GFsM, kn_runs GFsR]) (tabY_ok _ _) hH follows_mixed hA hX (fun x : Int × Attr => (0 ≤ x.1 ∧ x.1 ≤ n) ∧ x.2 = joinL (l.take x.1.toNat)) (fun x => [(0, .d (.slc 8 ys)), (5, .ref 0 0 0), (6, .ref 1 0 0), (7, .ref 2 0 0), (8, .d (.sc (.bool false))), (9, .d (.slc 8 full)), (10, .d (.slc 8 ys)), (11, .ref 3 0 0), (12, .d (.sc (.int .i64 x.1)))]) (fun x => [⟨23, [.d (.sc (.int .i64 d_d0)), .d (.sc (.int .i64 d_d1)), .d (.sc (.int .i64 d_d2)), .d (.sc (.int .i64 d_d3)), .d (.sc (.int .i64 d_d4)), .d (.sc (.int .i64 d_d5)), .d (.sc (.int .i64 d_d6))], false, 0, true⟩, ⟨23, [.d (.sc (.int .i64 f_d0)), .d (.sc (.int .i64 f_d1)), .d (.sc (.int .i64 f_d2)), .d (.sc (.int .i64 f_d3)), .d (.sc (.int .i64 f_d4)), .d (.sc (.int .i64 f_d5)), .d (.sc (.int .i64 f_d6))], false, 0, true⟩, ⟨34, [.d (.sc (.int .i64 i_replica)), .d (.sc (.int .i64 i_slot))], false, 0, true⟩, ⟨25, [.d (.sc (.int .i64 x.2.seq)), .d (.sc (.int .i64 x.2.d0)), .d (.sc (.int .i64 x.2.d1)), .d (.sc (.int .i64 x.2.d2)), .d (.sc (.int .i64 x.2.d3)), .d (.sc (.int .i64 x.2.d4)), .d (.sc (.int .i64 x.2.d5)), .d (.sc (.int .i64 x.2.d6))], false, 0, true⟩]) (fun x => n.toNat - x.1.toNat) (0, zeroA) ⟨⟨Int.le_refl 0, by show 0 ≤ n; omega⟩, rfl⟩ (told_less (by simp [toldP, getS, zeroA])) ?_
  rintro R ⟨i, w⟩ hR ⟨⟨i0, i1⟩, hw⟩
  replace i0 : 0 ≤ i := i0
  replace i1 : i ≤ n := i1
  replace hw : w = joinL (l.take i.toNat) := hw
  cbv
  refine part (fun h1 => ?_) (fun h1 => ?_)
  · cbv
    repeat' first
      | (refine part (fun h => ?_) (fun h => ?_) <;> try cbv)
      | (refine And.intro ?_ ?_)
      | ((with_reducible refine regionZ (T := fun _ => tabY [5003, 42, 47, 52, 57, 68, 71, 108] []) (H := fun _ => [kn_atF GFsL, kn_roomyA GFsM, kn_join2 GFsA, kn_rightA GFsA, kn_rightAR GFsA, kn_most GFsO, kn_mostR GFsO2, kn_join GFsJ, kn_covers GFsA, kn_reach GFsA, kn_list GFsI, kn_listR GFsI2, kn_sameI GFsQ, kn_intactA GFsM, kn_runs GFsR]) (A := A) (tabY_ok _ _) hH follows_mixed hA hX (by kernel_rfl) ?_) <;> cbv)
    all_goals clear hm hm2 hfull hful2 eo ec hp0 hp1 hp2 hx
    all_goals subst hA hX hW hGFsL hGFsM hGFsA hGFsO hGFsO2 hGFsJ hGFsI hGFsI2 hGFsQ hGFsR hR
    all_goals clear hH
    all_goals have hlt : i < (l.length : Int) := by (simp only [A0, nc, decide_eq_true_eq] at h1; replace h1 : i < (ys.length : Int) := h1; omega)
    all_goals have hlN : i.toNat < l.length := by omega
    all_goals have hst := joinL_step hlN
    all_goals obtain ⟨a, ha⟩ : ∃ a, l[i.toNat] = a := ⟨_, rfl⟩
    all_goals rw [ha] at hst
    all_goals simp only [A0, nc, FsL0, FsM0, FsA0, FsO0, FsO20, FsJ0, FsI0, FsI20, FsQ0, FsR0, decide_eq_true_eq, decide_eq_false_iff_not, Bool.not_eq_true', Bool.not_eq_false'] at *
    all_goals have ei : IntKind.wrap .i64 (i + 1) = i + 1 := wrap_i64 (by unfold r64; omega)
    all_goals have hrow : ys.getD i.toNat [] = a.row := by (rw [← ha]; exact arow hl i0 hlt)
    all_goals have hr0 : i = 0 → ys.getD (Int.toNat 0) [] = a.row := fun e => by rw [← hrow, e]
    all_goals rcases Decidable.em (i = 0) with h0 | h0
    all_goals try have hr1 := hr0 h0
    all_goals clear hr0
    all_goals try simp only [hr1]
    all_goals try simp only [hrow]
    all_goals try simp only [Attr.row, List.map_cons, List.map_nil, List.getElem?_cons_zero, List.getElem?_cons_succ, Nat.zero_add, Nat.reduceAdd, List.drop_zero]
    all_goals first
      | (show Region.lexB _ _ = true; kernel_rfl)
      | (show turnsB _ = true; kernel_rfl)
      | (intros; first | assumption | trivial | omega | (simp_all; done))
      | (refine ⟨by omega, by omega⟩)
      | (simp; done)
      | (exfalso; contradiction)
      | (exfalso; simp_all; done)
      | (refine ⟨(i + 1, joinA a a), ⟨⟨by show 0 ≤ i + 1; omega, by show i + 1 ≤ n; omega⟩, ?_⟩, ?_, told_less ?_⟩
         · show _ = joinL (l.take (i + 1).toNat)
           rw [show (i + 1).toNat = i.toNat + 1 by omega, hst]
           rw [if_pos (by omega)]
         · show n.toNat - (i + 1).toNat < n.toNat - i.toNat; omega
         · (simp [toldP, getS, ei]; done))
      | (refine ⟨(i + 1, joinA w a), ⟨⟨by show 0 ≤ i + 1; omega, by show i + 1 ≤ n; omega⟩, ?_⟩, ?_, told_less ?_⟩
         · show _ = joinL (l.take (i + 1).toNat)
           rw [show (i + 1).toNat = i.toNat + 1 by omega, hst]
           rw [if_neg (by omega), hw]
         · show n.toNat - (i + 1).toNat < n.toNat - i.toNat; omega
         · (simp [toldP, getS, ei]; done))
  cbv
  have hwl : w = joinL l := by
    have h2 : ¬ i < (l.length : Int) := by subst hA; simp only [A0, nc, decide_eq_false_iff_not] at h1; replace h1 : ¬ i < (ys.length : Int) := h1; omega
    rw [hw, List.take_of_length_le (by omega)]
  clear hw h1 i0 i1 hR R
  have l0 : A.cmp .lss 0 7 = true := by subst hA; rfl
  cbv at l0
  have l1 : A.cmp .lss 1 7 = true := by subst hA; rfl
  cbv at l1
  have l2 : A.cmp .lss 2 7 = true := by subst hA; rfl
  cbv at l2
  have l3 : A.cmp .lss 3 7 = true := by subst hA; rfl
  cbv at l3
  have l4 : A.cmp .lss 4 7 = true := by subst hA; rfl
  cbv at l4
  have l5 : A.cmp .lss 5 7 = true := by subst hA; rfl
  cbv at l5
  have l6 : A.cmp .lss 6 7 = true := by subst hA; rfl
  cbv at l6
  have l7 : A.cmp .lss 7 7 = false := by subst hA; rfl
  cbv at l7
  have b0 : A.bin .add .i64 0 1 = 1 := by subst hA; rfl
  cbv at b0
  have b1 : A.bin .add .i64 1 1 = 2 := by subst hA; rfl
  cbv at b1
  have b2 : A.bin .add .i64 2 1 = 3 := by subst hA; rfl
  cbv at b2
  have b3 : A.bin .add .i64 3 1 = 4 := by subst hA; rfl
  cbv at b3
  have b4 : A.bin .add .i64 4 1 = 5 := by subst hA; rfl
  cbv at b4
  have b5 : A.bin .add .i64 5 1 = 6 := by subst hA; rfl
  cbv at b5
  have b6 : A.bin .add .i64 6 1 = 7 := by subst hA; rfl
  cbv at b6
  have o0_0 : A.off 0 0 1 = 0 := by subst hA; rfl
  cbv at o0_0
  have o0_1 : A.off 0 1 1 = 1 := by subst hA; rfl
  cbv at o0_1
  have o0_2 : A.off 0 2 1 = 2 := by subst hA; rfl
  cbv at o0_2
  have o0_3 : A.off 0 3 1 = 3 := by subst hA; rfl
  cbv at o0_3
  have o0_4 : A.off 0 4 1 = 4 := by subst hA; rfl
  cbv at o0_4
  have o0_5 : A.off 0 5 1 = 5 := by subst hA; rfl
  cbv at o0_5
  have o0_6 : A.off 0 6 1 = 6 := by subst hA; rfl
  cbv at o0_6
  refine unrollL (T := fun _ => tabY [5003, 42, 47, 52, 57, 68, 71, 108] [19]) (H := fun _ => [kn_atF GFsL, kn_roomyA GFsM, kn_join2 GFsA, kn_rightA GFsA, kn_rightAR GFsA, kn_most GFsO, kn_mostR GFsO2, kn_join GFsJ, kn_covers GFsA, kn_reach GFsA, kn_list GFsI, kn_listR GFsI2, kn_sameI GFsQ, kn_intactA GFsM, kn_runs GFsR]) (tabY_ok _ _) hH follows_mixed hA hX 8 fun R hR => ?_
  repeat' first
    | (simp only [l0, l1, l2, l3, l4, l5, l6, l7, b0, b1, b2, b3, b4, b5, b6, o0_0, o0_1, o0_2, o0_3, o0_4, o0_5, o0_6, decide_true]; cbv)
    | (refine part (fun h => ?_) (fun h => ?_) <;> try cbv)
    | (refine And.intro ?_ ?_)
    | (refine hR _ _ _ ?_; cbv)
  rotate_right 1
  · have hcv : ∃ cv, coversD ⟨d_d0, d_d1, d_d2, d_d3, d_d4, d_d5, d_d6⟩ ⟨f_d0, f_d1, f_d2, f_d3, f_d4, f_d5, f_d6⟩ = cv := ⟨_, rfl⟩
    obtain ⟨cv, hcv⟩ := hcv
    refine pauseL hX (s' := [(0, .d (.slc 8 ys)), (5, .ref 0 0 0), (6, .ref 1 0 0), (7, .ref 2 0 0), (8, .d (.sc (.bool false))), (9, .d (.slc 8 full)), (10, .d (.slc 8 ys)), (11, .ref 3 0 0), (13, .d (.sc (.bool cv)))]) (st' := [⟨23, [.d (.sc (.int .i64 d_d0)), .d (.sc (.int .i64 d_d1)), .d (.sc (.int .i64 d_d2)), .d (.sc (.int .i64 d_d3)), .d (.sc (.int .i64 d_d4)), .d (.sc (.int .i64 d_d5)), .d (.sc (.int .i64 d_d6))], false, 0, true⟩, ⟨23, [.d (.sc (.int .i64 f_d0)), .d (.sc (.int .i64 f_d1)), .d (.sc (.int .i64 f_d2)), .d (.sc (.int .i64 f_d3)), .d (.sc (.int .i64 f_d4)), .d (.sc (.int .i64 f_d5)), .d (.sc (.int .i64 f_d6))], false, 0, true⟩, ⟨34, [.d (.sc (.int .i64 i_replica)), .d (.sc (.int .i64 i_slot))], false, 0, true⟩, ⟨25, [.d (.sc (.int .i64 w.seq)), .d (.sc (.int .i64 w.d0)), .d (.sc (.int .i64 w.d1)), .d (.sc (.int .i64 w.d2)), .d (.sc (.int .i64 w.d3)), .d (.sc (.int .i64 w.d4)), .d (.sc (.int .i64 w.d5)), .d (.sc (.int .i64 w.d6))], false, 0, true⟩]) (told_less ?_) ?_
    · subst hA
      simp only [toldP, getS]
      refine ⟨.inl rfl, .inl rfl, .inl rfl, .inl rfl, .inl rfl, .inl rfl, .inl rfl, .inl rfl, .inl ?_, trivial⟩
      rw [← hcv]
      simp only [A0]
      simp only [List.getElem?_cons_zero, List.getElem?_cons_succ]
      unfold coversD
      generalize decide (f_d0 ≤ d_d0) = c0
      generalize decide (f_d1 ≤ d_d1) = c1
      generalize decide (f_d2 ≤ d_d2) = c2
      generalize decide (f_d3 ≤ d_d3) = c3
      generalize decide (f_d4 ≤ d_d4) = c4
      generalize decide (f_d5 ≤ d_d5) = c5
      generalize decide (f_d6 ≤ d_d6) = c6
      cases c0 <;> cases c1 <;> cases c2 <;> cases c3 <;> cases c4 <;> cases c5 <;> cases c6 <;> rfl
    with_reducible refine goL (T := fun _ => tabY [5003, 42, 47, 52, 57, 68, 71, 108] [21, 22]) (H := fun _ => [kn_atF GFsL, kn_roomyA GFsM, kn_join2 GFsA, kn_rightA GFsA, kn_rightAR GFsA, kn_most GFsO, kn_mostR GFsO2, kn_join GFsJ, kn_covers GFsA, kn_reach GFsA, kn_list GFsI, kn_listR GFsI2, kn_sameI GFsQ, kn_intactA GFsM, kn_runs GFsR]) (tabY_ok _ _) hH follows_mixed hA hX ?_
    cbv
    obtain ⟨⟨⟨qs, q0, q1, q2, q3, q4, q5, q6⟩, qn⟩, hq⟩ : ∃ q, GFsO.most ys = q := ⟨_, rfl⟩
    have hqr : GFsO2.mostR ys = (⟨qs, q0, q1, q2, q3, q4, q5, q6⟩, qn) := by rw [← hq]; subst hGFsO hGFsO2; rfl
    cbv at hq hqr
    simp only [hq, hqr]
    refine And.intro (by subst hGFsO; exact hys) (And.intro (by subst hGFsO2; exact hys) ?_)
    obtain ⟨rv, hrv⟩ : ∃ rv, reachD ⟨d_d0, d_d1, d_d2, d_d3, d_d4, d_d5, d_d6⟩ ⟨i_replica, i_slot⟩ = rv := ⟨_, rfl⟩
    with_reducible refine goL (T := fun _ => tabY [108] [22]) (H := fun _ => [kn_atF GFsL, kn_roomyA GFsM, kn_join2 GFsA, kn_rightA GFsA, kn_rightAR GFsA, kn_most GFsO, kn_mostR GFsO2, kn_join GFsJ, kn_covers GFsA, kn_reach GFsA, kn_list GFsI, kn_listR GFsI2, kn_sameI GFsQ, kn_intactA GFsM, kn_runs GFsR]) (tabY_ok _ _) hH follows_mixed hA hX ?_
    cbv
    repeat' first
      | (refine And.intro ?_ ?_)
    rotate_right 1
    · refine pauseL hX (s' := [(0, .d (.slc 8 ys)), (5, .ref 0 0 0), (6, .ref 1 0 0), (7, .ref 2 0 0), (8, .d (.sc (.bool false))), (9, .d (.slc 8 full)), (10, .d (.slc 8 ys)), (11, .ref 3 0 0), (13, .d (.sc (.bool cv))), (15, .ref 4 0 0), (16, .d (.sc (.int .i64 qn))), (17, .ref 5 0 0), (18, .d (.sc (.int .i64 qn))), (19, .d (.sc (.bool rv)))]) (st' := [⟨23, [.d (.sc (.int .i64 d_d0)), .d (.sc (.int .i64 d_d1)), .d (.sc (.int .i64 d_d2)), .d (.sc (.int .i64 d_d3)), .d (.sc (.int .i64 d_d4)), .d (.sc (.int .i64 d_d5)), .d (.sc (.int .i64 d_d6))], false, 0, true⟩, ⟨23, [.d (.sc (.int .i64 f_d0)), .d (.sc (.int .i64 f_d1)), .d (.sc (.int .i64 f_d2)), .d (.sc (.int .i64 f_d3)), .d (.sc (.int .i64 f_d4)), .d (.sc (.int .i64 f_d5)), .d (.sc (.int .i64 f_d6))], false, 0, true⟩, ⟨34, [.d (.sc (.int .i64 i_replica)), .d (.sc (.int .i64 i_slot))], false, 0, true⟩, ⟨25, [.d (.sc (.int .i64 w.seq)), .d (.sc (.int .i64 w.d0)), .d (.sc (.int .i64 w.d1)), .d (.sc (.int .i64 w.d2)), .d (.sc (.int .i64 w.d3)), .d (.sc (.int .i64 w.d4)), .d (.sc (.int .i64 w.d5)), .d (.sc (.int .i64 w.d6))], false, 0, true⟩, ⟨25, [.d (.sc (.int .i64 qs)), .d (.sc (.int .i64 q0)), .d (.sc (.int .i64 q1)), .d (.sc (.int .i64 q2)), .d (.sc (.int .i64 q3)), .d (.sc (.int .i64 q4)), .d (.sc (.int .i64 q5)), .d (.sc (.int .i64 q6))], false, 0, true⟩, ⟨25, [.d (.sc (.int .i64 qs)), .d (.sc (.int .i64 q0)), .d (.sc (.int .i64 q1)), .d (.sc (.int .i64 q2)), .d (.sc (.int .i64 q3)), .d (.sc (.int .i64 q4)), .d (.sc (.int .i64 q5)), .d (.sc (.int .i64 q6))], false, 0, true⟩]) (told_less ?_) ?_
      · subst hA
        simp only [toldP, getS]
        refine ⟨.inl rfl, .inl rfl, .inl rfl, .inl rfl, .inl rfl, .inl rfl, .inl rfl, .inl rfl, .inl rfl, .inl rfl, .inl rfl, .inl rfl, .inl rfl, .inl ?_, trivial⟩
        rw [← hrv]
        simp only [A0]
        by_cases hr : rightI ⟨i_replica, i_slot⟩ = true
        · have hk := rightI_rep hr
          simp only at hk
          unfold reachD
          simp only [hr]
          simp only [rightI, Bool.and_eq_true, decide_eq_true_eq] at hr
          rcases hk with rfl | rfl | rfl | rfl | rfl | rfl | rfl <;> first | (simp [hr, Deps.at]; done) | (simp [hr, Deps.at]; rfl)
        · unfold reachD
          simp only [hr]
          have hr2 := right_bif ⟨i_replica, i_slot⟩
          rw [Bool.eq_false_iff.2 hr] at hr2
          refine congrArg (fun b => DV.d (PD.sc (Value.bool b))) ?_
          change (false && _) = cond (bif (bif (bif decide (0 ≤ i_replica) then decide (i_replica < 7) else false) then decide (1 ≤ i_slot) else false) then decide (i_slot ≤ 1073741824) else false) _ _
          rw [show (bif (bif (bif decide (0 ≤ i_replica) then decide (i_replica < 7) else false) then decide (1 ≤ i_slot) else false) then decide (i_slot ≤ 1073741824) else false) = false from hr2]
          rfl
      with_reducible refine goL (T := fun _ => tabY [] []) (H := fun _ => [kn_atF GFsL, kn_roomyA GFsM, kn_join2 GFsA, kn_rightA GFsA, kn_rightAR GFsA, kn_most GFsO, kn_mostR GFsO2, kn_join GFsJ, kn_covers GFsA, kn_reach GFsA, kn_list GFsI, kn_listR GFsI2, kn_sameI GFsQ, kn_intactA GFsM, kn_runs GFsR]) (tabY_ok _ _) hH follows_mixed hA hX ?_
      cbv
      repeat' first
        | (refine And.intro ?_ ?_)
      all_goals clear hH hq hqr
      all_goals subst hA hX hW hGFsL hGFsM hGFsA hGFsO hGFsO2 hGFsJ hGFsI hGFsI2 hGFsQ hGFsR
      all_goals try simp only [A0, nc, FsL0, FsM0, FsA0, FsO0, FsO20, FsJ0, FsI0, FsI20, FsQ0, FsR0]
      all_goals have hjw : joinX ys = w := by rw [hwl]; unfold joinX; rw [hl, attrsOf_X]
      all_goals have hsI : sameI (instsX (listD ⟨d_d0, d_d1, d_d2, d_d3, d_d4, d_d5, d_d6⟩ ⟨f_d0, f_d1, f_d2, f_d3, f_d4, f_d5, f_d6⟩)) (instsX (listD ⟨d_d0, d_d1, d_d2, d_d3, d_d4, d_d5, d_d6⟩ ⟨f_d0, f_d1, f_d2, f_d3, f_d4, f_d5, f_d6⟩)) = true := by simp [sameI]
      all_goals first
        | exact regT_of (by kernel_rfl)
        | (simp only [hjw, hcv, hrv, hsI, decide_true, Bool.and_self, Bool.and_true, cond_true, beq_self_eq_true, forall_const]; done)
        | (try simp only [hjw, hcv, hrv, hsI, decide_true, Bool.and_self, Bool.and_true, cond_true, beq_self_eq_true, forall_const]
           first
             | assumption
             | exact hp1
             | exact hp2
             | exact list_isIn _ _
             | exact ⟨[], rfl⟩
             | trivial
             | exact ⟨l, hl, hll, hlr⟩
             | (refine ret_v ?_ rfl; rfl)
             | (show full = roomG ys _
                rw [hful2]
                replace hm2 : atX 9 [] = (⟨ms, m0, m1, m2, m3, m4, m5, m6⟩ : Attr) := hm2
                rw [hm2]))
    all_goals clear hH
    all_goals clear hm hm2 hfull hful2 eo ec hp0 hp1 hp2 hx
    all_goals subst hA
    all_goals try simp only [A0]
    all_goals first
      | (show Region.lexB _ _ = true; kernel_rfl)
      | (intros; first | trivial | assumption | (simp; done) | (simp_all; done))
      | (intro hg
         have hr : rightI ⟨i_replica, i_slot⟩ = true := by rw [← right_bif]; exact beq_iff_eq.1 hg
         have hk := rightI_rep hr
         simp only at hk
         simp only [and7 hk]
         rcases hk with rfl | rfl | rfl | rfl | rfl | rfl | rfl <;> first | exact ⟨by decide, by decide⟩ | rfl | (simp; done))
      | skip
  all_goals clear hm hm2 hfull hful2 eo ec hp0 hp1 hp2 hx
  all_goals subst hA
  all_goals try simp only [A0]
  all_goals first
    | (show Region.lexB _ _ = true; kernel_rfl)
    | (intros; first | trivial | assumption | (simp; done) | (simp_all; done))
    | (intro hg
       have hr : rightI ⟨i_replica, i_slot⟩ = true := by rw [← right_bif]; exact beq_iff_eq.1 hg
       have hk := rightI_rep hr
       simp only at hk
       simp only [and7 hk]
       rcases hk with rfl | rfl | rfl | rfl | rfl | rfl | rfl <;> first | exact ⟨by decide, by decide⟩ | rfl | (simp; done))
    | skip
end Go.Proofs.Ytikodmddomaneaa
