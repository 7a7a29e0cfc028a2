/- An image, read out of a row of one's own: image.Get. No condition. -/
import Derived.Test.YtghkcmgiagodlaaGC
namespace Go.Proofs.Ytghkcmgiagodlaa
open Go.RowKit
set_option linter.all false
set_option maxHeartbeats 4000000
/-- Slots, read. -/
def dpsR (xs : List (List PD)) : Deps × Int × Int :=
  let q0 := numR xs 0 0
  let q1 := numR xs q0.2.1 q0.2.2
  let q2 := numR xs q1.2.1 q1.2.2
  let q3 := numR xs q2.2.1 q2.2.2
  let q4 := numR xs q3.2.1 q3.2.2
  let q5 := numR xs q4.2.1 q4.2.2
  let q6 := numR xs q5.2.1 q5.2.2
  (⟨q0.1, q1.1, q2.1, q3.1, q4.1, q5.1, q6.1⟩, q6.2)
def zeroDp : Deps := ⟨0, 0, 0, 0, 0, 0, 0⟩
/-- What stands behind a right sum, read. -/
noncomputable def igetB (zs : List (List PD)) : Deps × List DV × Int :=
  let q := dpsR zs
  if q.2.2 = 0 then (if rightDs q.1 = true then (let g := getSt (zs.drop q.2.1.toNat); if g.2 = 0 then (q.1, g.1, 0) else (zeroDp, zeroSt, g.2)) else (zeroDp, zeroSt, 4)) else (zeroDp, zeroSt, q.2.2)
/-- An image, read. -/
noncomputable def igetX (ys : List (List PD)) : Deps × List DV × Int :=
  if ys.length < 4 then (zeroDp, zeroSt, 3) else
    if getW4 ys (ys.length - 4) = ofX (ys.take (ys.length - 4)) then igetB (ys.take (ys.length - 4)) else (zeroDp, zeroSt, 6)
def Deps.cells (d : Deps) : List DV := [.d (.sc (.int .i64 d.d0)), .d (.sc (.int .i64 d.d1)), .d (.sc (.int .i64 d.d2)), .d (.sc (.int .i64 d.d3)), .d (.sc (.int .i64 d.d4)), .d (.sc (.int .i64 d.d5)), .d (.sc (.int .i64 d.d6))]
set_option maxRecDepth 1000000 in
theorem w_iget (rx ys : List (List PD)) (rc : List DV) (v n : Nat) (hrx : isB8 rx) (hrc : rc = rowsD rx) (hon : n ≤ rx.length) (hys : ys = rx.take n) : FnD Try.prog 11 [.view 1 0 v 0 n] [⟨5, rc, true, v, true⟩] (fun r st' => r = .tup [.agg (igetX ys).1.cells, .agg (igetX ys).2.1, .d (.sc (.int .i64 (igetX ys).2.2))] ∧ st' = [⟨5, rc, true, v, true⟩]) := by
  have hyl : ys.length = n := by rw [hys, List.length_take]; omega
  have hyB : isB8 ys := isB8_cut (o := 0) hrx (by rw [List.drop_zero]; exact hys)
  have hrcl : closedL 0 rc = true := by rw [hrc]; exact rows_closed rx
  have hrl : rx.length ≤ 8000000 := by obtain ⟨bs, rfl, hb⟩ := hrx; rw [bytesP_length]; exact hb
  have hrsz : ∀ x ∈ rx, x.length = 1 := by obtain ⟨bs, rfl, hb⟩ := hrx; exact bytesP_sz bs
  obtain ⟨N, hN⟩ : ∃ N : Int, N = (n : Int) - 4 := ⟨_, rfl⟩
  obtain ⟨GFsIa, hFsIa⟩ : ∃ F, F = FsIa0 := ⟨_, rfl⟩
  obtain ⟨GFsRr, hFsRr⟩ : ∃ F, F = FsRr0 := ⟨_, rfl⟩
  have hH : SoundK Try.prog [kn_imgR GFsIa] := by subst hFsIa hFsRr; exact orK_ok ok_imgR noK_ok
  have hB : SoundB Try.prog [kb_pNum GFsRr, kb_pwrong GFsRr, kb_pat GFsRr] := by subst hFsIa hFsRr; exact orB_ok okb_pNum (orB_ok okb_pwrong (orB_ok okb_pat noB_ok))
  refine FnD_cbv (T := fun _ => tabY [1003, 1012, 1020, 1035, 1053, 1059, 1067, 1072, 1075, 5003, 5004] [14]) (H := fun _ => [kn_imgR GFsIa]) (tabY_ok _ _) hH follows_mixed Try.func11 rfl Try.ntmps11 (by simp) fun A X W hA hX hW => ?_
  cbv
  have l0 : A.cmp .lss 0 7 = true := by subst hA; rfl
  cbv at l0
  have l1 : A.cmp .lss 1 7 = true := by subst hA; rfl
  cbv at l1
  have l2 : A.cmp .lss 2 7 = true := by subst hA; rfl
  cbv at l2
  have l3 : A.cmp .lss 3 7 = true := by subst hA; rfl
  cbv at l3
  have l4 : A.cmp .lss 4 7 = true := by subst hA; rfl
  cbv at l4
  have l5 : A.cmp .lss 5 7 = true := by subst hA; rfl
  cbv at l5
  have l6 : A.cmp .lss 6 7 = true := by subst hA; rfl
  cbv at l6
  have l7 : A.cmp .lss 7 7 = false := by subst hA; rfl
  cbv at l7
  have b0 : A.bin .add .i64 0 1 = 1 := by subst hA; rfl
  cbv at b0
  have b1 : A.bin .add .i64 1 1 = 2 := by subst hA; rfl
  cbv at b1
  have b2 : A.bin .add .i64 2 1 = 3 := by subst hA; rfl
  cbv at b2
  have b3 : A.bin .add .i64 3 1 = 4 := by subst hA; rfl
  cbv at b3
  have b4 : A.bin .add .i64 4 1 = 5 := by subst hA; rfl
  cbv at b4
  have b5 : A.bin .add .i64 5 1 = 6 := by subst hA; rfl
  cbv at b5
  have b6 : A.bin .add .i64 6 1 = 7 := by subst hA; rfl
  cbv at b6
  have o0_0 : A.off 0 0 1 = 0 := by subst hA; rfl
  cbv at o0_0
  have o0_1 : A.off 0 1 1 = 1 := by subst hA; rfl
  cbv at o0_1
  have o0_2 : A.off 0 2 1 = 2 := by subst hA; rfl
  cbv at o0_2
  have o0_3 : A.off 0 3 1 = 3 := by subst hA; rfl
  cbv at o0_3
  have o0_4 : A.off 0 4 1 = 4 := by subst hA; rfl
  cbv at o0_4
  have o0_5 : A.off 0 5 1 = 5 := by subst hA; rfl
  cbv at o0_5
  have o0_6 : A.off 0 6 1 = 6 := by subst hA; rfl
  cbv at o0_6
  try simp only [nc] at hN
  have eN : A.bin .sub .i64 (A.int n) 4 = N := by subst hA; show IntKind.wrap .i64 ((n : Int) - 4) = N; rw [wrap_i64 (by unfold r64; omega), hN]
  cbv at eN
  try simp only [nc] at *
  by_cases h4 : n < 4
  · have f1 : A.cmp .lss N 0 = true := by subst hA; simp only [A0, decide_eq_true_eq]; omega
    cbv at f1
    repeat' first
      | (simp only [eN, f1]; cbv)
      | (refine And.intro ?_ ?_)
      | (refine part (fun h2 => ?_) (fun h2 => ?_) <;> try cbv)
    all_goals subst hX hW hA
    all_goals first
      | exact rfl
      | (show List.length _ = _; rfl)
      | (have hm0 : igetX ys = (zeroDp, zeroSt, 3) := by unfold igetX; rw [if_pos (by omega)]
         have hup0 : UpL (DV.d (.sc (.slice none 0 0)) :: Z48) zeroSt := by
           have e : upCs (DV.d (.sc (.slice none 0 0)) :: Z48) = zeroSt := rfl
           rw [← e]
           exact upL_upCs _
         have hkr : pullL [0] rc = rc := pullL_closed _ _ hrcl
         rw [hm0]
         refine ret_upk (κ := [0]) rfl ⟨_, rfl, UpL.keep (UpL.agg hup0 (UpL.keep UpL.done))⟩ rfl ⟨rfl, ?_⟩
         show [(⟨_, pullL [0] rc, true, v, true⟩ : Box)] = _
         rw [hkr]
         rfl)
      | fail
  · obtain ⟨M, hM⟩ : ∃ M : Nat, M = n - 4 := ⟨_, rfl⟩
    obtain ⟨zs, hzs⟩ : ∃ zs, zs = rx.take M := ⟨_, rfl⟩
    obtain ⟨c0, hc0⟩ : ∃ c0, c0 = getW4 ys N := ⟨_, rfl⟩
    obtain ⟨s0, hs0⟩ : ∃ s0, s0 = ofX zs := ⟨_, rfl⟩
    have hMN : N = (M : Int) := by omega
    have hb1 : (0 : Int) ≤ N := by omega
    have hb2 : N ≤ (n : Int) := by omega
    have hzB : isB8 zs := isB8_cut (o := 0) hrx (by rw [List.drop_zero]; exact hzs)
    have hwg : FnV Try.prog 39 [.d (.slc 1 ys), .d (.sc (.int .i64 N)), .d (.sc (.int .i64 4))] (.tup [.d (.sc (.int .u64 c0)), .d (.sc (.int .i64 0))]) := by
      rw [hc0]
      exact v_wget ys N hyB (by omega) (by omega)
    have hsof : FnV Try.prog 38 [.d (.slc 1 zs)] (.d (.sc (.int .u32 s0))) := by rw [hs0]; exact v_sof zs hzB
    have f1 : A.cmp .lss N 0 = false := by subst hA; simp only [A0, decide_eq_false_iff_not]; omega
    have f2 : A.nat N = M := by subst hA; show N.toNat = M; omega
    cbv at f1
    cbv at f2
    have r0 := rd0 hzB
    obtain ⟨⟨m0, a1, u1⟩, j0⟩ : ∃ q, numR zs 0 0 = q := ⟨_, rfl⟩
    have r1 := num_rd r0
    rw [j0] at r1
    have e0 : GFsRr.num zs 0 0 = (m0, a1, u1) := by subst hFsRr; exact j0
    obtain ⟨⟨m1, a2, u2⟩, j1⟩ : ∃ q, numR zs a1 u1 = q := ⟨_, rfl⟩
    have r2 := num_rd r1.1
    rw [j1] at r2
    have e1 : GFsRr.num zs a1 u1 = (m1, a2, u2) := by subst hFsRr; exact j1
    obtain ⟨⟨m2, a3, u3⟩, j2⟩ : ∃ q, numR zs a2 u2 = q := ⟨_, rfl⟩
    have r3 := num_rd r2.1
    rw [j2] at r3
    have e2 : GFsRr.num zs a2 u2 = (m2, a3, u3) := by subst hFsRr; exact j2
    obtain ⟨⟨m3, a4, u4⟩, j3⟩ : ∃ q, numR zs a3 u3 = q := ⟨_, rfl⟩
    have r4 := num_rd r3.1
    rw [j3] at r4
    have e3 : GFsRr.num zs a3 u3 = (m3, a4, u4) := by subst hFsRr; exact j3
    obtain ⟨⟨m4, a5, u5⟩, j4⟩ : ∃ q, numR zs a4 u4 = q := ⟨_, rfl⟩
    have r5 := num_rd r4.1
    rw [j4] at r5
    have e4 : GFsRr.num zs a4 u4 = (m4, a5, u5) := by subst hFsRr; exact j4
    obtain ⟨⟨m5, a6, u6⟩, j5⟩ : ∃ q, numR zs a5 u5 = q := ⟨_, rfl⟩
    have r6 := num_rd r5.1
    rw [j5] at r6
    have e5 : GFsRr.num zs a5 u5 = (m5, a6, u6) := by subst hFsRr; exact j5
    obtain ⟨⟨m6, a7, u7⟩, j6⟩ : ∃ q, numR zs a6 u6 = q := ⟨_, rfl⟩
    have r7 := num_rd r6.1
    rw [j6] at r7
    have e6 : GFsRr.num zs a6 u6 = (m6, a7, u7) := by subst hFsRr; exact j6
    obtain ⟨na, hna⟩ : ∃ na : Nat, a7 = (na : Int) := ⟨a7.toNat, by have := r7.1.2.1; simp only at this; omega⟩
    have hzl : zs.length = M := by rw [hzs, List.length_take]; omega
    have hnaM : na ≤ M := by have := r7.1.2.2.1; simp only at this; omega
    obtain ⟨us, hus⟩ : ∃ us, us = (rx.drop na).take (M - na) := ⟨_, rfl⟩
    have husz : us = zs.drop na := by rw [hus, hzs, List.drop_take]
    have huB : isB8 us := isB8_cut hrx hus
    obtain ⟨⟨sg, eg⟩, hsg⟩ : ∃ q, getSt us = q := ⟨_, rfl⟩
    have hsgS : isSt sg := by
      obtain ⟨ub, hub, hubl⟩ := id huB
      have := (getSt_is hubl).1
      rw [← hub, hsg] at this
      exact this
    have hsgl := hsgS.len
    have hsgc : closedD 0 (.tup [.agg sg, .d (.sc (.int .i64 eg))]) = true := by
      show (closedL 0 sg && true) = true
      rw [hsgS.closed]
      rfl
    have hgv : ∀ q m : Nat, q = 0 + na * 1 → m = M - na → FnD Try.prog 32 [.view 1 0 v q m] [⟨5, rc, true, v, true⟩] (fun r st' => r = .tup [.agg sg, .d (.sc (.int .i64 eg))] ∧ st' = [⟨5, rc, true, v, true⟩]) := fun q m hq hm => by
      have hq2 : q = na := by omega
      subst hq2
      have := w_getS rx us rc v q m hrx hrc (by omega) (by rw [hm]; exact hus)
      rw [hsg] at this
      exact this
    have hgs0 : na = M → FnV Try.prog 32 [.d (.slc 1 [])] (.tup [.agg sg, .d (.sc (.int .i64 eg))]) := fun h => by
      have h0 : us = [] := by rw [hus, h, Nat.sub_self, List.take_zero]
      rw [h0] at hsg
      have := v_getS [] ⟨[], rfl, by decide⟩
      rw [hsg] at this
      exact this
    obtain ⟨D, hD⟩ : ∃ D : Deps, D = ⟨m0, m1, m2, m3, m4, m5, m6⟩ := ⟨_, rfl⟩
    have hdp : dpsR zs = (D, a7, u7) := by
      unfold dpsR
      simp only [j0, j1, j2, j3, j4, j5, j6, hD]
    have hmod : igetX ys = (if c0 = s0 then (if u7 = 0 then (if rightDs D = true then (if eg = 0 then (D, sg, 0) else (zeroDp, zeroSt, eg)) else (zeroDp, zeroSt, 4)) else (zeroDp, zeroSt, u7)) else (zeroDp, zeroSt, 6)) := by
      have hz2 : ys.take (ys.length - 4) = zs := by rw [hyl, hys, hzs, hM, List.take_take, Nat.min_eq_left (by omega)]
      have hN2 : ((ys.length : Int) - 4) = N := by rw [hyl, hN]
      unfold igetX
      rw [if_neg (by omega), hz2, hN2, ← hc0, ← hs0]
      unfold igetB
      simp only [hdp]
      rw [hna, show ((na : Int)).toNat = na by omega, ← husz, hsg]
    obtain ⟨t1, ht1⟩ : ∃ t1, t1 = !decide (c0 = s0) := ⟨_, rfl⟩
    obtain ⟨t2, ht2⟩ : ∃ t2, t2 = !decide (u7 = 0) := ⟨_, rfl⟩
    obtain ⟨t3, ht3⟩ : ∃ t3, t3 = !rightDs D := ⟨_, rfl⟩
    obtain ⟨t4, ht4⟩ : ∃ t4, t4 = !decide (eg = 0) := ⟨_, rfl⟩
    have hs64 : IntKind.wrap .u64 s0 = s0 := by
      have := onX_range 0 (by decide) zs
      rw [hs0]
      exact wrap_u64 ⟨this.1, Int.lt_trans this.2 (by decide)⟩
    have g1 : A.cmp .neq c0 (A.wrap .u64 s0) = t1 := by subst hA; show (!decide (c0 = IntKind.wrap .u64 s0)) = t1; rw [hs64, ht1]
    have g2 : A.cmp .neq u7 0 = t2 := by subst hA; rw [ht2]; rfl
    have g3 : A.not (GFsIa.imgR ⟨m0, m1, m2, m3, m4, m5, m6⟩) = t3 := by subst hA hFsIa; rw [ht3, hD]; rfl
    have g4 : A.cmp .neq eg 0 = t4 := by subst hA; rw [ht4]; rfl
    have hup0 : UpL (DV.d (.sc (.slice none 0 0)) :: Z48) zeroSt := by
      have e : upCs (DV.d (.sc (.slice none 0 0)) :: Z48) = zeroSt := rfl
      rw [← e]
      exact upL_upCs _
    have hkr : pullL [0] rc = rc := pullL_closed _ _ hrcl
    have hzero : ∀ (e : Int) (bs : Store), RetW 1 (fun r st' => r = .tup [.agg zeroDp.cells, .agg zeroSt, .d (.sc (.int .i64 e))] ∧ st' = [⟨5, rc, true, v, true⟩]) (.tup [.agg zeroDp.cells, .agg (DV.d (.sc (.slice none 0 0)) :: Z48), .d (.sc (.int .i64 e))]) (⟨5, rc, true, v, true⟩ :: bs) := fun e bs => by
      refine ret_upk (κ := [0]) (by simp [keepB]) ⟨_, rfl, UpL.keep (UpL.agg hup0 (UpL.keep UpL.done))⟩ rfl ⟨rfl, ?_⟩
      show [(⟨_, pullL [0] rc, true, v, true⟩ : Box)] = _
      rw [hkr]
      rfl
    have hgood : ∀ (bs : Store), RetW 1 (fun r st' => r = .tup [.agg D.cells, .agg sg, .d (.sc (.int .i64 0))] ∧ st' = [⟨5, rc, true, v, true⟩]) (.tup [.agg D.cells, .agg sg, .d (.sc (.int .i64 0))]) (⟨5, rc, true, v, true⟩ :: bs) := fun bs => by
      refine ret_keep [0] (by simp [keepB]) ⟨?_, ?_⟩
      · show DV.tup [.agg D.cells, .agg (pullL [0] sg), _] = _
        rw [pullL_closed _ _ hsgS.closed]
        rfl
      · show [(⟨_, pullL [0] rc, true, v, true⟩ : Box)] = _
        rw [hkr]
        rfl
    cbv at g1
    cbv at g2
    cbv at g3
    cbv at g4
    cbv at e0
    cbv at e1
    cbv at e2
    cbv at e3
    cbv at e4
    cbv at e5
    cbv at e6
    repeat' first
      | (simp only [eN, f1, f2, g1]; cbv)
      | (refine callL hX (FnV.ro (o := 0) (n := n) (ys := ys) 0 1 ⟨5, rc, true, v, true⟩ rfl rfl hrc hrsz 0 rfl (by omega) (by rw [List.drop_zero]; exact hys) hwg rfl rfl ?_); cbv)
      | (refine And.intro ?_ ?_)
      | (refine callL hX (FnV.ro (o := 0) (n := M) (ys := zs) 0 1 ⟨5, rc, true, v, true⟩ rfl rfl hrc hrsz 0 rfl (by omega) (by rw [List.drop_zero]; exact hzs) hsof rfl rfl ?_); cbv)
      | (refine callL hX (FnD.rowNew 0 (w_readV rx zs rc v 0 M hrx hrc (by omega) (by rw [List.drop_zero]; exact hzs)) rfl rfl hrcl rfl ?_); cbv)
      | (refine part (fun h2 => ?_) (fun h2 => ?_) <;> try cbv)
    rotate_right 1
    · refine unrollL (T := fun _ => tabY [1003, 1012, 1020, 1035, 1053, 1059, 1067, 1072, 1075, 5003, 5004] [14]) (H := fun _ => [kn_imgR GFsIa]) (tabY_ok _ _) hH follows_mixed hA hX 8 fun R hR => ?_
      cbv
      repeat' first
        | (simp only [l0, l1, l2, l3, l4, l5, l6, l7, b0, b1, b2, b3, b4, b5, b6, o0_0, o0_1, o0_2, o0_3, o0_4, o0_5, o0_6, e0, e1, e2, e3, e4, e5, e6, decide_true]; cbv)
        | (refine And.intro ?_ ?_)
        | ((with_reducible refine callB hX hB ?_) <;> cbv)
        | (refine hR _ _ _ ?_; cbv)
      rotate_right 1
      · refine pauseL hX (s' := [(0, .view 1 0 v 0 n), (2, .ref 1 0 0), (3, .ref 2 0 0), (5, .d (.sc (.int .i64 N))), (8, .ref 3 0 0), (9, .ref 4 0 0)]) (told_less ⟨.inl rfl, .inl rfl, .inl rfl, .inl rfl, .inl rfl, .inl rfl, trivial⟩) ?_
        (with_reducible refine goL (c := .region 14 _ _) (T := fun _ => tabY [1003, 1012, 1020, 1035, 1053, 1059, 1067, 1072, 1075, 5003, 5004] []) (H := fun _ => [kn_imgR GFsIa]) (tabY_ok _ _) hH follows_mixed hA hX ?_) <;> cbv
        repeat' first
          | (simp only [g2, g3, g4]; cbv)
          | (refine And.intro ?_ ?_)
          | (refine callL hX (FnD.rowKeep 0 (hgv q m hq hm) rfl rfl hsgc hrcl ?_); cbv)
          | (refine callL hX (FnV.use (hgs0 hz2) rfl ?_); cbv)
          | ((with_reducible refine callB hX hB ?_) <;> cbv)
          | (refine part (fun h3 => ?_) (fun h3 => ?_) <;> try cbv)
          | (refine sliceL hX tab_ok na M ⟨5, rc, true, v, true⟩ rfl rfl rfl rfl rfl hna hMN ⟨hnaM, by omega⟩ (fun hz1 hz2 => ?_) (fun hz1 q m hq hm => ?_) <;> cbv)
        all_goals subst hX hW
        all_goals first
          | (subst hA; show Region.lexB _ _ = true; kernel_rfl)
          | (subst hA; show turnsB _ = true; kernel_rfl)
          | exact r7.1
          | (subst hA hFsRr; exact r7.1)
          | (subst hA; exact ⟨Int.le_refl 0, hb1, hb2⟩)
          | (subst hA; exact rfl)
          | (subst hA; exact hsgl)
          | (subst hA; show List.length _ = _; simp [hsgl]; done)
          | (subst hA; exact ⟨rfl, Nat.le_of_ble_eq_true rfl, rfl⟩)
          | (subst hA; simp [A0, hsgl]; done)
          | (have y2 : t2 = true := by assumption
             rw [hmod, if_pos (by simpa [ht1] using ‹t1 = false›), if_neg (by simpa [ht2] using y2)]
             exact hzero u7 _)
          | (have y2 : t2 = false := by assumption
             have y3 : t3 = true := by assumption
             rw [hmod, if_pos (by simpa [ht1] using ‹t1 = false›), if_pos (by simpa [ht2] using y2), if_neg (by simpa [ht3] using y3)]
             exact hzero 4 _)
          | (have y2 : t2 = false := by assumption
             have y3 : t3 = false := by assumption
             have y4 : t4 = true := by assumption
             rw [hmod, if_pos (by simpa [ht1] using ‹t1 = false›), if_pos (by simpa [ht2] using y2), if_pos (by simpa [ht3] using y3), if_neg (by simpa [ht4] using y4)]
             exact hzero eg _)
          | (have y2 : t2 = false := by assumption
             have y3 : t3 = false := by assumption
             have y4 : t4 = false := by assumption
             rw [hmod, if_pos (by simpa [ht1] using ‹t1 = false›), if_pos (by simpa [ht2] using y2), if_pos (by simpa [ht3] using y3), if_pos (by simpa [ht4] using y4), hD]
             rw [hD] at hgood
             exact hgood _)
          | fail
      all_goals subst hX hW hA hFsRr
      all_goals first
        | exact rfl
        | exact r0
        | exact r1.1
        | exact r2.1
        | exact r3.1
        | exact r4.1
        | exact r5.1
        | exact r6.1
        | exact r7.1
        | exact ⟨by decide, by decide⟩
        | exact ⟨rfl, Nat.le_of_ble_eq_true rfl, rfl⟩
        | fail
    all_goals subst hX hW hA
    all_goals first
      | exact rfl
      | exact ⟨Int.le_refl 0, hb1, hb2⟩
      | (show List.length _ = _; rfl)
      | (rw [hmod, if_neg (by simpa [ht1] using ‹t1 = true›)]
         exact hzero 6 _)
      | fail
end Go.Proofs.Ytghkcmgiagodlaa
