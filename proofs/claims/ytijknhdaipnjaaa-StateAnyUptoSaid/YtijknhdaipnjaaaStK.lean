/- The law StateAny's walk. No condition but sizes. -/
import Derived.Test.YtijknhdaipnjaaaZA13
import Derived.Test.YtijknhdaipnjaaaZB13
namespace Go.Proofs.Ytijknhdaipnjaaa
open Go.RowKit
set_option linter.all false
set_option maxHeartbeats 4000000
theorem take1 {l : List DV} {n : Nat} {a : DV} (h : l[n]? = some a) : (l.drop n).take 1 = [a] := by
  obtain ⟨hn, e⟩ := List.getElem?_eq_some_iff.1 h
  rw [List.drop_eq_getElem_cons hn, e]
  rfl
theorem cutL2 {α : Sort _} {X : Cps} {c : Code} {Q : Exit → SL → Store → Prop} {G : Prop} (I : α → Prop) (S : α → SL) (ST : α → Store) (pf : ∀ y, I y → X.st c Q (S y) (ST y)) (g : (∀ y, I y → X.st c Q (S y) (ST y)) → G) : G := g pf
theorem okOs : ∀ {os : List Owner}, rightOs os = true → ∀ o ∈ os, okO o = true := by
  intro os
  induction os with
  | nil => intro _ o h; cases h
  | cons q os ih =>
    intro h o ho
    simp only [rightOs, Bool.and_eq_true] at h
    rcases List.mem_cons.1 ho with e | e
    · subst e; exact h.1
    · exact ih h.2 o e
/-- A right state: its pairs and owners. -/
theorem rightSt_parts {s : List DV} (h : isSt s) (hr : rightSt s = true) : rightX (prsS s) = true ∧ ∃ os, os.length = 8 ∧ ownS s = ownsD os ∧ ownersOf (ownS s) = os ∧ rightOs os = true ∧ ∀ o ∈ os, isP o.reply.pairs := by
  obtain ⟨os, hos, hcs, hop⟩ := h.own
  have hof := ownersOf_D hos hcs
  unfold rightSt stateX at hr
  rw [hof] at hr
  simp only [Bool.and_eq_true] at hr
  exact ⟨hr.2, os, hos, hcs, hof, hr.1, hop⟩
theorem bytesSt_isLn {s : List DV} (h : isSt s) (hv : okV s) : isLn 40000 (bytesSt s) := by
  unfold bytesSt
  cases hr : rightSt s with
  | false => exact isLn.nil.mono (by omega)
  | true =>
    obtain ⟨hrx, os, hos, hcs, hof, hro, hop⟩ := rightSt_parts h hr
    have hw := hv.2
    rw [hof] at hw
    rw [cond_true, hof]
    have hbl : isLn 4000 (prX [] (prsS s)) := (isLn.nil.prs (right_isPs h.prs hrx hv.1)).mono (by omega)
    exact (hbl.ows fun o ho => okO_bo (okOs hro o ho) (hop o ho) (hw o ho).1 (hw o ho).2).mono (by omega)
theorem sameB_refl (b : List (List PD)) : sameB b b = true := by simp [sameB]
theorem rv64_take {xs : List (List PD)} (hp : isP xs) (h : rv64 xs) (k : Nat) : rv64 (xs.take k) := by
  obtain ⟨ps, rfl, hl⟩ := hp
  have e : (pairsX ps).take k = pairsX (ps.take k) := by simp [pairsX]
  unfold rv64 at *
  rw [e, pairsOf_X]
  rw [pairsOf_X] at h
  exact fun p hp => h p (List.mem_of_mem_take hp)

set_option maxRecDepth 100000 in
theorem v_anyL (xs : List (List PD)) (cs : List DV) (c : Cmd) (hp0 : isP xs) (hp1 : isOwn cs) (hv : rv64 xs) (hw : ∀ o ∈ ownersOf cs, r64 o.reply.version ∧ rv64 o.reply.pairs) : FnV Try.prog 8 [.agg (.d (.slc 3 xs) :: cs), Cmd.D c] (boolD true) := by
  have hcl := hp1.len
  have h9 := isOwn.closed hp1
  have hp1' := hp1
  have hxl := hp0.len
  obtain ⟨os, hos, hcs, hop⟩ := hp1'
  have hof := ownersOf_D hos hcs
  obtain ⟨c_kind, c_client, c_seq, c_key, c_fin, c_old, c_val⟩ := c
  obtain ⟨GFsS4, hGFsS4⟩ : ∃ F, F = FsS40 := ⟨_, rfl⟩
  obtain ⟨GFsC2, hGFsC2⟩ : ∃ F, F = FsC20 := ⟨_, rfl⟩
  obtain ⟨GFsS5, hGFsS5⟩ : ∃ F, F = FsS50 := ⟨_, rfl⟩
  obtain ⟨GFsSD, hGFsSD⟩ : ∃ F, F = FsSD0 := ⟨_, rfl⟩
  obtain ⟨GFsSE, hGFsSE⟩ : ∃ F, F = FsSE0 := ⟨_, rfl⟩
  obtain ⟨GFsOw, hGFsOw⟩ : ∃ F, F = FsOw0 := ⟨_, rfl⟩
  obtain ⟨GFsPq, hGFsPq⟩ : ∃ F, F = FsPq0 := ⟨_, rfl⟩
  obtain ⟨GFsPu, hGFsPu⟩ : ∃ F, F = FsPu0 := ⟨_, rfl⟩
  obtain ⟨GFsS7, hGFsS7⟩ : ∃ F, F = FsS70 := ⟨_, rfl⟩
  have hH : SoundK Try.prog [kn_rightSt GFsS4, kn_rightR2 GFsC2, kn_apply GFsS5, kn_applyR GFsSD, kn_statesR GFsSE, kn_replies GFsOw, kn_sameB GFsPq, kn_stPut GFsPu, kn_stPutR GFsPu, kn_runs GFsS7] := by subst hGFsS4 hGFsC2 hGFsS5 hGFsSD hGFsSE hGFsOw hGFsPq hGFsPu hGFsS7; exact orK_ok ok_rightSt (orK_ok ok_rightR2 (orK_ok ok_apply (orK_ok ok_applyR (orK_ok ok_statesR (orK_ok ok_replies (orK_ok ok_sameB (orK_ok ok_stPut (orK_ok ok_stPutR (orK_ok ok_runs noK_ok)))))))))
  refine FnD_cbv (T := fun _ => tabY [0, 1002, 1003, 1006, 1008, 1050, 1056, 17, 26, 5004] [3]) (H := fun _ => [kn_rightSt GFsS4, kn_rightR2 GFsC2, kn_apply GFsS5, kn_applyR GFsSD, kn_statesR GFsSE, kn_replies GFsOw, kn_sameB GFsPq, kn_stPut GFsPu, kn_stPutR GFsPu, kn_runs GFsS7]) (tabY_ok _ _) hH follows_mixed Try.func8 rfl Try.ntmps8 (by simp) fun A X W hA hX hW => ?_
  cbv
  apply cutL2 (fun ys : List (List PD) => isP ys ∧ rv64 ys) (fun ys => [(2, .ref 0 0 0), (3, .ref 1 0 0)]) (fun ys => [⟨30, .d (.slc 3 ys) :: cs, false, 0, true⟩, ⟨35, [.d (.sc (.int .i64 c_kind)), .d (.sc (.int .i64 c_client)), .d (.sc (.int .i64 c_seq)), .d (.sc (.string c_key)), .d (.sc (.string c_fin)), .d (.sc (.string c_old)), .d (.sc (.string c_val))], false, 0, true⟩])
  rotate_left
  · intro key
    have hq0 := hp0.take 40
    have hq1 := rv64_take hp0 hv 40
    refine And.intro ?_ ?_
    · subst hA
      show List.length _ ≤ 1000000
      rw [List.length_cons, hcl]
      decide
    refine part (fun h => ?_) (fun h => ?_) <;> cbv
    · repeat' (refine And.intro ?_ ?_)
      rotate_right
      · refine pauseL hX (s' := _) (st' := _) ?_ (key (xs.take 40) ⟨hq0, hq1⟩)
        subst hA
        exact told_less ⟨.inl rfl, .inl rfl, trivial⟩
      · subst hA
        simp only [A0, nc, decide_eq_true_eq] at *
        replace h : (40 : Int) < xs.length := h
        show (0 : Int) ≤ 0 ∧ (0 : Int) ≤ 40 ∧ (40 : Int) ≤ xs.length
        omega
      · subst hA; exact rfl
      · subst hA; show 0 + 1 ≤ List.length _; rw [List.length_cons, hcl]; decide
    · refine pauseL hX (s' := _) (st' := _) ?_ (key xs ⟨hp0, hv⟩)
      exact told_less ⟨.inl rfl, .inl rfl, trivial⟩
  rintro ys ⟨hys, hvy⟩
  with_reducible refine goL (T := fun _ => tabY [0, 1002, 1003, 1006, 1008, 1050, 1056, 17, 26, 5004] []) (H := fun _ => [kn_rightSt GFsS4, kn_rightR2 GFsC2, kn_apply GFsS5, kn_applyR GFsSD, kn_statesR GFsSE, kn_replies GFsOw, kn_sameB GFsPq, kn_stPut GFsPu, kn_stPutR GFsPu, kn_runs GFsS7]) (tabY_ok _ _) hH follows_mixed hA hX ?_
  cbv
  refine loopL (T := fun _ => tabY [0, 1002, 1003, 1006, 1008, 1050, 1056, 17, 26, 5004] []) (H := fun _ => [kn_rightSt GFsS4, kn_rightR2 GFsC2, kn_apply GFsS5, kn_applyR GFsSD, kn_statesR GFsSE, kn_replies GFsOw, kn_sameB GFsPq, kn_stPut GFsPu, kn_stPutR GFsPu, kn_runs GFsS7]) (tabY_ok _ _) hH follows_mixed hA hX (fun i : Int => 0 ≤ i ∧ i ≤ 8)
    (fun i => [(2, .ref 0 0 0), (3, .ref 1 0 0), (5, .d (.sc (.int .i64 i)))]) (fun _ => [⟨30, .d (.slc 3 ys) :: cs, false, 0, true⟩, ⟨35, [.d (.sc (.int .i64 c_kind)), .d (.sc (.int .i64 c_client)), .d (.sc (.int .i64 c_seq)), .d (.sc (.string c_key)), .d (.sc (.string c_fin)), .d (.sc (.string c_old)), .d (.sc (.string c_val))], false, 0, true⟩])
    (fun i => 8 - i.toNat) 0 ?_ ?_ ?_
  · exact ⟨by omega, by omega⟩
  · exact told_less ⟨.inl rfl, .inl rfl, .inl rfl, trivial⟩
  rintro R i hR ⟨i0, i1⟩
  cbv
  replace i0 : 0 ≤ i := i0
  replace i1 : i ≤ 8 := i1
  replace hos : os.length = 8 := hos
  replace hcs : cs = ownsD os := hcs
  refine part (fun h2 => ?_) (fun h2 => ?_) <;> try cbv
  · have hi : i < 8 := by
      subst hA
      simp only [A0, decide_eq_true_eq] at h2
      exact h2
    have hin : i.toNat < os.length := by omega
    obtain ⟨g0, g1, g2, g3, g4, g5, r2, r3, r4, r5, qs1, gt, qt1, gl⟩ := st_cell (.d (.slc 3 ys)) hcs i.toNat hin
    generalize os[i.toNat]'hin = o at g0 g1 g2 g3 g4 g5 r2 r3 r4 r5 qs1 gt qt1
    have wi : IntKind.wrap .i64 (i + 1) = i + 1 := wrap_i64 (by unfold r64; omega)
    repeat' first
      | (refine part (fun h3 => ?_) (fun h3 => ?_) <;> try cbv)
      | (refine And.intro ?_ ?_)
    all_goals subst hA hX hW hR hGFsS7
    all_goals first
      | exact rfl
      | exact ⟨i0, hi⟩
      | exact ret_v rfl rfl
      | (simp only [A0, g5]; exact ⟨rfl, gl, take1 g5⟩)
      | (refine ⟨i + 1, ⟨by omega, by omega⟩, by omega, told_less ?_⟩
         simp [toldP, getS, A0, wi]
         done)
      | skip
    all_goals first
      | (exfalso
         have h9 : A0.not (A0.beq q q) = true := by assumption
         simp [A0] at h9
         done)
      | (refine ret_v (congrArg boolD ?_) rfl
         have h10 : A0.not q = true := by assumption
         simp only [A0, Bool.not_eq_true'] at h10
         rw [h10] at hq
         have hb0 : b = [] := by rw [← hb]; unfold bytesSt; rw [hq]; rfl
         subst hb0
         simp [A0, FsS70]
         done)
      | skip
    all_goals first
      | (show _ → A0.full _ 49 1
         intro _
         show List.length _ = 49 * 1
         rw [List.length_cons, hcl])
      | (show _ → isB b
         intro _
         exact hbi)
      | (refine ret_v (congrArg boolD ?_) rfl
         show A0.cond (A0.cond (A0.cond (sameSt t t) (repliesX ⟨r1, r2, r3, r4, r5⟩ ⟨r1, r2, r3, r4, r5⟩) false) (sameB b b) false) true false = true
         rw [sameSt_refl, sameB_refl, repliesX_true rfl]
         rfl)
  · have hst := isSt.mk hys hp1
    obtain ⟨q, hq⟩ : ∃ q, rightSt (.d (.slc 3 ys) :: cs) = q := ⟨_, rfl⟩
    have hup : upS (.d (.slc 3 ys) :: cs) = .d (.slc 3 ys) :: cs := st_up hp1
    have hpr : prsS (.d (.slc 3 ys) :: cs) = ys := by unfold prsS; rw [show upCs (.d (.slc 3 ys) :: cs) = .d (.slc 3 ys) :: cs from hup]; rfl
    have how : ownS (.d (.slc 3 ys) :: cs) = cs := by unfold ownS; rw [show upCs (.d (.slc 3 ys) :: cs) = .d (.slc 3 ys) :: cs from hup]; rfl
    have hokv : okV (.d (.slc 3 ys) :: cs) := by unfold okV; rw [hpr, how]; exact ⟨hvy, hw⟩
    obtain ⟨b, hb⟩ : ∃ b, bytesSt (.d (.slc 3 ys) :: cs) = b := ⟨_, rfl⟩
    have hbi : isB b := by
      rw [← hb]
      obtain ⟨bs, h1, h2⟩ := bytesSt_isLn hst hokv
      exact ⟨bs, h1, by omega⟩
    have hsa := hst.apply ⟨c_kind, c_client, c_seq, c_key, c_fin, c_old, c_val⟩
    have hra := hst.rep ⟨c_kind, c_client, c_seq, c_key, c_fin, c_old, c_val⟩
    obtain ⟨t, ht⟩ : ∃ t, applyS (.d (.slc 3 ys) :: cs) ⟨c_kind, c_client, c_seq, c_key, c_fin, c_old, c_val⟩ = t := ⟨_, rfl⟩
    rw [ht] at hsa hra
    obtain ⟨t, r1, r2, r3, r4, r5⟩ := t
    have e1 : GFsS4.rightSt (.d (.slc 3 ys) :: cs) = q := by subst hGFsS4; exact hq
    have e2 : GFsC2.rightR2 (.d (.slc 3 ys) :: cs) = q := by subst hGFsC2; exact hq
    have e3 : GFsS5.apply (.d (.slc 3 ys) :: cs) ⟨c_kind, c_client, c_seq, c_key, c_fin, c_old, c_val⟩ = (t, ⟨r1, r2, r3, r4, r5⟩) := by subst hGFsS5; exact ht
    have e4 : GFsSD.applyR (.d (.slc 3 ys) :: cs) ⟨c_kind, c_client, c_seq, c_key, c_fin, c_old, c_val⟩ = (t, ⟨r1, r2, r3, r4, r5⟩) := by subst hGFsSD; exact ht
    have e7 : GFsPu.stPut (.d (.slc 3 ys) :: cs) = b := by subst hGFsPu; exact hb
    have e8 : GFsPu.stPutR (.d (.slc 3 ys) :: cs) = b := by subst hGFsPu; exact hb
    cbv at e1
    cbv at e2
    cbv at e3
    cbv at e4
    cbv at e7
    cbv at e8
    simp only [e1, e2, e3, e4, e7, e8]
    repeat' first
      | (refine part (fun h3 => ?_) (fun h3 => ?_) <;> try cbv)
      | (simp only [e1, e2, e3, e4, e7, e8])
      | (refine And.intro ?_ ?_)
    all_goals subst hA hX hW hGFsS4 hGFsC2 hGFsS5 hGFsSD hGFsSE hGFsOw hGFsPq hGFsPu hGFsS7
    all_goals clear hH
    all_goals first
      | exact rfl
      | exact hst
      | exact hokv
      | exact hsa
      | exact hra
      | (show Region.lexB _ _ = true; kernel_rfl)
      | (show turnsB _ = true; kernel_rfl)
      | (show List.length _ = 49 * 1; rw [List.length_cons, hcl])
      | (show List.length _ = 49 * 1; exact hsa.len)
      | (intro hq; exact hq)
      | (intro hq; simpa [A0] using hq)
      | (intro _; first | exact trivial | exact rfl | exact hst | exact hokv | exact hra | exact hsa)
      | skip
    all_goals first
      | (exfalso
         have h9 : A0.not (A0.beq q q) = true := by assumption
         simp [A0] at h9
         done)
      | (refine ret_v (congrArg boolD ?_) rfl
         have h10 : A0.not q = true := by assumption
         simp only [A0, Bool.not_eq_true'] at h10
         rw [h10] at hq
         have hb0 : b = [] := by rw [← hb]; unfold bytesSt; rw [hq]; rfl
         subst hb0
         simp [A0, FsS70]
         done)
      | skip
    all_goals first
      | (show _ → A0.full _ 49 1
         intro _
         show List.length _ = 49 * 1
         rw [List.length_cons, hcl])
      | (show _ → isB b
         intro _
         exact hbi)
      | (refine ret_v (congrArg boolD ?_) rfl
         show A0.cond (A0.cond (A0.cond (sameSt t t) (repliesX ⟨r1, r2, r3, r4, r5⟩ ⟨r1, r2, r3, r4, r5⟩) false) (sameB b b) false) true false = true
         rw [sameSt_refl, sameB_refl, repliesX_true rfl]
         rfl)

end Go.Proofs.Ytijknhdaipnjaaa
