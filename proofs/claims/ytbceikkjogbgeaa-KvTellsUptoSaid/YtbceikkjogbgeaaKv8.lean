/- Chapter 11's runs. No condition. -/
import Derived.Test.YtbceikkjogbgeaaKv7
import Derived.Test.YtbceikkjogbgeaaRegF
namespace Go.Proofs.Ytbceikkjogbgeaa
open Go.RowKit
set_option linter.all false
theorem isP.put {xs : List (List PD)} (h : isP xs) (key value : ByteArray) : isP (putX xs key value).1 := by
  have hr := findX_range xs key
  unfold putX
  split
  · exact h.set _ _
  · split
    · exact isP.nil
    · exact h.ins (by omega) _ _
theorem isP.delX {xs : List (List PD)} (h : isP xs) (key : ByteArray) : isP (delX xs key).1 := by
  unfold Proofs.Ytbceikkjogbgeaa.delX
  split
  · exact h.del _
  · exact h
theorem letter {i : Int} (h0 : 0 ≤ i) (h1 : i < 10) : A0.isby [[.sc (.int .u8 (IntKind.wrap .u8 (IntKind.wrap .i64 (97 + i))))]] ∧ A0.bstr [[.sc (.int .u8 (IntKind.wrap .u8 (IntKind.wrap .i64 (97 + i))))]] = { data := #[UInt8.ofNat (97 + i.toNat)] } := by
  obtain ⟨k, rfl⟩ : ∃ k : Nat, i = k := ⟨i.toNat, by omega⟩
  have hk : k < 10 := by omega
  have e1 : IntKind.wrap .i64 (97 + (k : Int)) = 97 + k := wrap_i64 (by unfold r64; omega)
  have e2 : IntKind.wrap .u8 (97 + (k : Int)) = ((UInt8.ofNat (97 + k)).toNat : Int) := by
    rcases k with _ | _ | _ | _ | _ | _ | _ | _ | _ | _ | k
    all_goals first
      | rfl
      | omega
  have e3 : [[PD.sc (.int .u8 (IntKind.wrap .u8 (IntKind.wrap .i64 (97 + (k : Int)))))]] = bytesP [UInt8.ofNat (97 + k)] := by rw [e1, e2]; rfl
  rw [e3]
  refine ⟨⟨_, rfl⟩, ?_⟩
  simp only [A0, Int.toNat_natCast]
  rw [bytesOf_bytesP]
def run1 := putX [] { data := #[98] } { data := #[49] }
def run2 := putX run1.1 { data := #[97] } { data := #[50] }
def run3 := putX run2.1 { data := #[98] } { data := #[51] }
def run4 := delX run3.1 { data := #[97] }
def run5 := getP run4.1 { data := #[97] }
theorem run_1 : run1.2 = 0 := by kernel_rfl
theorem run_2 : run2.2 = 0 := by kernel_rfl
theorem run_3 : run3.2 = 0 := by kernel_rfl
theorem run_4 : run4.2 = true := by kernel_rfl
theorem run_5 : run5.2 = false := by kernel_rfl
/-- The list behind so many letters. -/
def mkL : Nat → List (List PD)
  | 0 => []
  | k + 1 => (putX (mkL k) { data := #[UInt8.ofNat (97 + k)] } none8).1
theorem mkL_p : ∀ k, isP (mkL k)
  | 0 => isP.nil
  | k + 1 => (mkL_p k).put _ _

theorem run_6 : sameX run3.1 (pairsX [⟨{ data := #[97] }, { data := #[50] }, 1⟩, ⟨{ data := #[98] }, { data := #[51] }, 2⟩]) = true := by kernel_rfl
theorem run_7 : (rangeX (mkL 10) ⟨none8, none8⟩).1.length = 8 := by kernel_rfl
theorem run_8 : (rangeX (mkL 10) ⟨none8, none8⟩).2 = true := by kernel_rfl

theorem closedL_l3 (a b : List (List PD)) : closedL 0 [.d (.slc 3 a), .d (.slc 3 b)] = true := rfl

structure FsU where
  runs : Bool
def FsU0 : FsU where
  runs := true
set_option maxRecDepth 100000 in
theorem v_runs : FnV Try.prog 3 [] (boolD true) := by
  obtain ⟨GFsH, hGFsH⟩ : ∃ F, F = FsH0 := ⟨_, rfl⟩
  obtain ⟨GFsDl, hGFsDl⟩ : ∃ F, F = FsDl0 := ⟨_, rfl⟩
  obtain ⟨GFsG, hGFsG⟩ : ∃ F, F = FsG0 := ⟨_, rfl⟩
  obtain ⟨GFsR, hGFsR⟩ : ∃ F, F = FsR0 := ⟨_, rfl⟩
  obtain ⟨GFsS, hGFsS⟩ : ∃ F, F = FsS0 := ⟨_, rfl⟩
  have hH : SoundK Try.prog [kn_put GFsH, kn_del GFsDl, kn_get GFsG, kn_range GFsR, kn_same GFsS] := by subst hGFsH hGFsDl hGFsG hGFsR hGFsS; exact orK_ok ok_put (orK_ok ok_del (orK_ok ok_get (orK_ok ok_range (orK_ok ok_same noK_ok))))
  refine FnD_cbv (T := fun _ => tabY [] []) (H := fun _ => [kn_put GFsH, kn_del GFsDl, kn_get GFsG, kn_range GFsR, kn_same GFsS]) (tabY_ok _ _) hH follows_mixed Try.func3 rfl Try.ntmps3 (by simp) fun A X W hA hX hW => ?_
  cbv
  refine And.intro ?_ (And.intro ?_ (And.intro ?_ (And.intro ?_ (And.intro ?_ ?_))))
  · subst hGFsH; exact isP.nil
  · subst hGFsH; exact isP.nil.put _ _
  · subst hGFsH; exact (isP.nil.put _ _).put _ _
  · subst hGFsH hGFsDl; exact ((isP.nil.put _ _).put _ _).put _ _
  · subst hGFsH hGFsDl hGFsG; exact isP.delX (((isP.nil.put _ _).put _ _).put _ _) _
  obtain ⟨⟨l1, w1⟩, hp1⟩ : ∃ p, p = GFsH.put [] { data := #[98] } { data := #[49] } := ⟨_, rfl⟩
  cbv at hp1
  simp only [← hp1]
  obtain ⟨⟨l2, w2⟩, hp2⟩ : ∃ p, p = GFsH.put l1 { data := #[97] } { data := #[50] } := ⟨_, rfl⟩
  cbv at hp2
  simp only [← hp2]
  obtain ⟨⟨l3, w3⟩, hp3⟩ : ∃ p, p = GFsH.put l2 { data := #[98] } { data := #[51] } := ⟨_, rfl⟩
  cbv at hp3
  simp only [← hp3]
  obtain ⟨⟨l4, w4⟩, hp4⟩ : ∃ p, p = GFsDl.del l3 { data := #[97] } := ⟨_, rfl⟩
  cbv at hp4
  simp only [← hp4]
  obtain ⟨⟨⟨g1, g2, g3⟩, w5⟩, hp5⟩ : ∃ p, p = GFsG.get l4 { data := #[97] } := ⟨_, rfl⟩
  cbv at hp5
  simp only [← hp5]
  refine loopL (T := fun _ => tabY [] [10]) (H := fun _ => [kn_put GFsH, kn_del GFsDl, kn_get GFsG, kn_range GFsR, kn_same GFsS]) (tabY_ok _ _) hH follows_mixed hA hX (fun x : Int × List (List PD) => (0 ≤ x.1 ∧ x.1 ≤ 10) ∧ x.2 = mkL x.1.toNat)
    (fun x => [(1, .d (.slc 3 l3)), (2, intD w1), (3, intD w2), (4, intD w3), (6, boolD w4), (8, boolD w5), (9, .d (.slc 3 x.2)), (10, .d (.sc (.int .i64 x.1)))]) (fun x => [⟨29, [.d (.sc (.string g1)), .d (.sc (.string g2)), .d (.sc (.int .i64 g3))], false, 0, true⟩])
    (fun x => 10 - x.1.toNat) (0, []) ?_ ?_ ?_
  · exact ⟨⟨by decide, by decide⟩, rfl⟩
  · refine told_up ?_
    simp [toldUP, UpD, getS, intD, boolD]
  rintro R ⟨i, xs⟩ hR ⟨hi, hxs⟩
  replace hi : 0 ≤ i ∧ i ≤ 10 := hi
  replace hxs : xs = mkL i.toNat := hxs
  cbv
  refine part (fun h => ?_) (fun h => ?_)
  · cbv
    refine regionF (T := fun _ => tabY [] []) (H := fun _ => [kn_put GFsH, kn_del GFsDl, kn_get GFsG, kn_range GFsR, kn_same GFsS]) (tabY_ok _ _) hH hA hX ?_
    cbv
    subst hA hX hR hGFsH hGFsDl hGFsG hGFsR hGFsS
    have hlt : i < 10 := by simpa [A0] using h
    obtain ⟨q1, q2⟩ := letter hi.1 hlt
    have ei : IntKind.wrap .i64 (i + 1) = i + 1 := wrap_i64 (by unfold r64; omega)
    refine ⟨q1, by show isP xs; rw [hxs]; exact mkL_p _, ?_⟩
    refine ⟨(i + 1, mkL (i + 1).toNat), ⟨⟨by show (0 : Int) ≤ i + 1; omega, by show i + 1 ≤ 10; omega⟩, rfl⟩, by show 10 - (i + 1).toNat < 10 - i.toNat; omega, ?_⟩
    have e9 : (FsH0.put xs (A0.bstr [[PD.sc (Value.int IntKind.u8 (A0.wrap IntKind.u8 (A0.bin BinOp.add IntKind.i64 97 i)))]]) { data := { toList := [] } }).1 = mkL (i + 1).toNat := by
      rw [show A0.bstr [[PD.sc (Value.int IntKind.u8 (A0.wrap IntKind.u8 (A0.bin BinOp.add IntKind.i64 97 i)))]] = _ from q2, hxs, show (i + 1).toNat = i.toNat + 1 by omega]
      rfl
    refine told_less ?_
    exact ⟨.inl rfl, .inl rfl, .inl rfl, .inl rfl, .inl rfl, .inl rfl, .inl (congrArg (fun l => DV.d (.slc 3 l)) e9.symm), .inl (congrArg (fun n => DV.d (.sc (.int .i64 n))) ei.symm), trivial⟩
  · have hi10 : i = 10 := by
      subst hA
      simp only [A0, decide_eq_false_iff_not] at h
      omega
    subst hi10
    have q1 : w1 = 0 := by subst hGFsH; exact (congrArg Prod.snd (show _ = run1 from hp1)).trans run_1
    have q2 : w2 = 0 := by
      subst hGFsH
      obtain ⟨rfl, rfl⟩ := Prod.mk.inj (show (l1, w1) = run1 from hp1)
      exact (congrArg Prod.snd (show _ = run2 from hp2)).trans run_2
    have q3 : w3 = 0 ∧ l3 = run3.1 := by
      subst hGFsH
      obtain ⟨rfl, rfl⟩ := Prod.mk.inj (show (l1, w1) = run1 from hp1)
      obtain ⟨rfl, rfl⟩ := Prod.mk.inj (show (l2, w2) = run2 from hp2)
      exact ⟨(congrArg Prod.snd (show _ = run3 from hp3)).trans run_3, congrArg Prod.fst (show _ = run3 from hp3)⟩
    obtain ⟨q3, q6⟩ := q3
    have q4 : w4 = true ∧ w5 = false := by
      subst hGFsDl hGFsG
      subst q6
      obtain ⟨rfl, rfl⟩ := Prod.mk.inj (show (l4, w4) = run4 from hp4)
      exact ⟨run_4, (congrArg Prod.snd (show _ = run5 from hp5)).trans run_5⟩
    obtain ⟨q4, q5⟩ := q4
    subst q1 q2 q3 q4 q5
    have c1 : A.cmp .eql 0 0 = true := by subst hA; rfl
    cbv at c1
    have c2 : A.cond true true false = true := by subst hA; rfl
    cbv at c2
    cbv
    obtain ⟨⟨l6, w6⟩, hp6⟩ : ∃ p, p = GFsR.range xs ⟨none8, none8⟩ := ⟨_, rfl⟩
    cbv at hp6
    simp only [← hp6, c1]
    refine And.intro (by subst hGFsR; rw [hxs]; exact mkL_p _) ?_
    cbv
    iterate 4 (try (simp only [c1, c2]; cbv))
    have hl3 : isP l3 := by rw [q6]; exact ((isP.nil.put _ _).put _ _).put _ _
    have hsame : FnV Try.prog 13 [.d (.slc 3 l3), .d (.slc 3 (pairsX [⟨{ data := #[97] }, { data := #[50] }, 1⟩, ⟨{ data := #[98] }, { data := #[51] }, 2⟩]))] (boolD true) := by
      have e : sameX l3 (pairsX [⟨{ data := #[97] }, { data := #[50] }, 1⟩, ⟨{ data := #[98] }, { data := #[51] }, 2⟩]) = true := by rw [q6]; exact run_6
      have := v_same l3 (pairsX [⟨{ data := #[97] }, { data := #[50] }, 1⟩, ⟨{ data := #[98] }, { data := #[51] }, 2⟩]) hl3 ⟨_, rfl, by decide⟩
      rwa [e] at this
    have q7 : l6.length = 8 ∧ w6 = true := by
      subst hGFsR
      subst hxs
      obtain ⟨rfl, rfl⟩ := Prod.mk.inj (show (l6, w6) = rangeX (mkL 10) ⟨none8, none8⟩ from hp6)
      exact ⟨run_7, run_8⟩
    refine callL hX (FnV.fz 1 3 (pairsX [⟨{ data := #[97] }, { data := #[50] }, 1⟩, ⟨{ data := #[98] }, { data := #[51] }, 2⟩]) ⟨29, _, false, 0, true⟩ rfl rfl rfl (isP.sz ⟨_, rfl, by decide⟩) hsame rfl (closedL_l3 l3 _) ?_)
    cbv
    have c3 : A.not false = true := by subst hA; rfl
    cbv at c3
    have c4 : A.cmp .eql (A.len l6) 8 = true := by subst hA; simp only [A0, q7.1]; rfl
    cbv at c4
    obtain ⟨q7, q8⟩ := q7
    subst q8
    iterate 6 (try (simp only [c1, c2, c3, c4]; cbv))
    subst hA hX hW
    refine ret_v (r := boolD true) ?_ rfl
    rfl
def kn_runs (F : FsU) : FuncId × (List DV → RV) := (3, fun args => match args with
  | [] => some ([], boolD F.runs)
  | _ => none)
theorem ok_runs (args : List DV) (cs : List Prop) (r : DV) (h : (kn_runs FsU0).2 args = some (cs, r)) (hc : allP cs True) : FnV Try.prog 3 args r ∧ closedL 0 args = true := by
  unfold kn_runs at h
  simp only at h
  split at h
  · cases h; exact ⟨v_runs, rfl⟩
  · cases h
end Go.Proofs.Ytbceikkjogbgeaa
