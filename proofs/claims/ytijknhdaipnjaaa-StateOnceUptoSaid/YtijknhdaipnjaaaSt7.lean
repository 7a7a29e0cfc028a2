/- Chapter 13's runs. No condition. -/
import Derived.Test.YtijknhdaipnjaaaStZ
import Derived.Test.YtijknhdaipnjaaaRegF
import Derived.Test.YtijknhdaipnjaaaUp13
namespace Go.Proofs.Ytijknhdaipnjaaa
open Go.RowKit
set_option linter.all false
set_option maxHeartbeats 4000000

abbrev Z49 : List DV := .d (.sc (.slice none 0 0)) :: Z48
theorem z49 : isSt Z49 := isSt.ofN zOwn
def cmdsR : List Cmd := [ofC 2 1 1 { data := #[97] } none8 { data := #[49] }, ofC 2 1 1 { data := #[97] } none8 { data := #[49] }, ofC 1 2 1 { data := #[97] } none8 none8, ofC 2 1 0 { data := #[98] } none8 none8, ofC 4 1 2 { data := #[97] } { data := #[49] } { data := #[50] }, ofC 4 1 3 { data := #[97] } { data := #[49] } { data := #[51] }, ofC 3 1 4 { data := #[97] } none8 none8, ofC 2 1 2 { data := #[97] } none8 { data := #[57] }]
theorem rrow {xs : List (List PD)} {rs : List Reply} (hxs : xs = repsX rs) {i : Int} (h0 : 0 ≤ i) (h1 : i < rs.length) : xs.getD i.toNat [] = (rs[i.toNat]'(by omega)).row := by
  subst hxs
  have : i.toNat < rs.length := by omega
  simp [repsX, List.getD_eq_getElem?_getD, this]
def repsR : List Reply := [⟨0, false, none8, 1, []⟩, ⟨0, false, none8, 1, []⟩, ⟨0, true, { data := #[49] }, 1, []⟩, ⟨1, false, none8, 0, []⟩, ⟨0, true, { data := #[49] }, 2, []⟩, ⟨0, false, { data := #[50] }, 2, []⟩, ⟨0, true, none8, 2, []⟩, ⟨9, false, none8, 0, []⟩]
set_option maxRecDepth 100000 in
theorem play_r : (playL (upS Z49) cmdsR []).2 = repsR := by kernel_rfl
theorem play_x : (playX Z49 (cmdsX cmdsR)).2 = repsX repsR := by
  unfold playX
  rw [cmdsOf_X, play_r]

structure FsS7 where
  runs : Bool
def FsS70 : FsS7 where
  runs := true
set_option maxRecDepth 100000 in
theorem v_runs : FnV Try.prog 3 [] (boolD true) := by
  obtain ⟨GFsS6, hGFsS6⟩ : ∃ F, F = FsS60 := ⟨_, rfl⟩
  obtain ⟨GFsOw, hGFsOw⟩ : ∃ F, F = FsOw0 := ⟨_, rfl⟩
  have hH : SoundK Try.prog [kn_of GFsS6, kn_play GFsS6, kn_replies GFsOw] := by subst hGFsS6 hGFsOw; exact orK_ok ok_of (orK_ok ok_play (orK_ok ok_replies noK_ok))
  refine FnD_cbv (T := fun _ => tabY [1017, 5004, 41, 45] [1, 2]) (H := fun _ => [kn_of GFsS6, kn_play GFsS6, kn_replies GFsOw]) (tabY_ok _ _) hH follows_mixed Try.func3 rfl Try.ntmps3 (by simp) fun A X W hA hX hW => ?_
  cbv
  have e0 : GFsS6.of 2 1 1 { data := #[97] } none8 { data := #[49] } = ⟨2, 1, 1, { data := #[97] }, none8, none8, { data := #[49] }⟩ := by subst hGFsS6; rfl
  cbv at e0
  have e1 : GFsS6.of 1 2 1 { data := #[97] } none8 none8 = ⟨1, 2, 1, { data := #[97] }, none8, none8, none8⟩ := by subst hGFsS6; rfl
  cbv at e1
  have e2 : GFsS6.of 2 1 0 { data := #[98] } none8 none8 = ⟨2, 1, 0, { data := #[98] }, none8, none8, none8⟩ := by subst hGFsS6; rfl
  cbv at e2
  have e3 : GFsS6.of 4 1 2 { data := #[97] } { data := #[49] } { data := #[50] } = ⟨4, 1, 2, { data := #[97] }, none8, { data := #[49] }, { data := #[50] }⟩ := by subst hGFsS6; rfl
  cbv at e3
  have e4 : GFsS6.of 4 1 3 { data := #[97] } { data := #[49] } { data := #[51] } = ⟨4, 1, 3, { data := #[97] }, none8, { data := #[49] }, { data := #[51] }⟩ := by subst hGFsS6; rfl
  cbv at e4
  have e5 : GFsS6.of 3 1 4 { data := #[97] } none8 none8 = ⟨3, 1, 4, { data := #[97] }, none8, none8, none8⟩ := by subst hGFsS6; rfl
  cbv at e5
  have e6 : GFsS6.of 2 1 2 { data := #[97] } none8 { data := #[57] } = ⟨2, 1, 2, { data := #[97] }, none8, none8, { data := #[57] }⟩ := by subst hGFsS6; rfl
  cbv at e6
  obtain ⟨sv, hsv⟩ : ∃ sv, sv = (playX Z49 (cmdsX cmdsR)).1 := ⟨_, rfl⟩
  obtain ⟨rr, hrr⟩ : ∃ rr : List (List PD), rr = [[.sc (.int .i64 0), .sc (.bool false), .sc (.string none8), .sc (.int .i64 1), .slc 3 []], [.sc (.int .i64 0), .sc (.bool false), .sc (.string none8), .sc (.int .i64 1), .slc 3 []], [.sc (.int .i64 0), .sc (.bool true), .sc (.string { data := #[49] }), .sc (.int .i64 1), .slc 3 []], [.sc (.int .i64 1), .sc (.bool false), .sc (.string none8), .sc (.int .i64 0), .slc 3 []], [.sc (.int .i64 0), .sc (.bool true), .sc (.string { data := #[49] }), .sc (.int .i64 2), .slc 3 []], [.sc (.int .i64 0), .sc (.bool false), .sc (.string { data := #[50] }), .sc (.int .i64 2), .slc 3 []], [.sc (.int .i64 0), .sc (.bool true), .sc (.string none8), .sc (.int .i64 2), .slc 3 []], [.sc (.int .i64 9), .sc (.bool false), .sc (.string none8), .sc (.int .i64 0), .slc 3 []]] := ⟨_, rfl⟩
  have ep : GFsS6.play Z49 [[.sc (.int .i64 2), .sc (.int .i64 1), .sc (.int .i64 1), .sc (.string { data := #[97] }), .sc (.string none8), .sc (.string none8), .sc (.string { data := #[49] })], [.sc (.int .i64 2), .sc (.int .i64 1), .sc (.int .i64 1), .sc (.string { data := #[97] }), .sc (.string none8), .sc (.string none8), .sc (.string { data := #[49] })], [.sc (.int .i64 1), .sc (.int .i64 2), .sc (.int .i64 1), .sc (.string { data := #[97] }), .sc (.string none8), .sc (.string none8), .sc (.string none8)], [.sc (.int .i64 2), .sc (.int .i64 1), .sc (.int .i64 0), .sc (.string { data := #[98] }), .sc (.string none8), .sc (.string none8), .sc (.string none8)], [.sc (.int .i64 4), .sc (.int .i64 1), .sc (.int .i64 2), .sc (.string { data := #[97] }), .sc (.string none8), .sc (.string { data := #[49] }), .sc (.string { data := #[50] })], [.sc (.int .i64 4), .sc (.int .i64 1), .sc (.int .i64 3), .sc (.string { data := #[97] }), .sc (.string none8), .sc (.string { data := #[49] }), .sc (.string { data := #[51] })], [.sc (.int .i64 3), .sc (.int .i64 1), .sc (.int .i64 4), .sc (.string { data := #[97] }), .sc (.string none8), .sc (.string none8), .sc (.string none8)], [.sc (.int .i64 2), .sc (.int .i64 1), .sc (.int .i64 2), .sc (.string { data := #[97] }), .sc (.string none8), .sc (.string none8), .sc (.string { data := #[57] })]] = (sv, rr) := by
    subst hGFsS6
    rw [hsv, hrr]
    exact Prod.ext rfl play_x
  cbv at ep
  (with_reducible refine regionF (T := fun _ => tabY [1017, 5004, 41, 45] [1,2]) (H := fun _ => [kn_of GFsS6, kn_play GFsS6, kn_replies GFsOw]) (tabY_ok _ _) hH hA hX ?_) <;> cbv
  simp only [e0, e1, e2, e3, e4, e5, e6, ep]
  refine ⟨by subst hGFsS6; exact z49, by subst hGFsS6; exact ⟨cmdsR, rfl, by decide⟩, by subst hA; rfl, by subst hA; rfl, by subst hA; show sv.length = 49 * 1; rw [hsv]; exact (z49.play _).len, ?_⟩
  (with_reducible refine regionF (T := fun _ => tabY [1017, 5004, 41, 45] [1,2]) (H := fun _ => [kn_of GFsS6, kn_play GFsS6, kn_replies GFsOw]) (tabY_ok _ _) hH hA hX ?_) <;> cbv
  have m1 : A.len rr = 8 := by subst hA; subst hrr; rfl
  have m2 : A.len [[.sc (.int .i64 0), .sc (.bool false), .sc (.string none8), .sc (.int .i64 1), .sc (.slice none 0 0)], [.sc (.int .i64 0), .sc (.bool false), .sc (.string none8), .sc (.int .i64 1), .sc (.slice none 0 0)], [.sc (.int .i64 0), .sc (.bool true), .sc (.string { data := #[49] }), .sc (.int .i64 1), .sc (.slice none 0 0)], [.sc (.int .i64 1), .sc (.bool false), .sc (.string none8), .sc (.int .i64 0), .sc (.slice none 0 0)], [.sc (.int .i64 0), .sc (.bool true), .sc (.string { data := #[49] }), .sc (.int .i64 2), .sc (.slice none 0 0)], [.sc (.int .i64 0), .sc (.bool false), .sc (.string { data := #[50] }), .sc (.int .i64 2), .sc (.slice none 0 0)], [.sc (.int .i64 0), .sc (.bool true), .sc (.string none8), .sc (.int .i64 2), .sc (.slice none 0 0)], [.sc (.int .i64 9), .sc (.bool false), .sc (.string none8), .sc (.int .i64 0), .sc (.slice none 0 0)]] = 8 := by subst hA; rfl
  have m3 : A.cmp .neq 8 8 = false := by subst hA; rfl
  cbv at m1
  cbv at m2
  cbv at m3
  simp only [m1, m2, m3]
  cbv
  refine pauseL hX (s' := [(2, .d (.slc 5 rr)), (3, .d (.slc 5 rr)), (4, .d (.sc (.int .i64 0)))]) (st' := [⟨30, sv, false, 0, true⟩]) (told_rows ⟨.inl rfl, .inr ⟨5, [[.sc (.int .i64 0), .sc (.bool false), .sc (.string none8), .sc (.int .i64 1), .sc (.slice none 0 0)], [.sc (.int .i64 0), .sc (.bool false), .sc (.string none8), .sc (.int .i64 1), .sc (.slice none 0 0)], [.sc (.int .i64 0), .sc (.bool true), .sc (.string { data := #[49] }), .sc (.int .i64 1), .sc (.slice none 0 0)], [.sc (.int .i64 1), .sc (.bool false), .sc (.string none8), .sc (.int .i64 0), .sc (.slice none 0 0)], [.sc (.int .i64 0), .sc (.bool true), .sc (.string { data := #[49] }), .sc (.int .i64 2), .sc (.slice none 0 0)], [.sc (.int .i64 0), .sc (.bool false), .sc (.string { data := #[50] }), .sc (.int .i64 2), .sc (.slice none 0 0)], [.sc (.int .i64 0), .sc (.bool true), .sc (.string none8), .sc (.int .i64 2), .sc (.slice none 0 0)], [.sc (.int .i64 9), .sc (.bool false), .sc (.string none8), .sc (.int .i64 0), .sc (.slice none 0 0)]], rfl, by rw [hrr]; rfl⟩, .inl rfl, trivial⟩) ?_
  have hrx : rr = repsX repsR := hrr
  clear hrr
  refine loopL (T := fun _ => tabY [1017, 5004, 41, 45] []) (H := fun _ => [kn_of GFsS6, kn_play GFsS6, kn_replies GFsOw]) (tabY_ok _ _) hH follows_mixed hA hX (fun i : Int => 0 ≤ i ∧ i ≤ 8)
    (fun i => [(2, .d (.slc 5 rr)), (3, .d (.slc 5 rr)), (4, .d (.sc (.int .i64 i)))]) (fun _ => [⟨30, sv, false, 0, true⟩])
    (fun i => 8 - i.toNat) 0 ?_ ?_ ?_
  · exact ⟨by omega, by omega⟩
  · exact told_less ⟨.inl rfl, .inl rfl, .inl rfl, trivial⟩
  rintro R i hR ⟨i0, i1⟩
  cbv
  simp only [m1]
  repeat' first
    | (refine part (fun h => ?_) (fun h => ?_) <;> try cbv)
    | (refine And.intro ?_ ?_)
  all_goals subst hA hX hW hR hGFsS6 hGFsOw
  all_goals try clear hH
  all_goals replace i0 : 0 ≤ i := i0
  all_goals replace i1 : i ≤ 8 := i1
  all_goals first
    | exact rfl
    | (show Region.lexB _ _ = true; kernel_rfl)
    | exact ret_v rfl rfl
    | (have h8 : i < 8 := by
         have h2 := ‹A0.cmp .lss i 8 = true›
         simpa [A0] using h2
       have hlt : i < repsR.length := h8
       have hrow := rrow hrx i0 hlt
       have hip : ∀ r ∈ repsR, isP r.pairs := by
         intro r hr
         have e : ∀ r ∈ repsR, r.pairs = [] := by decide
         rw [e r hr]
         exact isP.nil
       have hpi := hip _ (List.getElem_mem (show i.toNat < repsR.length by omega))
       generalize repsR[i.toNat]'(by omega) = r at hrow hpi
       have hl8 : (rr.length : Int) = 8 := by rw [hrx]; rfl
       have ei : IntKind.wrap .i64 (i + 1) = i + 1 := wrap_i64 (by unfold r64; omega)
       simp only [A0, nc, FsOw0, hrow, Reply.row, List.map_cons, List.map_nil, Nat.zero_add, List.getElem?_cons_zero, List.getElem?_cons_succ, List.drop_zero, List.take_succ_cons, List.take_zero, List.length_cons, List.length_nil] at *
       first
         | (refine ⟨by omega, by omega⟩)
         | exact hpi
         | (simp; done)
         | (refine ⟨i + 1, ⟨by omega, by omega⟩, by omega, told_less ?_⟩
            simp [toldP, getS, ei]
            done)
         | (exfalso
            have h2 := ‹(!repliesX _ _) = true›
            rw [repliesX_true rfl] at h2
            exact absurd h2 (by decide)))
    | fail
def kn_runs (F : FsS7) : FuncId × (List DV → RV) := (3, fun args => match args with
  | [] => some ([], boolD F.runs)
  | _ => none)
theorem ok_runs (args : List DV) (cs : List Prop) (r : DV) (h : (kn_runs FsS70).2 args = some (cs, r)) (hc : allP cs True) : FnV Try.prog 3 args r ∧ closedL 0 args = true := by
  unfold kn_runs at h
  simp only at h
  split at h
  · cases h; exact ⟨v_runs, rfl⟩
  · cases h
end Go.Proofs.Ytijknhdaipnjaaa
