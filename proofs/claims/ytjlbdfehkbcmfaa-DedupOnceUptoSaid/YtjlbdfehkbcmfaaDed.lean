/- Chapter 12: what the law's own functions give. No condition. -/
import Derived.Test.YtjlbdfehkbcmfaaKv2
import Derived.Test.YtjlbdfehkbcmfaaBook
namespace Go.Proofs.Ytjlbdfehkbcmfaa
open Go.RowKit
set_option linter.all false

theorem isOwnU.len {cs : List DV} (h : isOwnU cs) : cs.length = 48 := by
  obtain ⟨os, h1, h2, _⟩ := h
  have h3 := congrArg List.length h2
  rw [own_length, upCs, List.length_map] at h3
  omega
theorem tk48 {cs : List DV} (h : cs.length = 48) : A0.tk cs 0 1 48 = cs := by
  show (cs.drop 0).take (1 * 48) = cs
  rw [List.drop_zero, List.take_of_length_le (by omega)]
theorem isOwnU.look {cs : List DV} (h : isOwnU cs) (client seq : Int) : isP (lookU cs client seq).2.pairs := by
  obtain ⟨os, hos, hcs, hop⟩ := h
  unfold lookU lookX
  cases hk : knownX client with
  | false => exact isP.nil
  | true =>
    obtain ⟨_, _, _, o, eo, ho, _⟩ := own_at hos hcs hop hk
    rw [eo]
    simp only [cond_true]
    cases decide (o.seq < seq) with
    | true => exact isP.nil
    | false =>
      cases decide (seq = o.seq) with
      | true => exact ho
      | false => exact isP.nil
def Z48 : List DV := [.d (.sc (.int .i64 0)), .d (.sc (.int .i64 0)), .d (.sc (.bool false)), .d (.sc (.string none8)), .d (.sc (.int .i64 0)), .d (.sc (.slice none 0 0)), .d (.sc (.int .i64 0)), .d (.sc (.int .i64 0)), .d (.sc (.bool false)), .d (.sc (.string none8)), .d (.sc (.int .i64 0)), .d (.sc (.slice none 0 0)), .d (.sc (.int .i64 0)), .d (.sc (.int .i64 0)), .d (.sc (.bool false)), .d (.sc (.string none8)), .d (.sc (.int .i64 0)), .d (.sc (.slice none 0 0)), .d (.sc (.int .i64 0)), .d (.sc (.int .i64 0)), .d (.sc (.bool false)), .d (.sc (.string none8)), .d (.sc (.int .i64 0)), .d (.sc (.slice none 0 0)), .d (.sc (.int .i64 0)), .d (.sc (.int .i64 0)), .d (.sc (.bool false)), .d (.sc (.string none8)), .d (.sc (.int .i64 0)), .d (.sc (.slice none 0 0)), .d (.sc (.int .i64 0)), .d (.sc (.int .i64 0)), .d (.sc (.bool false)), .d (.sc (.string none8)), .d (.sc (.int .i64 0)), .d (.sc (.slice none 0 0)), .d (.sc (.int .i64 0)), .d (.sc (.int .i64 0)), .d (.sc (.bool false)), .d (.sc (.string none8)), .d (.sc (.int .i64 0)), .d (.sc (.slice none 0 0)), .d (.sc (.int .i64 0)), .d (.sc (.int .i64 0)), .d (.sc (.bool false)), .d (.sc (.string none8)), .d (.sc (.int .i64 0)), .d (.sc (.slice none 0 0))]
theorem zOwn : isOwnU Z48 := ⟨List.replicate 8 ⟨0, zeroRep⟩, rfl, rfl, by intro o ho; rw [List.eq_of_mem_replicate ho]; exact isP.nil⟩
theorem isOwnU.note {cs : List DV} (h : isOwnU cs) {r : Reply} (hr : isP r.pairs) (client seq : Int) : isOwn (noteU cs client seq r) := by
  obtain ⟨os, hos, hcs, hop⟩ := h
  exact ⟨noteOs os client seq r, (noteOs_length _ _ _ _).trans hos, noteX_D hos hcs client seq r, noteOs_isP hop hr client seq⟩
theorem isOwn.len {cs : List DV} (h : isOwn cs) : cs.length = 48 := isOwnU.len h.u
theorem tk_spl {zs ds : List DV} (h1 : zs.length = 48) (h2 : ds.length = 48) : A0.tk (A0.spl zs 0 ds) 0 1 48 = ds := by
  have e : A0.spl zs 0 ds = ds := by
    show zs.take 0 ++ ds ++ zs.drop (0 + ds.length) = ds
    rw [List.take_zero, List.nil_append, List.drop_eq_nil_of_le (by omega), List.append_nil]
  rw [e]
  exact tk48 h2
noncomputable def isX (cs : List DV) (client seq want : Int) (r : Reply) : Bool := bif decide ((lookU cs client seq).1 = want) then repliesX (lookU cs client seq).2 r else false
theorem fit_spl {zs ds : List DV} (h1 : zs.length = 48) (h2 : ds.length = 48) : A0.fitv (A0.spl zs 0 ds) 0 1 48 := by
  show 0 + 1 * 48 ≤ (zs.take 0 ++ ds ++ zs.drop (0 + ds.length)).length
  simp [h2]
noncomputable def N48 : List DV := noteU Z48 1 5 ⟨0, true, none8, 0, []⟩
theorem isX_true {cs : List DV} {client seq want : Int} {r : Reply} (h : lookU cs client seq = (want, r)) : isX cs client seq want r = true := by simp [isX, h, repliesX_true]

set_option maxRecDepth 100000 in
theorem run1 : isX Z48 1 1 1 ⟨0, false, none8, 0, []⟩ = true := isX_true (by kernel_rfl)
theorem run2 : isX Z48 9 1 0 ⟨0, false, none8, 0, []⟩ = true := isX_true (by kernel_rfl)
theorem run3 : isX N48 1 5 2 ⟨0, true, none8, 0, []⟩ = true := isX_true (by kernel_rfl)
theorem run4 : isX N48 1 4 3 ⟨0, false, none8, 0, []⟩ = true := isX_true (by kernel_rfl)
theorem run5 : isX N48 1 6 1 ⟨0, false, none8, 0, []⟩ = true := isX_true (by kernel_rfl)

structure FsD where
  lookU : List DV → Int → Int → Int × Reply
  noteU : List DV → Int → Int → Reply → List DV
  rightU : List DV → Bool
  isX : List DV → Int → Int → Int → Reply → Bool
  isOwn : List DV → Prop
  isP : List (List PD) → Prop
  runs : Bool
noncomputable def FsD0 : FsD where
  lookU := lookU
  noteU := noteU
  rightU := rightU
  isX := isX
  isOwn := isOwnU
  isP := isP
  runs := true
def kn_lookU (F : FsD) : FuncId × (List DV → RV) := (13, fun args => match args with
  | [.agg cs, .d (.sc (.int .i64 client)), .d (.sc (.int .i64 seq))] => some ([F.isOwn cs], .tup [intD (((F.lookU cs client seq)).1), Reply.D (((F.lookU cs client seq)).2)])
  | _ => none)
theorem ok_lookU (args : List DV) (cs : List Prop) (r : DV) (h : (kn_lookU FsD0).2 args = some (cs, r)) (hc : allP cs True) : FnV Try.prog 13 args r ∧ closedL 0 args = true := by
  unfold kn_lookU at h
  simp only at h
  split at h
  · cases h; exact ⟨v_lookU _ _ _ hc.1, clo1 (isOwnU.closed hc.1) rfl⟩
  · cases h
def kn_noteU (F : FsD) : FuncId × (List DV → RV) := (8, fun args => match args with
  | [.agg cs, .d (.sc (.int .i64 client)), .d (.sc (.int .i64 seq)), .agg [.d (.sc (.int .i64 r_why)), .d (.sc (.bool r_found)), .d (.sc (.string r_value)), .d (.sc (.int .i64 r_version)), .d (.slc 3 r_pairs)]] => some ([F.isOwn cs, F.isP r_pairs], .agg ((F.noteU cs client seq ⟨r_why, r_found, r_value, r_version, r_pairs⟩)))
  | [.agg cs, .d (.sc (.int .i64 client)), .d (.sc (.int .i64 seq)), .agg [.d (.sc (.int .i64 r_why)), .d (.sc (.bool r_found)), .d (.sc (.string r_value)), .d (.sc (.int .i64 r_version)), .d (.sc (.slice none 0 0))]] => some ([F.isOwn cs, F.isP []], .agg ((F.noteU cs client seq ⟨r_why, r_found, r_value, r_version, []⟩)))
  | _ => none)
theorem ok_noteU (args : List DV) (cs : List Prop) (r : DV) (h : (kn_noteU FsD0).2 args = some (cs, r)) (hc : allP cs True) : FnV Try.prog 8 args r ∧ closedL 0 args = true := by
  unfold kn_noteU at h
  simp only at h
  split at h
  · cases h; exact ⟨v_noteU _ _ _ ⟨_, _, _, _, _⟩ hc.1 hc.2.1, clo1 (isOwnU.closed hc.1) rfl⟩
  · cases h; exact ⟨FnP.ups (v_noteU _ _ _ ⟨_, _, _, _, []⟩ hc.1 hc.2.1) (UpL.keep (UpL.keep (UpL.keep (UpL.agg (UpL.keep (UpL.keep (UpL.keep (UpL.keep (UpL.nil UpL.done))))) UpL.done)))), clo1 (isOwnU.closed hc.1) rfl⟩
  · cases h
def kn_rightU (F : FsD) : FuncId × (List DV → RV) := (16, fun args => match args with
  | [.agg cs] => some ([F.isOwn cs], boolD ((F.rightU cs)))
  | _ => none)
theorem ok_rightU (args : List DV) (cs : List Prop) (r : DV) (h : (kn_rightU FsD0).2 args = some (cs, r)) (hc : allP cs True) : FnV Try.prog 16 args r ∧ closedL 0 args = true := by
  unfold kn_rightU at h
  simp only at h
  split at h
  · cases h; exact ⟨v_rightU _ hc.1, clo1 (isOwnU.closed hc.1) rfl⟩
  · cases h
set_option maxRecDepth 100000 in
theorem v_isX (cs : List DV) (client : Int) (seq : Int) (want : Int) (r : Reply) (hp0 : FsD0.isOwn cs) (hp1 : FsD0.isP r.pairs) : FnV Try.prog 10 [.agg cs, intD client, intD seq, intD want, Reply.D r] (boolD ((isX cs client seq want r))) := by
  obtain ⟨r_why, r_found, r_value, r_version, r_pairs⟩ := r
  obtain ⟨F, hF⟩ : ∃ F, F = FsD0 := ⟨_, rfl⟩
  obtain ⟨GFsR, hGFsR⟩ : ∃ F, F = FsR0 := ⟨_, rfl⟩
  have hH : SoundK Try.prog [kn_lookU F, kn_replies GFsR] := by subst hF hGFsR; exact orK_ok ok_lookU (orK_ok ok_replies noK_ok)
  refine FnD_cbv (T := fun _ => tabY [0, 1005] []) (H := fun _ => [kn_lookU F, kn_replies GFsR]) (tabY_ok _ _) hH follows_mixed Try.func10 rfl Try.ntmps10 (by simp) fun A X W hA hX hW => ?_
  clear hH
  cbv
  have e : A.tk cs 0 1 48 = cs := by subst hA; exact tk48 (isOwnU.len hp0)
  cbv at e
  simp only [e]
  subst hA hX hW hF hGFsR
  refine ⟨by show cs.length ≤ 1000000; rw [isOwnU.len hp0]; decide, rfl, by show 0 + 1 * 48 ≤ cs.length; rw [isOwnU.len hp0]; decide, hp0, fun h => h, fun h => h, fun _ => isOwnU.look hp0 _ _, fun _ => hp1, fun h => by simpa [A0] using h, ?_⟩
  exact ret_v rfl rfl
def kn_isX (F : FsD) : FuncId × (List DV → RV) := (10, fun args => match args with
  | [.agg cs, .d (.sc (.int .i64 client)), .d (.sc (.int .i64 seq)), .d (.sc (.int .i64 want)), .agg [.d (.sc (.int .i64 r_why)), .d (.sc (.bool r_found)), .d (.sc (.string r_value)), .d (.sc (.int .i64 r_version)), .d (.slc 3 r_pairs)]] => some ([F.isOwn cs, F.isP r_pairs], boolD ((F.isX cs client seq want ⟨r_why, r_found, r_value, r_version, r_pairs⟩)))
  | [.agg cs, .d (.sc (.int .i64 client)), .d (.sc (.int .i64 seq)), .d (.sc (.int .i64 want)), .agg [.d (.sc (.int .i64 r_why)), .d (.sc (.bool r_found)), .d (.sc (.string r_value)), .d (.sc (.int .i64 r_version)), .d (.sc (.slice none 0 0))]] => some ([F.isOwn cs, F.isP []], boolD ((F.isX cs client seq want ⟨r_why, r_found, r_value, r_version, []⟩)))
  | _ => none)
theorem ok_isX (args : List DV) (cs : List Prop) (r : DV) (h : (kn_isX FsD0).2 args = some (cs, r)) (hc : allP cs True) : FnV Try.prog 10 args r ∧ closedL 0 args = true := by
  unfold kn_isX at h
  simp only at h
  split at h
  · cases h; exact ⟨v_isX _ _ _ _ ⟨_, _, _, _, _⟩ hc.1 hc.2.1, clo1 (isOwnU.closed hc.1) rfl⟩
  · cases h; exact ⟨FnP.ups (v_isX _ _ _ _ ⟨_, _, _, _, []⟩ hc.1 hc.2.1) (UpL.keep (UpL.keep (UpL.keep (UpL.keep (UpL.agg (UpL.keep (UpL.keep (UpL.keep (UpL.keep (UpL.nil UpL.done))))) UpL.done))))), clo1 (isOwnU.closed hc.1) rfl⟩
  · cases h
set_option maxRecDepth 100000 in
theorem v_runs : FnV Try.prog 3 [] (boolD true) := by
  obtain ⟨F, hF⟩ : ∃ F, F = FsD0 := ⟨_, rfl⟩
  obtain ⟨GFsR, hGFsR⟩ : ∃ F, F = FsR0 := ⟨_, rfl⟩
  have hH : SoundK Try.prog [kn_lookU F, kn_noteU F, kn_isX F, kn_found GFsR] := by subst hF hGFsR; exact orK_ok ok_lookU (orK_ok ok_noteU (orK_ok ok_isX (orK_ok ok_found noK_ok)))
  refine FnD_cbv (T := fun _ => tabY [1004, 1005, 1002] []) (H := fun _ => [kn_lookU F, kn_noteU F, kn_isX F, kn_found GFsR]) (tabY_ok _ _) hH follows_mixed Try.func3 rfl Try.ntmps3 (by simp) fun A X W hA hX hW => ?_
  clear hH
  cbv
  have hz := zOwn
  have hn : isOwn (noteU Z48 1 5 ⟨0, true, none8, 0, []⟩) := isOwnU.note zOwn isP.nil _ _
  have e : A.tk (A.spl Z48 0 (F.noteU Z48 1 5 ⟨GFsR.found.why, GFsR.found.found, GFsR.found.value, GFsR.found.version, GFsR.found.pairs⟩)) 0 1 48 = F.noteU Z48 1 5 ⟨GFsR.found.why, GFsR.found.found, GFsR.found.value, GFsR.found.version, GFsR.found.pairs⟩ := by
    subst hA hF hGFsR
    exact tk_spl rfl hn.len
  cbv at e
  simp only [e]
  subst hA hX hW hF hGFsR
  repeat' (refine And.intro ?_ ?_)
  all_goals first
    | (show Region.lexB _ _ = true; kernel_rfl)
    | (show turnsB _ = true; kernel_rfl)
    | exact zOwn
    | exact isP.nil
    | exact hn.u
    | (intro _; exact hn.u)
    | (intro _; exact zOwn)
    | (intro _; exact isP.nil)
    | rfl
    | (intro _; trivial)
    | (intro hq; exact hq)
    | exact Nat.le_refl 48
    | exact hn.len
    | (intro _; exact fit_spl rfl hn.len)
    | (intro hq; simpa [A0] using hq)
    | skip
  · refine ret_v ?_ rfl
    show boolD (bif bif bif bif isX Z48 1 1 1 ⟨0, false, none8, 0, []⟩ then isX Z48 9 1 0 ⟨0, false, none8, 0, []⟩ else false then isX N48 1 5 2 ⟨0, true, none8, 0, []⟩ else false then isX N48 1 4 3 ⟨0, false, none8, 0, []⟩ else false then isX N48 1 6 1 ⟨0, false, none8, 0, []⟩ else false) = boolD true
    rw [run1, run2, run3, run4, run5]
    rfl
def kn_runs (F : FsD) : FuncId × (List DV → RV) := (3, fun args => match args with
  | [] => some ([], boolD F.runs)
  | _ => none)
theorem ok_runs (args : List DV) (cs : List Prop) (r : DV) (h : (kn_runs FsD0).2 args = some (cs, r)) (hc : allP cs True) : FnV Try.prog 3 args r ∧ closedL 0 args = true := by
  unfold kn_runs at h
  simp only at h
  split at h
  · cases h; exact ⟨v_runs, rfl⟩
  · cases h
end Go.Proofs.Ytjlbdfehkbcmfaa
