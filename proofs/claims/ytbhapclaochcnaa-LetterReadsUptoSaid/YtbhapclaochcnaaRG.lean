/- The document's ballots, instances, commands, attributes and cells, read. No condition. -/
import Derived.Test.YtbhapclaochcnaaRE
import Derived.Test.YtbhapclaochcnaaAm33
import Derived.Test.YtbhapclaochcnaaRA
namespace Go.Proofs.Ytbhapclaochcnaa
open Go.RowKit
set_option linter.all false
set_option maxHeartbeats 8000000
def getInstX (xs : List (List PD)) (a w : Int) : Inst × Int × Int :=
  let e := numR xs a w
  let r := numR xs e.2.1 e.2.2
  (⟨e.1, r.1⟩, r.2)
theorem getInst_rd {xs : List (List PD)} {a w : Int} (h : isRd xs a w) : isRd xs (getInstX xs a w).2.1 (getInstX xs a w).2.2 := (num_rd (num_rd h).1).1
/-- A command as the document reads it: what is wrong stands in the reader alone. -/
def getCR (xs : List (List PD)) (a w : Int) : Cmd × Int × Int :=
  let r := numR xs a w
  let g := if r.2.2 = 0 then getB xs a w else (⟨r.1, 0, 0, none8, none8, none8, none8⟩, r.2)
  if g.2.2 = 0 then (if rightC g.1 = true then g else (g.1, g.2.1, 4)) else g
def getAR (xs : List (List PD)) (a w : Int) : Attr × Int × Int :=
  let g := getN xs a w
  if g.2.2 = 0 then (if rightA g.1 = true then g else (g.1, g.2.1, 4)) else g
theorem numR_wrong {xs : List (List PD)} {a w : Int} (h : ¬ w = 0) : numR xs a w = (0, a, w) := by
  unfold numR numL
  rw [if_pos h]
theorem cntR_wrong {xs : List (List PD)} {a w m : Int} (h : ¬ w = 0) : cntR xs a w m = (0, a, w) := by
  unfold cntR cntL
  have e : numL (bytesOf xs) a w = (0, a, w) := by unfold numL; rw [if_pos h]
  rw [e, if_neg (by simp only; omega)]
theorem textR_wrong {xs : List (List PD)} {a w m : Int} (h : ¬ w = 0) : textR xs a w m = (none8, a, w) := by
  have e := cntR_wrong (xs := xs) (a := a) (m := m) h
  unfold cntR at e
  unfold textR textL
  rw [e, if_pos (by simp only; omega)]
  rfl
theorem flagR_wrong {xs : List (List PD)} {a w : Int} (h : ¬ w = 0) : flagR xs a w = (false, a, w) := by
  unfold flagR flagL
  rw [if_pos h]
theorem bal_wrong {xs : List (List PD)} {a w : Int} (h : ¬ w = 0) : getBalX xs a w = (⟨0, 0⟩, a, w) := by
  unfold getBalX
  simp only [numR_wrong h]
theorem inst_wrong {xs : List (List PD)} {a w : Int} (h : ¬ w = 0) : getInstX xs a w = (⟨0, 0⟩, a, w) := by
  unfold getInstX
  simp only [numR_wrong h]
theorem getB_wrong {xs : List (List PD)} {a w : Int} (h : ¬ w = 0) : getB xs a w = (⟨0, 0, 0, none8, none8, none8, none8⟩, a, w) := by
  unfold getB
  simp only [numR_wrong h]
  rfl
theorem getB_one {xs : List (List PD)} {a w : Int} (h : ¬ (numR xs a w).2.2 = 0) : (getB xs a w).2 = (numR xs a w).2 := by
  obtain ⟨⟨n, a1, w1⟩, q⟩ : ∃ q, numR xs a w = q := ⟨_, rfl⟩
  rw [q] at h ⊢
  simp only at h
  unfold getB
  simp only [q, numR_wrong h, textR_wrong h]
  repeat' split
  all_goals rfl
theorem getCR_eq {xs : List (List PD)} {a w : Int} : (getCR xs a w).2 = (getX xs a w).2 ∧ ((getX xs a w).2.2 = 0 → (getCR xs a w).1 = (getX xs a w).1) := by
  unfold getCR getX
  simp only
  by_cases h : (numR xs a w).2.2 = 0
  · rw [if_pos h]
    split
    · split
      · exact ⟨rfl, fun _ => rfl⟩
      · exact ⟨rfl, fun h => by simp at h⟩
    · rename_i h2
      exact ⟨rfl, fun h => absurd h h2⟩
  · rw [if_neg h]
    have e := getB_one h
    rw [if_neg h, if_neg (by rw [e]; exact h)]
    exact ⟨e.symm, fun h2 => absurd h2 (by rw [e]; exact h)⟩
theorem getCR_rd {xs : List (List PD)} {a w : Int} (h : isRd xs a w) : isRd xs (getCR xs a w).2.1 (getCR xs a w).2.2 := by
  rw [getCR_eq.1]
  exact get_rd h
theorem getAR_eq {xs : List (List PD)} {a w : Int} : (getAR xs a w).2 = (getA xs a w).2 ∧ ((getA xs a w).2.2 = 0 → (getAR xs a w).1 = (getA xs a w).1) := by
  unfold getAR getA
  simp only
  split
  · split
    · exact ⟨rfl, fun _ => rfl⟩
    · exact ⟨rfl, fun h => by simp at h⟩
  · rename_i h2
    exact ⟨rfl, fun h => absurd h h2⟩
theorem getAR_rd {xs : List (List PD)} {a w : Int} (h : isRd xs a w) : isRd xs (getAR xs a w).2.1 (getAR xs a w).2.2 := by
  rw [getAR_eq.1]
  exact getA_rd h
theorem getX_wrong {xs : List (List PD)} {a w : Int} (h : ¬ w = 0) : getX xs a w = (.zero, a, w) := by
  unfold getX
  simp only [getB_wrong h, if_neg h]
theorem getA_wrong {xs : List (List PD)} {a w : Int} (h : ¬ w = 0) : getA xs a w = (zeroA, a, w) := by
  unfold getA getN
  simp only [numR_wrong h, if_neg h]
theorem cellX_wrong {xs : List (List PD)} {a w : Int} (h : ¬ w = 0) : getCellX xs a w = (promC 0 0 0, a, w) := by
  unfold getCellX getCellB
  simp only [numR_wrong h, bal_wrong h, if_true, if_neg h]
/-- A cell as the document reads it, ahead of the look at what it is. -/
def getCellRB (xs : List (List PD)) (a w : Int) : Cell × Int × Int :=
  let s := numR xs a w
  let p := getBalX xs s.2.1 s.2.2
  if s.1 = 0 then (promC s.1 p.1.epoch p.1.replica, p.2) else if ¬ p.2.2 = 0 then (promC s.1 p.1.epoch p.1.replica, p.2) else
    let v := getBalX xs p.2.1 p.2.2
    let c := getCR xs v.2.1 v.2.2
    let t := getAR xs c.2.1 c.2.2
    let f := flagR xs t.2.1 t.2.2
    (⟨s.1, p.1.epoch, p.1.replica, v.1.epoch, v.1.replica, c.1.kind, c.1.client, c.1.seq, c.1.key, c.1.fin, c.1.old, c.1.val, t.1.seq, t.1.d0, t.1.d1, t.1.d2, t.1.d3, t.1.d4, t.1.d5, t.1.d6, f.1⟩, f.2)
theorem getCellRB_eq {xs : List (List PD)} {a w : Int} : (getCellRB xs a w).2 = (getCellB xs a w).2 ∧ ((getCellB xs a w).2.2 = 0 → (getCellRB xs a w).1 = (getCellB xs a w).1) := by
  unfold getCellRB getCellB
  simp only
  obtain ⟨⟨n0, a0, w0⟩, q0⟩ : ∃ q, numR xs a w = q := ⟨_, rfl⟩
  simp only [q0]
  obtain ⟨⟨n1, a1, w1⟩, q1⟩ : ∃ q, getBalX xs a0 w0 = q := ⟨_, rfl⟩
  simp only [q1]
  by_cases h : n0 = 0
  · rw [if_pos h, if_pos h]
    exact ⟨rfl, fun _ => by rw [h]⟩
  rw [if_neg h, if_neg h]
  by_cases hw : w1 = 0
  · rw [if_neg (by omega)]
    obtain ⟨⟨n2, a2, w2⟩, q2⟩ : ∃ q, getBalX xs a1 w1 = q := ⟨_, rfl⟩
    simp only [q2]
    have c1 := getCR_eq (xs := xs) (a := a2) (w := w2)
    obtain ⟨⟨n3, a3, w3⟩, q3⟩ : ∃ q, getX xs a2 w2 = q := ⟨_, rfl⟩
    obtain ⟨⟨m3, b3, v3⟩, r3⟩ : ∃ q, getCR xs a2 w2 = q := ⟨_, rfl⟩
    simp only [q3, r3] at c1 ⊢
    obtain ⟨c1, c2⟩ := c1
    cases c1
    have d1 := getAR_eq (xs := xs) (a := a3) (w := w3)
    obtain ⟨⟨n4, a4, w4⟩, q4⟩ : ∃ q, getA xs a3 w3 = q := ⟨_, rfl⟩
    obtain ⟨⟨m4, b4, v4⟩, r4⟩ : ∃ q, getAR xs a3 w3 = q := ⟨_, rfl⟩
    simp only [q4, r4] at d1 ⊢
    obtain ⟨d1, d2⟩ := d1
    cases d1
    refine ⟨rfl, fun h5 => ?_⟩
    have h4 : w4 = 0 := by
      by_cases hv : w4 = 0
      · exact hv
      · rw [flagR_wrong hv] at h5
        exact h5
    have h3 : w3 = 0 := by
      by_cases hv : w3 = 0
      · exact hv
      · rw [getA_wrong hv] at q4
        cases q4
        exact h4
    rw [c2 h3, d2 h4]
  · rw [if_pos hw]
    simp only [bal_wrong hw, getX_wrong hw, getA_wrong hw, flagR_wrong hw]
    exact ⟨trivial, fun h => absurd h hw⟩
theorem cellR_fin {xs : List (List PD)} {a w : Int} : getCellX xs a w = (if (getCellRB xs a w).2.2 = 0 then (if rightCell (getCellRB xs a w).1 = true then getCellRB xs a w else (promC 0 0 0, (getCellRB xs a w).2.1, 4)) else (promC 0 0 0, (getCellRB xs a w).2.1, (getCellRB xs a w).2.2)) := by
  have e := getCellRB_eq (xs := xs) (a := a) (w := w)
  unfold getCellX
  simp only
  rw [e.1]
  by_cases h : (getCellB xs a w).2.2 = 0
  · have e2 : getCellRB xs a w = getCellB xs a w := Prod.ext (e.2 h) e.1
    rw [e2]
  · rw [if_neg h, if_neg h]
structure FsLH where
  bal2 : List (List PD) → Int → Int → Ballot × Int × Int
  inst2 : List (List PD) → Int → Int → Inst × Int × Int
  cmd2 : List (List PD) → Int → Int → Cmd × Int × Int
  attr2 : List (List PD) → Int → Int → Attr × Int × Int
  cell : List (List PD) → Int → Int → Cell × Int × Int
  rd : List (List PD) → Int → Int → Prop
def FsLH0 : FsLH where
  bal2 := getBalX
  inst2 := getInstX
  cmd2 := getCR
  attr2 := getAR
  cell := getCellX
  rd := isRd
set_option maxRecDepth 100000 in
theorem v_rBal (xs : List (List PD)) (a w : Int) (hp0 : isRd xs a w) : FnD Try.prog 61 [.ref 0 0 0] [rdB 59 xs a w] (fun r st' => r = Ballot.D ((FsLH0.bal2 xs a w).1) ∧ st' = [rdB 59 xs (FsLH0.bal2 xs a w).2.1 (FsLH0.bal2 xs a w).2.2]) := by
  obtain ⟨GFsR, hFsR⟩ : ∃ F, F = FsR0 := ⟨_, rfl⟩
  have hH : SoundK Try.prog [] := by subst hFsR; exact noK_ok
  have hB : SoundB Try.prog [kb_rNum GFsR] := by subst hFsR; exact orB_ok okb_rNum noB_ok
  refine FnD_cbv (T := fun _ => tabY [] []) (H := fun _ => []) (tabY_ok _ _) hH follows_mixed Try.func61 rfl Try.ntmps61 (by simp) fun A X W hA hX hW => ?_
  cbv
  repeat' first
    | (refine part (fun h => ?_) (fun h => ?_) <;> try cbv)
    | (refine And.intro ?_ ?_)
    | (with_reducible refine callB hX hB ?_) <;> cbv
  all_goals clear hH hB
  all_goals subst hA hX hW hFsR
  all_goals try simp only [A0, FsR0] at *
  all_goals first
    | assumption
    | exact (num_rd hp0).1
    | (refine ret_keep [0] rfl ⟨?_, ?_⟩ <;> rfl)
def kb_rBal (F : FsLH) : FuncId × (List DV → Store → SV) := (61, fun args st => match args with
  | [.ref b ver o] => (match st[b]? with
    | some ⟨t, [.d (.slc 1 xs), .d (.sc (.int .i64 a)), .d (.sc (.int .i64 w))], false, v, true⟩ => (bif (ver == 0) && (o == 0) && (v == 0) && (t == 59) then some ([F.rd xs a w], Ballot.D ((F.bal2 xs a w).1), st.set b (rdB 59 xs (F.bal2 xs a w).2.1 (F.bal2 xs a w).2.2)) else none)
    | _ => none)
  | _ => none)
theorem okb_rBal (args : List DV) (st : Store) (cs : List Prop) (r : DV) (st' : Store) (h : (kb_rBal FsLH0).2 args st = some (cs, r, st')) (hc : allP cs True) (K : DV → Store → Prop) (hk : K r st') : FnD Try.prog 61 args st K := by
  unfold kb_rBal at h
  simp only at h
  split at h
  · split at h
    · rename_i hb
      simp only [cond_eq_ite, Bool.and_eq_true, beq_iff_eq, Option.ite_none_right_eq_some] at h
      obtain ⟨⟨⟨⟨rfl, rfl⟩, rfl⟩, rfl⟩, h⟩ := h
      cases h
      exact FnD.one _ (v_rBal _ _ _ hc.1) hb rfl rfl rfl rfl hk
    · cases h
  · cases h
set_option maxRecDepth 100000 in
theorem v_rInst (xs : List (List PD)) (a w : Int) (hp0 : isRd xs a w) : FnD Try.prog 60 [.ref 0 0 0] [rdB 59 xs a w] (fun r st' => r = Inst.D ((FsLH0.inst2 xs a w).1) ∧ st' = [rdB 59 xs (FsLH0.inst2 xs a w).2.1 (FsLH0.inst2 xs a w).2.2]) := by
  obtain ⟨GFsR, hFsR⟩ : ∃ F, F = FsR0 := ⟨_, rfl⟩
  have hH : SoundK Try.prog [] := by subst hFsR; exact noK_ok
  have hB : SoundB Try.prog [kb_rNum GFsR] := by subst hFsR; exact orB_ok okb_rNum noB_ok
  refine FnD_cbv (T := fun _ => tabY [] []) (H := fun _ => []) (tabY_ok _ _) hH follows_mixed Try.func60 rfl Try.ntmps60 (by simp) fun A X W hA hX hW => ?_
  cbv
  repeat' first
    | (refine part (fun h => ?_) (fun h => ?_) <;> try cbv)
    | (refine And.intro ?_ ?_)
    | (with_reducible refine callB hX hB ?_) <;> cbv
  all_goals clear hH hB
  all_goals subst hA hX hW hFsR
  all_goals try simp only [A0, FsR0] at *
  all_goals first
    | assumption
    | exact (num_rd hp0).1
    | (refine ret_keep [0] rfl ⟨?_, ?_⟩ <;> rfl)
def kb_rInst (F : FsLH) : FuncId × (List DV → Store → SV) := (60, fun args st => match args with
  | [.ref b ver o] => (match st[b]? with
    | some ⟨t, [.d (.slc 1 xs), .d (.sc (.int .i64 a)), .d (.sc (.int .i64 w))], false, v, true⟩ => (bif (ver == 0) && (o == 0) && (v == 0) && (t == 59) then some ([F.rd xs a w], Inst.D ((F.inst2 xs a w).1), st.set b (rdB 59 xs (F.inst2 xs a w).2.1 (F.inst2 xs a w).2.2)) else none)
    | _ => none)
  | _ => none)
theorem okb_rInst (args : List DV) (st : Store) (cs : List Prop) (r : DV) (st' : Store) (h : (kb_rInst FsLH0).2 args st = some (cs, r, st')) (hc : allP cs True) (K : DV → Store → Prop) (hk : K r st') : FnD Try.prog 60 args st K := by
  unfold kb_rInst at h
  simp only at h
  split at h
  · split at h
    · rename_i hb
      simp only [cond_eq_ite, Bool.and_eq_true, beq_iff_eq, Option.ite_none_right_eq_some] at h
      obtain ⟨⟨⟨⟨rfl, rfl⟩, rfl⟩, rfl⟩, h⟩ := h
      cases h
      exact FnD.one _ (v_rInst _ _ _ hc.1) hb rfl rfl rfl rfl hk
    · cases h
  · cases h
set_option maxRecDepth 100000 in
theorem v_rCmd (xs : List (List PD)) (a w : Int) (hp0 : isRd xs a w) : FnD Try.prog 62 [.ref 0 0 0] [rdB 59 xs a w] (fun r st' => r = Cmd.D ((FsLH0.cmd2 xs a w).1) ∧ st' = [rdB 59 xs (FsLH0.cmd2 xs a w).2.1 (FsLH0.cmd2 xs a w).2.2]) := by
  obtain ⟨GFs5, hFs5⟩ : ∃ F, F = Fs50 := ⟨_, rfl⟩
  obtain ⟨GFsR, hFsR⟩ : ∃ F, F = FsR0 := ⟨_, rfl⟩
  have hH : SoundK Try.prog [kn_rightR GFs5] := by subst hFs5 hFsR; exact orK_ok ok_rightR noK_ok
  have hB : SoundB Try.prog [kb_rNum GFsR, kb_rText GFsR] := by subst hFs5 hFsR; exact orB_ok okb_rNum (orB_ok okb_rText noB_ok)
  refine FnD_cbv (T := fun _ => tabY [] []) (H := fun _ => [kn_rightR GFs5]) (tabY_ok _ _) hH follows_mixed Try.func62 rfl Try.ntmps62 (by simp) fun A X W hA hX hW => ?_
  cbv
  repeat' first
    | (refine part (fun h => ?_) (fun h => ?_) <;> try cbv)
    | (refine And.intro ?_ ?_)
    | (with_reducible refine callB hX hB ?_) <;> cbv
  all_goals clear hH hB
  all_goals subst hA hX hW hFsR hFs5
  all_goals simp only [A0, nc, FsR0, Fs50, rightR_eq, decide_eq_true_eq, decide_eq_false_iff_not, Bool.not_eq_true', Bool.not_eq_false'] at *
  all_goals have h1 := num_rd hp0
  all_goals generalize e1 : numR xs a w = q at *
  all_goals obtain ⟨n1, a1, w1⟩ := q
  all_goals try simp only at *
  all_goals have h2 := (num_rd h1.1).1
  all_goals generalize e2 : numR xs a1 w1 = q at *
  all_goals obtain ⟨n2, a2, w2⟩ := q
  all_goals try simp only at *
  all_goals have h3 := (num_rd h2).1
  all_goals generalize e3 : numR xs a2 w2 = q at *
  all_goals obtain ⟨n3, a3, w3⟩ := q
  all_goals try simp only at *
  all_goals have h4 := text_rd 16 h3
  all_goals generalize e4 : textR xs a3 w3 16 = q at *
  all_goals obtain ⟨t4, a4, w4⟩ := q
  all_goals try simp only at *
  all_goals have h5 := text_rd 64 h4
  all_goals generalize e5 : textR xs a4 w4 64 = q at *
  all_goals obtain ⟨t5, a5, w5⟩ := q
  all_goals try simp only at *
  all_goals have h6 := text_rd 64 h5
  all_goals generalize e6 : textR xs a5 w5 64 = q at *
  all_goals obtain ⟨t6, a6, w6⟩ := q
  all_goals try simp only at *
  all_goals have h7 := text_rd 16 h4
  all_goals generalize e7 : textR xs a4 w4 16 = q at *
  all_goals obtain ⟨t7, a7, w7⟩ := q
  all_goals try simp only at *
  all_goals first
    | assumption
    | exact h1.1
    | exact fail_rd ‹_›
    | exact fail_rd h1.1
    | (intros; first | assumption | trivial | (simp_all; done))
    | (exfalso; simp_all; done)
    | (refine ret_keep [0] rfl ⟨?_, ?_⟩ <;> ((simp_all [FsLH0, pullD, pullL, keepSt, pullBox, getCR, getB, failR, Cmd.D, Cmd.zero, intD, strD] <;> (repeat' split) <;> (try simp_all)); done))
def kb_rCmd (F : FsLH) : FuncId × (List DV → Store → SV) := (62, fun args st => match args with
  | [.ref b ver o] => (match st[b]? with
    | some ⟨t, [.d (.slc 1 xs), .d (.sc (.int .i64 a)), .d (.sc (.int .i64 w))], false, v, true⟩ => (bif (ver == 0) && (o == 0) && (v == 0) && (t == 59) then some ([F.rd xs a w], Cmd.D ((F.cmd2 xs a w).1), st.set b (rdB 59 xs (F.cmd2 xs a w).2.1 (F.cmd2 xs a w).2.2)) else none)
    | _ => none)
  | _ => none)
theorem okb_rCmd (args : List DV) (st : Store) (cs : List Prop) (r : DV) (st' : Store) (h : (kb_rCmd FsLH0).2 args st = some (cs, r, st')) (hc : allP cs True) (K : DV → Store → Prop) (hk : K r st') : FnD Try.prog 62 args st K := by
  unfold kb_rCmd at h
  simp only at h
  split at h
  · split at h
    · rename_i hb
      simp only [cond_eq_ite, Bool.and_eq_true, beq_iff_eq, Option.ite_none_right_eq_some] at h
      obtain ⟨⟨⟨⟨rfl, rfl⟩, rfl⟩, rfl⟩, h⟩ := h
      cases h
      exact FnD.one _ (v_rCmd _ _ _ hc.1) hb rfl rfl rfl rfl hk
    · cases h
  · cases h
set_option maxRecDepth 100000 in
theorem v_rAttr (xs : List (List PD)) (a w : Int) (hp0 : isRd xs a w) : FnD Try.prog 63 [.ref 0 0 0] [rdB 59 xs a w] (fun r st' => r = Attr.D ((FsLH0.attr2 xs a w).1) ∧ st' = [rdB 59 xs (FsLH0.attr2 xs a w).2.1 (FsLH0.attr2 xs a w).2.2]) := by
  obtain ⟨GFsA, hFsA⟩ : ∃ F, F = FsA0 := ⟨_, rfl⟩
  obtain ⟨GFsR, hFsR⟩ : ∃ F, F = FsR0 := ⟨_, rfl⟩
  have hH : SoundK Try.prog [kn_rightAR GFsA] := by subst hFsA hFsR; exact orK_ok ok_rightAR noK_ok
  have hB : SoundB Try.prog [kb_rNum GFsR] := by subst hFsA hFsR; exact orB_ok okb_rNum noB_ok
  refine FnD_cbv (T := fun _ => tabY [5003] []) (H := fun _ => [kn_rightAR GFsA]) (tabY_ok _ _) hH follows_mixed Try.func63 rfl Try.ntmps63 (by simp) fun A X W hA hX hW => ?_
  cbv
  have l0 : A.cmp .lss 0 7 = true := by subst hA; rfl
  cbv at l0
  have l1 : A.cmp .lss 1 7 = true := by subst hA; rfl
  cbv at l1
  have l2 : A.cmp .lss 2 7 = true := by subst hA; rfl
  cbv at l2
  have l3 : A.cmp .lss 3 7 = true := by subst hA; rfl
  cbv at l3
  have l4 : A.cmp .lss 4 7 = true := by subst hA; rfl
  cbv at l4
  have l5 : A.cmp .lss 5 7 = true := by subst hA; rfl
  cbv at l5
  have l6 : A.cmp .lss 6 7 = true := by subst hA; rfl
  cbv at l6
  have l7 : A.cmp .lss 7 7 = false := by subst hA; rfl
  cbv at l7
  have b0 : A.bin .add .i64 0 1 = 1 := by subst hA; rfl
  cbv at b0
  have b1 : A.bin .add .i64 1 1 = 2 := by subst hA; rfl
  cbv at b1
  have b2 : A.bin .add .i64 2 1 = 3 := by subst hA; rfl
  cbv at b2
  have b3 : A.bin .add .i64 3 1 = 4 := by subst hA; rfl
  cbv at b3
  have b4 : A.bin .add .i64 4 1 = 5 := by subst hA; rfl
  cbv at b4
  have b5 : A.bin .add .i64 5 1 = 6 := by subst hA; rfl
  cbv at b5
  have b6 : A.bin .add .i64 6 1 = 7 := by subst hA; rfl
  cbv at b6
  have o0_0 : A.off 0 0 1 = 0 := by subst hA; rfl
  cbv at o0_0
  have o0_1 : A.off 0 1 1 = 1 := by subst hA; rfl
  cbv at o0_1
  have o0_2 : A.off 0 2 1 = 2 := by subst hA; rfl
  cbv at o0_2
  have o0_3 : A.off 0 3 1 = 3 := by subst hA; rfl
  cbv at o0_3
  have o0_4 : A.off 0 4 1 = 4 := by subst hA; rfl
  cbv at o0_4
  have o0_5 : A.off 0 5 1 = 5 := by subst hA; rfl
  cbv at o0_5
  have o0_6 : A.off 0 6 1 = 6 := by subst hA; rfl
  cbv at o0_6
  refine callB hX hB ?_
  cbv
  refine And.intro ?_ ?_
  rotate_left 1
  refine unrollL (T := fun _ => tabY [5003] []) (H := fun _ => [kn_rightAR GFsA]) (tabY_ok _ _) hH follows_mixed hA hX 8 fun R hR => ?_
  cbv
  repeat' first
    | (simp only [l0, l1, l2, l3, l4, l5, l6, l7, b0, b1, b2, b3, b4, b5, b6, o0_0, o0_1, o0_2, o0_3, o0_4, o0_5, o0_6, decide_true]; cbv)
    | (refine part (fun h => ?_) (fun h => ?_) <;> try cbv)
    | (refine And.intro ?_ ?_)
    | ((with_reducible refine callB hX hB ?_) <;> cbv)
    | (refine hR _ _ _ ?_; cbv)
  all_goals try clear hR
  all_goals clear l0 l1 l2 l3 l4 l5 l6 l7 b0 b1 b2 b3 b4 b5 b6 o0_0 o0_1 o0_2 o0_3 o0_4 o0_5 o0_6 hH hB
  all_goals subst hA hX hW hFsA hFsR
  all_goals simp only [A0, nc, FsA0, FsR0, decide_eq_true_eq, decide_eq_false_iff_not, Bool.not_eq_true', Bool.not_eq_false'] at *
  all_goals have h0 := (num_rd hp0).1
  all_goals generalize e0 : numR xs a w = q at *
  all_goals obtain ⟨n0, a0, w0⟩ := q
  all_goals try simp only at *
  all_goals have h1 := (num_rd h0).1
  all_goals generalize e1 : numR xs a0 w0 = q at *
  all_goals obtain ⟨n1, a1, w1⟩ := q
  all_goals try simp only at *
  all_goals have h2 := (num_rd h1).1
  all_goals generalize e2 : numR xs a1 w1 = q at *
  all_goals obtain ⟨n2, a2, w2⟩ := q
  all_goals try simp only at *
  all_goals have h3 := (num_rd h2).1
  all_goals generalize e3 : numR xs a2 w2 = q at *
  all_goals obtain ⟨n3, a3, w3⟩ := q
  all_goals try simp only at *
  all_goals have h4 := (num_rd h3).1
  all_goals generalize e4 : numR xs a3 w3 = q at *
  all_goals obtain ⟨n4, a4, w4⟩ := q
  all_goals try simp only at *
  all_goals have h5 := (num_rd h4).1
  all_goals generalize e5 : numR xs a4 w4 = q at *
  all_goals obtain ⟨n5, a5, w5⟩ := q
  all_goals try simp only at *
  all_goals have h6 := (num_rd h5).1
  all_goals generalize e6 : numR xs a5 w5 = q at *
  all_goals obtain ⟨n6, a6, w6⟩ := q
  all_goals try simp only at *
  all_goals have h7 := (num_rd h6).1
  all_goals generalize e7 : numR xs a6 w6 = q at *
  all_goals obtain ⟨n7, a7, w7⟩ := q
  all_goals try simp only at *
  all_goals first
    | assumption
    | exact fail_rd ‹_›
    | (intros; first | assumption | trivial | (simp_all; done))
    | (exfalso; simp_all; done)
    | (refine ret_keep [0] rfl ⟨?_, ?_⟩ <;> ((simp_all [FsLH0, pullD, pullL, keepSt, pullBox, getAR, getN, failR, Attr.D, intD, strD] <;> (repeat' split) <;> (try simp_all)); done))
def kb_rAttr (F : FsLH) : FuncId × (List DV → Store → SV) := (63, fun args st => match args with
  | [.ref b ver o] => (match st[b]? with
    | some ⟨t, [.d (.slc 1 xs), .d (.sc (.int .i64 a)), .d (.sc (.int .i64 w))], false, v, true⟩ => (bif (ver == 0) && (o == 0) && (v == 0) && (t == 59) then some ([F.rd xs a w], Attr.D ((F.attr2 xs a w).1), st.set b (rdB 59 xs (F.attr2 xs a w).2.1 (F.attr2 xs a w).2.2)) else none)
    | _ => none)
  | _ => none)
theorem okb_rAttr (args : List DV) (st : Store) (cs : List Prop) (r : DV) (st' : Store) (h : (kb_rAttr FsLH0).2 args st = some (cs, r, st')) (hc : allP cs True) (K : DV → Store → Prop) (hk : K r st') : FnD Try.prog 63 args st K := by
  unfold kb_rAttr at h
  simp only at h
  split at h
  · split at h
    · rename_i hb
      simp only [cond_eq_ite, Bool.and_eq_true, beq_iff_eq, Option.ite_none_right_eq_some] at h
      obtain ⟨⟨⟨⟨rfl, rfl⟩, rfl⟩, rfl⟩, h⟩ := h
      cases h
      exact FnD.one _ (v_rAttr _ _ _ hc.1) hb rfl rfl rfl rfl hk
    · cases h
  · cases h
set_option maxRecDepth 100000 in
theorem v_rCell (xs : List (List PD)) (a w : Int) (hp0 : isRd xs a w) : FnD Try.prog 26 [.ref 0 0 0] [rdB 59 xs a w] (fun r st' => r = Cell.D ((FsLH0.cell xs a w).1) ∧ st' = [rdB 59 xs (FsLH0.cell xs a w).2.1 (FsLH0.cell xs a w).2.2]) := by
  obtain ⟨GFsR5, hFsR5⟩ : ∃ F, F = FsR50 := ⟨_, rfl⟩
  obtain ⟨GFsR, hFsR⟩ : ∃ F, F = FsR0 := ⟨_, rfl⟩
  obtain ⟨GFsLH, hFsLH⟩ : ∃ F, F = FsLH0 := ⟨_, rfl⟩
  have hH : SoundK Try.prog [kn_rightCell2 GFsR5] := by subst hFsR5 hFsR hFsLH; exact orK_ok ok_rightCell2 noK_ok
  have hB : SoundB Try.prog [kb_rNum GFsR, kb_rBal GFsLH, kb_rCmd GFsLH, kb_rAttr GFsLH, kb_rFlag GFsR] := by subst hFsR5 hFsR hFsLH; exact orB_ok okb_rNum (orB_ok okb_rBal (orB_ok okb_rCmd (orB_ok okb_rAttr (orB_ok okb_rFlag noB_ok))))
  refine FnD_cbv (T := fun _ => tabY [] []) (H := fun _ => [kn_rightCell2 GFsR5]) (tabY_ok _ _) hH follows_mixed Try.func26 rfl Try.ntmps26 (by simp) fun A X W hA hX hW => ?_
  cbv
  repeat' first
    | (refine part (fun h => ?_) (fun h => ?_) <;> try cbv)
    | (refine And.intro ?_ ?_)
    | (with_reducible refine callB hX hB ?_) <;> cbv
  all_goals clear hH hB
  all_goals subst hA hX hW hFsR5 hFsR hFsLH
  all_goals try simp only [A0, nc, FsR50, FsR0, FsLH0, decide_eq_true_eq, decide_eq_false_iff_not, Bool.not_eq_true', Bool.not_eq_false'] at *
  all_goals have h0 := (num_rd hp0).1
  all_goals generalize e0 : numR xs a w = q at *
  all_goals obtain ⟨n0, a0, w0⟩ := q
  all_goals try simp only at *
  all_goals have h1 := getBal_rd h0
  all_goals generalize e1 : getBalX xs a0 w0 = q at *
  all_goals obtain ⟨⟨pe, pr⟩, a1, w1⟩ := q
  all_goals try simp only at *
  all_goals have h2 := getBal_rd h1
  all_goals generalize e2 : getBalX xs a1 w1 = q at *
  all_goals obtain ⟨⟨ve, vr⟩, a2, w2⟩ := q
  all_goals try simp only at *
  all_goals have h3 := getCR_rd h2
  all_goals generalize e3 : getCR xs a2 w2 = q at *
  all_goals obtain ⟨⟨c0, c1, c2, c3, c4, c5, c6⟩, a3, w3⟩ := q
  all_goals try simp only at *
  all_goals have h4 := getAR_rd h3
  all_goals generalize e4 : getAR xs a3 w3 = q at *
  all_goals obtain ⟨⟨t0, t1, t2, t3, t4, t5, t6, t7⟩, a4, w4⟩ := q
  all_goals try simp only at *
  all_goals have h5 := flag_rd h4
  all_goals generalize e5 : flagR xs a4 w4 = q at *
  all_goals obtain ⟨f, a5, w5⟩ := q
  all_goals try simp only at *
  all_goals first
    | assumption
    | exact fail_rd ‹_›
    | (intros; first | assumption | trivial | (simp_all; done))
    | (exfalso; simp_all; done)
    | (refine ret_keep [0] rfl ⟨?_, ?_⟩ <;> (rw [cellR_fin]; (simp_all [FsLH0, pullD, pullL, keepSt, pullBox, getCellRB, failR, Cell.D, promC, intD, strD, boolD] <;> (repeat' split) <;> (try simp_all)); done))
def kb_rCell (F : FsLH) : FuncId × (List DV → Store → SV) := (26, fun args st => match args with
  | [.ref b ver o] => (match st[b]? with
    | some ⟨t, [.d (.slc 1 xs), .d (.sc (.int .i64 a)), .d (.sc (.int .i64 w))], false, v, true⟩ => (bif (ver == 0) && (o == 0) && (v == 0) && (t == 59) then some ([F.rd xs a w], Cell.D ((F.cell xs a w).1), st.set b (rdB 59 xs (F.cell xs a w).2.1 (F.cell xs a w).2.2)) else none)
    | _ => none)
  | _ => none)
theorem okb_rCell (args : List DV) (st : Store) (cs : List Prop) (r : DV) (st' : Store) (h : (kb_rCell FsLH0).2 args st = some (cs, r, st')) (hc : allP cs True) (K : DV → Store → Prop) (hk : K r st') : FnD Try.prog 26 args st K := by
  unfold kb_rCell at h
  simp only at h
  split at h
  · split at h
    · rename_i hb
      simp only [cond_eq_ite, Bool.and_eq_true, beq_iff_eq, Option.ite_none_right_eq_some] at h
      obtain ⟨⟨⟨⟨rfl, rfl⟩, rfl⟩, rfl⟩, h⟩ := h
      cases h
      exact FnD.one _ (v_rCell _ _ _ hc.1) hb rfl rfl rfl rfl hk
    · cases h
  · cases h
end Go.Proofs.Ytbhapclaochcnaa
namespace Go.Proofs.Ytbhapclaochcnaa
open Go.RowKit
set_option linter.all false
set_option maxHeartbeats 8000000
def restR (xs : List (List PD)) (a w : Int) (k s d : Int) (p : Parts) : Letter × Int × Int :=
  let i1 := bif p.inst then numR xs a w else (0, a, w)
  let i2 := bif p.inst then numR xs i1.2.1 i1.2.2 else (0, i1.2)
  let b := bif p.ballot then getBalX xs i2.2.1 i2.2.2 else (⟨0, 0⟩, i2.2)
  let c := bif p.cmd then getCR xs b.2.1 b.2.2 else (⟨0, 0, 0, none8, none8, none8, none8⟩, b.2)
  let t := bif p.attr then getAR xs c.2.1 c.2.2 else (⟨0, 0, 0, 0, 0, 0, 0, 0⟩, c.2)
  let l := bif p.cell then getCellX xs t.2.1 t.2.2 else (promC 0 0 0, t.2)
  let f0 := bif p.deps then numR xs l.2.1 l.2.2 else (0, l.2)
  let f1 := bif p.deps then numR xs f0.2.1 f0.2.2 else (0, f0.2)
  let f2 := bif p.deps then numR xs f1.2.1 f1.2.2 else (0, f1.2)
  let f3 := bif p.deps then numR xs f2.2.1 f2.2.2 else (0, f2.2)
  let f4 := bif p.deps then numR xs f3.2.1 f3.2.2 else (0, f3.2)
  let f5 := bif p.deps then numR xs f4.2.1 f4.2.2 else (0, f4.2)
  let f6 := bif p.deps then numR xs f5.2.1 f5.2.2 else (0, f5.2)
  let x := bif p.data then textR xs f6.2.1 f6.2.2 16384 else (none8, f6.2)
  (⟨k, s, d, i1.1, i2.1, b.1.epoch, b.1.replica, c.1.kind, c.1.client, c.1.seq, c.1.key, c.1.fin, c.1.old, c.1.val, t.1.seq, t.1.d0, t.1.d1, t.1.d2, t.1.d3, t.1.d4, t.1.d5, t.1.d6, l.1.status, l.1.pe, l.1.pr, l.1.ve, l.1.vr, l.1.ckind, l.1.cclient, l.1.cseq, l.1.ckey, l.1.cfin, l.1.cold, l.1.cval, l.1.aseq, l.1.ad0, l.1.ad1, l.1.ad2, l.1.ad3, l.1.ad4, l.1.ad5, l.1.ad6, l.1.same, f0.1, f1.1, f2.1, f3.1, f4.1, f5.1, f6.1, x.1⟩, x.2)
def getLetR (xs : List (List PD)) : Letter × Int :=
  let k := numR xs 0 0
  let s := numR xs k.2.1 k.2.2
  let d := numR xs s.2.1 s.2.2
  bif (bif decide (d.2.2 = 0) then !(namedP k.1).2 else false) then (zeroL, 4) else
    let r := restR xs d.2.1 d.2.2 k.1 s.1 d.1 (namedP k.1).1
    let e := endR xs r.2.1 r.2.2
    bif !decide (e = 0) then (zeroL, e) else bif !rightL r.1 then (zeroL, 4) else (r.1, 0)
theorem ca_eq {xs : List (List PD)} {a w : Int} : (getAR xs (getCR xs a w).2.1 (getCR xs a w).2.2).2 = (getA xs (getX xs a w).2.1 (getX xs a w).2.2).2 ∧ ((getA xs (getX xs a w).2.1 (getX xs a w).2.2).2.2 = 0 → (getCR xs a w).1 = (getX xs a w).1 ∧ (getAR xs (getCR xs a w).2.1 (getCR xs a w).2.2).1 = (getA xs (getX xs a w).2.1 (getX xs a w).2.2).1) := by
  have c := getCR_eq (xs := xs) (a := a) (w := w)
  rw [c.1]
  have d := getAR_eq (xs := xs) (a := (getX xs a w).2.1) (w := (getX xs a w).2.2)
  refine ⟨d.1, fun h => ⟨c.2 ?_, d.2 h⟩⟩
  by_cases hv : (getX xs a w).2.2 = 0
  · exact hv
  · rw [getA_wrong hv] at h
    exact absurd h hv
theorem restR_eq {xs : List (List PD)} {a w k s d : Int} {p : Parts} (hp : isParts p) : (restR xs a w k s d p).2 = (restL xs a w k s d p).2 ∧ ((restL xs a w k s d p).2.2 = 0 → (restR xs a w k s d p).1 = (restL xs a w k s d p).1) := by
  rcases hp with e | e | e | e | e | e | e | e
  all_goals subst e
  all_goals unfold restR restL
  all_goals simp only [cond_true, cond_false]
  all_goals first
    | exact ⟨trivial, fun _ => trivial⟩
    | exact ⟨rfl, fun _ => rfl⟩
    | skip
  · obtain ⟨q, hq⟩ : ∃ q, getBalX xs (numR xs (numR xs a w).2.1 (numR xs a w).2.2).2.1 (numR xs (numR xs a w).2.1 (numR xs a w).2.2).2.2 = q := ⟨_, rfl⟩
    rw [hq]
    have h := ca_eq (xs := xs) (a := q.2.1) (w := q.2.2)
    exact ⟨h.1, fun hz => by rw [(h.2 hz).1, (h.2 hz).2]⟩
  · obtain ⟨q, hq⟩ : ∃ q, getBalX xs (numR xs (numR xs a w).2.1 (numR xs a w).2.2).2.1 (numR xs (numR xs a w).2.1 (numR xs a w).2.2).2.2 = q := ⟨_, rfl⟩
    rw [hq]
    have h := getAR_eq (xs := xs) (a := q.2.1) (w := q.2.2)
    exact ⟨h.1, fun hz => by rw [h.2 hz]⟩
  · obtain ⟨q, hq⟩ : ∃ q, numR xs (numR xs a w).2.1 (numR xs a w).2.2 = q := ⟨_, rfl⟩
    rw [hq]
    have h := ca_eq (xs := xs) (a := q.2.1) (w := q.2.2)
    exact ⟨h.1, fun hz => by rw [(h.2 hz).1, (h.2 hz).2]⟩
theorem endR_0 {xs : List (List PD)} {a w : Int} (h : endR xs a w = 0) : w = 0 := by
  unfold endR at h
  split at h
  · omega
  · exact h
theorem getLetR_eq (xs : List (List PD)) : getLetR xs = getLet xs := by
  unfold getLetR getLet
  simp only
  have h := restR_eq (xs := xs) (a := (numR xs (numR xs (numR xs 0 0).2.1 (numR xs 0 0).2.2).2.1 (numR xs (numR xs 0 0).2.1 (numR xs 0 0).2.2).2.2).2.1) (w := (numR xs (numR xs (numR xs 0 0).2.1 (numR xs 0 0).2.2).2.1 (numR xs (numR xs 0 0).2.1 (numR xs 0 0).2.2).2.2).2.2) (k := (numR xs 0 0).1) (s := (numR xs (numR xs 0 0).2.1 (numR xs 0 0).2.2).1) (d := (numR xs (numR xs (numR xs 0 0).2.1 (numR xs 0 0).2.2).2.1 (numR xs (numR xs 0 0).2.1 (numR xs 0 0).2.2).2.2).1) (named_parts (numR xs 0 0).1)
  rw [h.1]
  by_cases he : endR xs (restL xs (numR xs (numR xs (numR xs 0 0).2.1 (numR xs 0 0).2.2).2.1 (numR xs (numR xs 0 0).2.1 (numR xs 0 0).2.2).2.2).2.1 (numR xs (numR xs (numR xs 0 0).2.1 (numR xs 0 0).2.2).2.1 (numR xs (numR xs 0 0).2.1 (numR xs 0 0).2.2).2.2).2.2 (numR xs 0 0).1 (numR xs (numR xs 0 0).2.1 (numR xs 0 0).2.2).1 (numR xs (numR xs (numR xs 0 0).2.1 (numR xs 0 0).2.2).2.1 (numR xs (numR xs 0 0).2.1 (numR xs 0 0).2.2).2.2).1 (namedP (numR xs 0 0).1).1).2.1 (restL xs (numR xs (numR xs (numR xs 0 0).2.1 (numR xs 0 0).2.2).2.1 (numR xs (numR xs 0 0).2.1 (numR xs 0 0).2.2).2.2).2.1 (numR xs (numR xs (numR xs 0 0).2.1 (numR xs 0 0).2.2).2.1 (numR xs (numR xs 0 0).2.1 (numR xs 0 0).2.2).2.2).2.2 (numR xs 0 0).1 (numR xs (numR xs 0 0).2.1 (numR xs 0 0).2.2).1 (numR xs (numR xs (numR xs 0 0).2.1 (numR xs 0 0).2.2).2.1 (numR xs (numR xs 0 0).2.1 (numR xs 0 0).2.2).2.2).1 (namedP (numR xs 0 0).1).1).2.2 = 0
  · rw [h.2 (endR_0 he)]
  · simp only [decide_eq_false he, Bool.not_false, cond_true]
theorem rest_wrong {xs : List (List PD)} {a w k s d : Int} {p : Parts} (hp : isParts p) (hw : ¬ w = 0) : (restL xs a w k s d p).2 = (a, w) := by
  rcases hp with e | e | e | e | e | e | e | e
  all_goals subst e
  all_goals unfold restL
  all_goals simp only [cond_true, cond_false, numR_wrong hw, bal_wrong hw, getX_wrong hw, getA_wrong hw, cellX_wrong hw, textR_wrong hw]
theorem endR_wrong {xs : List (List PD)} {a w : Int} (hw : ¬ w = 0) : endR xs a w = w := by
  unfold endR
  rw [if_neg (by omega)]
theorem getLet_wrong {xs : List (List PD)} {k a1 w1 s a2 w2 d a3 w3 : Int} (g1 : numR xs 0 0 = (k, a1, w1)) (g2 : numR xs a1 w1 = (s, a2, w2)) (g3 : numR xs a2 w2 = (d, a3, w3)) (hw : ¬ w3 = 0) : getLet xs = (zeroL, w3) := by
  unfold getLet
  simp only [g1, g2, g3, decide_eq_false hw, cond_false]
  rw [rest_wrong (named_parts k) hw]
  simp only [endR_wrong hw, decide_eq_false hw, Bool.not_false, cond_true]
theorem getLet_kind {xs : List (List PD)} {k a1 w1 s a2 w2 d a3 w3 : Int} (g1 : numR xs 0 0 = (k, a1, w1)) (g2 : numR xs a1 w1 = (s, a2, w2)) (g3 : numR xs a2 w2 = (d, a3, w3)) (hw : w3 = 0) (hk : ¬ (1 ≤ k ∧ k ≤ 11)) : getLet xs = (zeroL, 4) := by
  have hn : (namedP k).2 = false := by
    unfold namedP
    repeat' split
    all_goals first | omega | rfl
  unfold getLet
  simp only [g1, g2, g3, decide_eq_true hw, hn, Bool.not_false, cond_true]
structure FsL7 where
  getLet2 : List (List PD) → Letter × Int
  isB8 : List (List PD) → Prop
def FsL70 : FsL7 where
  getLet2 := getLet
  isB8 := isB8
theorem getCR_wrong {xs : List (List PD)} {a w : Int} (h : ¬ w = 0) : getCR xs a w = (⟨0, 0, 0, none8, none8, none8, none8⟩, a, w) := by
  unfold getCR
  simp only [numR_wrong h, if_neg h]
theorem getAR_wrong {xs : List (List PD)} {a w : Int} (h : ¬ w = 0) : getAR xs a w = (⟨0, 0, 0, 0, 0, 0, 0, 0⟩, a, w) := by
  unfold getAR getN
  simp only [numR_wrong h, if_neg h]
end Go.Proofs.Ytbhapclaochcnaa
namespace Go.Proofs.Ytbhapclaochcnaa
open Go.RowKit
set_option linter.all false
set_option maxHeartbeats 8000000
set_option maxRecDepth 100000 in
theorem v_gl1 (xs : List (List PD)) (hp0 : isB8 xs) {s d a1 w1 a2 w2 a3 : Int} (u1 : numR xs 0 0 = (1, a1, w1)) (u2 : numR xs a1 w1 = (s, a2, w2)) (u3 : numR xs a2 w2 = (d, a3, 0)) : FnV Try.prog 22 [.d (.slc 1 xs)] (.tup [Letter.D (((getLet xs)).1), intD (((getLet xs)).2)]) := by
  obtain ⟨GFsR5, hFsR5⟩ : ∃ F, F = FsR50 := ⟨_, rfl⟩
  obtain ⟨GFsS, hFsS⟩ : ∃ F, F = FsS0 := ⟨_, rfl⟩
  obtain ⟨GFsR, hFsR⟩ : ∃ F, F = FsR0 := ⟨_, rfl⟩
  obtain ⟨GFsLH, hFsLH⟩ : ∃ F, F = FsLH0 := ⟨_, rfl⟩
  have hH : SoundK Try.prog [kn_rightL2 GFsR5] := by subst hFsR5 hFsS hFsR hFsLH; exact orK_ok ok_rightL2 noK_ok
  have hB : SoundB Try.prog [kb_rRead GFsS, kb_rNum GFsR, kb_rText GFsR, kb_rEnd GFsR, kb_rInst GFsLH, kb_rBal GFsLH, kb_rCmd GFsLH, kb_rAttr GFsLH, kb_rCell GFsLH] := by subst hFsR5 hFsS hFsR hFsLH; exact orB_ok okb_rRead (orB_ok okb_rNum (orB_ok okb_rText (orB_ok okb_rEnd (orB_ok okb_rInst (orB_ok okb_rBal (orB_ok okb_rCmd (orB_ok okb_rAttr (orB_ok okb_rCell noB_ok))))))))
  refine FnD_cbv (T := fun _ => tabY [5003] []) (H := fun _ => [kn_rightL2 GFsR5]) (tabY_ok _ _) hH follows_mixed Try.func22 rfl Try.ntmps22 (by simp) fun A X W hA hX hW => ?_
  cbv
  have l0 : A.cmp .lss 0 7 = true := by subst hA; rfl
  cbv at l0
  have l1 : A.cmp .lss 1 7 = true := by subst hA; rfl
  cbv at l1
  have l2 : A.cmp .lss 2 7 = true := by subst hA; rfl
  cbv at l2
  have l3 : A.cmp .lss 3 7 = true := by subst hA; rfl
  cbv at l3
  have l4 : A.cmp .lss 4 7 = true := by subst hA; rfl
  cbv at l4
  have l5 : A.cmp .lss 5 7 = true := by subst hA; rfl
  cbv at l5
  have l6 : A.cmp .lss 6 7 = true := by subst hA; rfl
  cbv at l6
  have l7 : A.cmp .lss 7 7 = false := by subst hA; rfl
  cbv at l7
  have b0 : A.bin .add .i64 0 1 = 1 := by subst hA; rfl
  cbv at b0
  have b1 : A.bin .add .i64 1 1 = 2 := by subst hA; rfl
  cbv at b1
  have b2 : A.bin .add .i64 2 1 = 3 := by subst hA; rfl
  cbv at b2
  have b3 : A.bin .add .i64 3 1 = 4 := by subst hA; rfl
  cbv at b3
  have b4 : A.bin .add .i64 4 1 = 5 := by subst hA; rfl
  cbv at b4
  have b5 : A.bin .add .i64 5 1 = 6 := by subst hA; rfl
  cbv at b5
  have b6 : A.bin .add .i64 6 1 = 7 := by subst hA; rfl
  cbv at b6
  have o0_0 : A.off 0 0 1 = 0 := by subst hA; rfl
  cbv at o0_0
  have o0_1 : A.off 0 1 1 = 1 := by subst hA; rfl
  cbv at o0_1
  have o0_2 : A.off 0 2 1 = 2 := by subst hA; rfl
  cbv at o0_2
  have o0_3 : A.off 0 3 1 = 3 := by subst hA; rfl
  cbv at o0_3
  have o0_4 : A.off 0 4 1 = 4 := by subst hA; rfl
  cbv at o0_4
  have o0_5 : A.off 0 5 1 = 5 := by subst hA; rfl
  cbv at o0_5
  have o0_6 : A.off 0 6 1 = 6 := by subst hA; rfl
  cbv at o0_6
  have z00 : A.cmp .eql 0 0 = true := by subst hA; rfl
  have tff : A.cond true false false = false := by subst hA; rfl
  cbv at z00 tff
  refine callB hX hB ?_
  cbv
  refine And.intro (by subst hFsS; exact hp0) ?_
  have h0 : isRd xs 0 0 := rd0 hp0
  refine callB hX hB ?_
  cbv
  refine And.intro (by subst hFsR; exact h0) ?_
  have e1 : GFsR.num xs 0 0 = (1, a1, w1) := by subst hFsR; exact u1
  have h1 := (num_rd h0).1
  rw [u1] at h1
  cbv at e1
  simp only [e1]
  refine callB hX hB ?_
  cbv
  refine And.intro (by subst hFsR; exact h1) ?_
  have e2 : GFsR.num xs a1 w1 = (s, a2, w2) := by subst hFsR; exact u2
  have h2 := (num_rd h1).1
  rw [u2] at h2
  cbv at e2
  simp only [e2]
  refine callB hX hB ?_
  cbv
  refine And.intro (by subst hFsR; exact h2) ?_
  have e3 : GFsR.num xs a2 w2 = (d, a3, 0) := by subst hFsR; exact u3
  have h3 := (num_rd h2).1
  rw [u3] at h3
  cbv at e3
  simp only [e3]
  have f1 : A.cmp .lss 1 1 = false := by subst hA; rfl
  have f2 : A.cmp .gtr 1 11 = false := by subst hA; rfl
  have f3 : A.cmp .lss 1 9 = true := by subst hA; rfl
  have f4 : A.cmp .neq 1 5 = true := by subst hA; rfl
  have g0 : A.cmp .eql 1 1 = true := by subst hA; rfl
  have g1 : A.cmp .eql 1 3 = false := by subst hA; rfl
  have g2 : A.cmp .eql 1 5 = false := by subst hA; rfl
  have g3 : A.cmp .eql 1 2 = false := by subst hA; rfl
  have g4 : A.cmp .eql 1 7 = false := by subst hA; rfl
  have g5 : A.cmp .eql 1 9 = false := by subst hA; rfl
  have g6 : A.cmp .eql 1 11 = false := by subst hA; rfl
  have g7 : A.cmp .eql 1 10 = false := by subst hA; rfl
  have ftf : A.cond false true false = false := by subst hA; rfl
  have fff : A.cond false false false = false := by subst hA; rfl
  cbv at f1 f2 f3 f4 g0 g1 g2 g3 g4 g5 g6 g7 ftf fff
  repeat' first
    | (simp only [f1, f2, f3, f4, g0, g1, g2, g3, g4, g5, g6, g7, ftf, fff, l0, l1, l2, l3, l4, l5, l6, l7, b0, b1, b2, b3, b4, b5, b6, o0_0, o0_1, o0_2, o0_3, o0_4, o0_5, o0_6, z00, tff]; cbv)
    | (refine part (fun h => ?_) (fun h => ?_) <;> try cbv)
    | (refine And.intro ?_ ?_)
    | ((with_reducible refine callB hX hB ?_) <;> cbv)
  all_goals clear hH hB
  all_goals subst hA hX hW hFsR5 hFsS hFsR hFsLH
  all_goals try simp only [A0, nc, FsR50, FsS0, FsR0, FsLH0, decide_eq_true_eq, decide_eq_false_iff_not, Bool.not_eq_true', Bool.not_eq_false'] at *
  all_goals have y0 := getInst_rd h3
  all_goals generalize z0 : getInstX xs a3 0 = q at *
  all_goals obtain ⟨⟨i1, i2⟩, p0, v0⟩ := q
  all_goals try simp only at *
  all_goals have y1 := getBal_rd y0
  all_goals generalize z1 : getBalX xs p0 v0 = q at *
  all_goals obtain ⟨⟨be, br⟩, p1, v1⟩ := q
  all_goals try simp only at *
  all_goals have y2 := getCR_rd y1
  all_goals generalize z2 : getCR xs p1 v1 = q at *
  all_goals obtain ⟨⟨c0, c1, c2, c3, c4, c5, c6⟩, p2, v2⟩ := q
  all_goals try simp only at *
  all_goals have y3 := getAR_rd y2
  all_goals generalize z3 : getAR xs p2 v2 = q at *
  all_goals obtain ⟨⟨t0, t1, t2, t3, t4, t5, t6, t7⟩, p3, v3⟩ := q
  all_goals try simp only at *
  all_goals first
    | assumption
    | exact ⟨by decide, by decide⟩
    | (simp; done)
    | (intros; first | assumption | trivial | (simp_all; done))
    | (exfalso; simp_all; done)
    | (refine ret_v ?_ rfl
       have hg : getLet xs = (bif !decide (endR xs p3 v3 = 0) then (zeroL, endR xs p3 v3) else bif !rightL (⟨1, s, d, i1, i2, be, br, c0, c1, c2, c3, c4, c5, c6, t0, t1, t2, t3, t4, t5, t6, t7, 0, 0, 0, 0, 0, 0, 0, 0, none8, none8, none8, none8, 0, 0, 0, 0, 0, 0, 0, 0, false, 0, 0, 0, 0, 0, 0, 0, none8⟩ : Letter) then (zeroL, 4) else ((⟨1, s, d, i1, i2, be, br, c0, c1, c2, c3, c4, c5, c6, t0, t1, t2, t3, t4, t5, t6, t7, 0, 0, 0, 0, 0, 0, 0, 0, none8, none8, none8, none8, 0, 0, 0, 0, 0, 0, 0, 0, false, 0, 0, 0, 0, 0, 0, 0, none8⟩ : Letter), 0)) := by
         rw [← getLetR_eq]
         have i9 : numR xs (numR xs a3 0).2.1 (numR xs a3 0).2.2 = (i2, p0, v0) ∧ (numR xs a3 0).1 = i1 := by
           have z9 := z0
           unfold getInstX at z9
           simp only [Prod.mk.injEq, Inst.mk.injEq] at z9
           exact ⟨Prod.ext z9.1.2 z9.2, z9.1.1⟩
         have hP0 : namedP 1 = (⟨true, true, true, true, false, false, false⟩, true) := rfl
         simp only [getLetR, u1, u2, u3, hP0, restR, cond_true, cond_false, decide_true, Bool.not_true, i9.1, i9.2, z1, z2, z3]
         first | done | rfl
       rw [hg]
       first
         | (rw [decide_eq_false h]; rfl)
         | (rename_i h9; rw [decide_eq_true h9, h]; rfl)
         | (rename_i h9; rw [h9, h]; rfl))
set_option maxRecDepth 100000 in
theorem v_gl2 (xs : List (List PD)) (hp0 : isB8 xs) {s d a1 w1 a2 w2 a3 : Int} (u1 : numR xs 0 0 = (2, a1, w1)) (u2 : numR xs a1 w1 = (s, a2, w2)) (u3 : numR xs a2 w2 = (d, a3, 0)) : FnV Try.prog 22 [.d (.slc 1 xs)] (.tup [Letter.D (((getLet xs)).1), intD (((getLet xs)).2)]) := by
  obtain ⟨GFsR5, hFsR5⟩ : ∃ F, F = FsR50 := ⟨_, rfl⟩
  obtain ⟨GFsS, hFsS⟩ : ∃ F, F = FsS0 := ⟨_, rfl⟩
  obtain ⟨GFsR, hFsR⟩ : ∃ F, F = FsR0 := ⟨_, rfl⟩
  obtain ⟨GFsLH, hFsLH⟩ : ∃ F, F = FsLH0 := ⟨_, rfl⟩
  have hH : SoundK Try.prog [kn_rightL2 GFsR5] := by subst hFsR5 hFsS hFsR hFsLH; exact orK_ok ok_rightL2 noK_ok
  have hB : SoundB Try.prog [kb_rRead GFsS, kb_rNum GFsR, kb_rText GFsR, kb_rEnd GFsR, kb_rInst GFsLH, kb_rBal GFsLH, kb_rCmd GFsLH, kb_rAttr GFsLH, kb_rCell GFsLH] := by subst hFsR5 hFsS hFsR hFsLH; exact orB_ok okb_rRead (orB_ok okb_rNum (orB_ok okb_rText (orB_ok okb_rEnd (orB_ok okb_rInst (orB_ok okb_rBal (orB_ok okb_rCmd (orB_ok okb_rAttr (orB_ok okb_rCell noB_ok))))))))
  refine FnD_cbv (T := fun _ => tabY [5003] []) (H := fun _ => [kn_rightL2 GFsR5]) (tabY_ok _ _) hH follows_mixed Try.func22 rfl Try.ntmps22 (by simp) fun A X W hA hX hW => ?_
  cbv
  have l0 : A.cmp .lss 0 7 = true := by subst hA; rfl
  cbv at l0
  have l1 : A.cmp .lss 1 7 = true := by subst hA; rfl
  cbv at l1
  have l2 : A.cmp .lss 2 7 = true := by subst hA; rfl
  cbv at l2
  have l3 : A.cmp .lss 3 7 = true := by subst hA; rfl
  cbv at l3
  have l4 : A.cmp .lss 4 7 = true := by subst hA; rfl
  cbv at l4
  have l5 : A.cmp .lss 5 7 = true := by subst hA; rfl
  cbv at l5
  have l6 : A.cmp .lss 6 7 = true := by subst hA; rfl
  cbv at l6
  have l7 : A.cmp .lss 7 7 = false := by subst hA; rfl
  cbv at l7
  have b0 : A.bin .add .i64 0 1 = 1 := by subst hA; rfl
  cbv at b0
  have b1 : A.bin .add .i64 1 1 = 2 := by subst hA; rfl
  cbv at b1
  have b2 : A.bin .add .i64 2 1 = 3 := by subst hA; rfl
  cbv at b2
  have b3 : A.bin .add .i64 3 1 = 4 := by subst hA; rfl
  cbv at b3
  have b4 : A.bin .add .i64 4 1 = 5 := by subst hA; rfl
  cbv at b4
  have b5 : A.bin .add .i64 5 1 = 6 := by subst hA; rfl
  cbv at b5
  have b6 : A.bin .add .i64 6 1 = 7 := by subst hA; rfl
  cbv at b6
  have o0_0 : A.off 0 0 1 = 0 := by subst hA; rfl
  cbv at o0_0
  have o0_1 : A.off 0 1 1 = 1 := by subst hA; rfl
  cbv at o0_1
  have o0_2 : A.off 0 2 1 = 2 := by subst hA; rfl
  cbv at o0_2
  have o0_3 : A.off 0 3 1 = 3 := by subst hA; rfl
  cbv at o0_3
  have o0_4 : A.off 0 4 1 = 4 := by subst hA; rfl
  cbv at o0_4
  have o0_5 : A.off 0 5 1 = 5 := by subst hA; rfl
  cbv at o0_5
  have o0_6 : A.off 0 6 1 = 6 := by subst hA; rfl
  cbv at o0_6
  have z00 : A.cmp .eql 0 0 = true := by subst hA; rfl
  have tff : A.cond true false false = false := by subst hA; rfl
  cbv at z00 tff
  refine callB hX hB ?_
  cbv
  refine And.intro (by subst hFsS; exact hp0) ?_
  have h0 : isRd xs 0 0 := rd0 hp0
  refine callB hX hB ?_
  cbv
  refine And.intro (by subst hFsR; exact h0) ?_
  have e1 : GFsR.num xs 0 0 = (2, a1, w1) := by subst hFsR; exact u1
  have h1 := (num_rd h0).1
  rw [u1] at h1
  cbv at e1
  simp only [e1]
  refine callB hX hB ?_
  cbv
  refine And.intro (by subst hFsR; exact h1) ?_
  have e2 : GFsR.num xs a1 w1 = (s, a2, w2) := by subst hFsR; exact u2
  have h2 := (num_rd h1).1
  rw [u2] at h2
  cbv at e2
  simp only [e2]
  refine callB hX hB ?_
  cbv
  refine And.intro (by subst hFsR; exact h2) ?_
  have e3 : GFsR.num xs a2 w2 = (d, a3, 0) := by subst hFsR; exact u3
  have h3 := (num_rd h2).1
  rw [u3] at h3
  cbv at e3
  simp only [e3]
  have f1 : A.cmp .lss 2 1 = false := by subst hA; rfl
  have f2 : A.cmp .gtr 2 11 = false := by subst hA; rfl
  have f3 : A.cmp .lss 2 9 = true := by subst hA; rfl
  have f4 : A.cmp .neq 2 5 = true := by subst hA; rfl
  have g0 : A.cmp .eql 2 1 = false := by subst hA; rfl
  have g1 : A.cmp .eql 2 3 = false := by subst hA; rfl
  have g2 : A.cmp .eql 2 5 = false := by subst hA; rfl
  have g3 : A.cmp .eql 2 2 = true := by subst hA; rfl
  have g4 : A.cmp .eql 2 7 = false := by subst hA; rfl
  have g5 : A.cmp .eql 2 9 = false := by subst hA; rfl
  have g6 : A.cmp .eql 2 11 = false := by subst hA; rfl
  have g7 : A.cmp .eql 2 10 = false := by subst hA; rfl
  have ftf : A.cond false true false = false := by subst hA; rfl
  have fff : A.cond false false false = false := by subst hA; rfl
  cbv at f1 f2 f3 f4 g0 g1 g2 g3 g4 g5 g6 g7 ftf fff
  repeat' first
    | (simp only [f1, f2, f3, f4, g0, g1, g2, g3, g4, g5, g6, g7, ftf, fff, l0, l1, l2, l3, l4, l5, l6, l7, b0, b1, b2, b3, b4, b5, b6, o0_0, o0_1, o0_2, o0_3, o0_4, o0_5, o0_6, z00, tff]; cbv)
    | (refine part (fun h => ?_) (fun h => ?_) <;> try cbv)
    | (refine And.intro ?_ ?_)
    | ((with_reducible refine callB hX hB ?_) <;> cbv)
  all_goals clear hH hB
  all_goals subst hA hX hW hFsR5 hFsS hFsR hFsLH
  all_goals try simp only [A0, nc, FsR50, FsS0, FsR0, FsLH0, decide_eq_true_eq, decide_eq_false_iff_not, Bool.not_eq_true', Bool.not_eq_false'] at *
  all_goals have y0 := getInst_rd h3
  all_goals generalize z0 : getInstX xs a3 0 = q at *
  all_goals obtain ⟨⟨i1, i2⟩, p0, v0⟩ := q
  all_goals try simp only at *
  all_goals have y1 := getBal_rd y0
  all_goals generalize z1 : getBalX xs p0 v0 = q at *
  all_goals obtain ⟨⟨be, br⟩, p1, v1⟩ := q
  all_goals try simp only at *
  all_goals have y2 := getAR_rd y1
  all_goals generalize z2 : getAR xs p1 v1 = q at *
  all_goals obtain ⟨⟨t0, t1, t2, t3, t4, t5, t6, t7⟩, p2, v2⟩ := q
  all_goals try simp only at *
  all_goals first
    | assumption
    | exact ⟨by decide, by decide⟩
    | (simp; done)
    | (intros; first | assumption | trivial | (simp_all; done))
    | (exfalso; simp_all; done)
    | (refine ret_v ?_ rfl
       have hg : getLet xs = (bif !decide (endR xs p2 v2 = 0) then (zeroL, endR xs p2 v2) else bif !rightL (⟨2, s, d, i1, i2, be, br, 0, 0, 0, none8, none8, none8, none8, t0, t1, t2, t3, t4, t5, t6, t7, 0, 0, 0, 0, 0, 0, 0, 0, none8, none8, none8, none8, 0, 0, 0, 0, 0, 0, 0, 0, false, 0, 0, 0, 0, 0, 0, 0, none8⟩ : Letter) then (zeroL, 4) else ((⟨2, s, d, i1, i2, be, br, 0, 0, 0, none8, none8, none8, none8, t0, t1, t2, t3, t4, t5, t6, t7, 0, 0, 0, 0, 0, 0, 0, 0, none8, none8, none8, none8, 0, 0, 0, 0, 0, 0, 0, 0, false, 0, 0, 0, 0, 0, 0, 0, none8⟩ : Letter), 0)) := by
         rw [← getLetR_eq]
         have i9 : numR xs (numR xs a3 0).2.1 (numR xs a3 0).2.2 = (i2, p0, v0) ∧ (numR xs a3 0).1 = i1 := by
           have z9 := z0
           unfold getInstX at z9
           simp only [Prod.mk.injEq, Inst.mk.injEq] at z9
           exact ⟨Prod.ext z9.1.2 z9.2, z9.1.1⟩
         have hP0 : namedP 2 = (⟨true, true, false, true, false, false, false⟩, true) := rfl
         simp only [getLetR, u1, u2, u3, hP0, restR, cond_true, cond_false, decide_true, Bool.not_true, i9.1, i9.2, z1, z2]
         first | done | rfl
       rw [hg]
       first
         | (rw [decide_eq_false h]; rfl)
         | (rename_i h9; rw [decide_eq_true h9, h]; rfl)
         | (rename_i h9; rw [h9, h]; rfl))
set_option maxRecDepth 100000 in
theorem v_gl3 (xs : List (List PD)) (hp0 : isB8 xs) {s d a1 w1 a2 w2 a3 : Int} (u1 : numR xs 0 0 = (3, a1, w1)) (u2 : numR xs a1 w1 = (s, a2, w2)) (u3 : numR xs a2 w2 = (d, a3, 0)) : FnV Try.prog 22 [.d (.slc 1 xs)] (.tup [Letter.D (((getLet xs)).1), intD (((getLet xs)).2)]) := by
  obtain ⟨GFsR5, hFsR5⟩ : ∃ F, F = FsR50 := ⟨_, rfl⟩
  obtain ⟨GFsS, hFsS⟩ : ∃ F, F = FsS0 := ⟨_, rfl⟩
  obtain ⟨GFsR, hFsR⟩ : ∃ F, F = FsR0 := ⟨_, rfl⟩
  obtain ⟨GFsLH, hFsLH⟩ : ∃ F, F = FsLH0 := ⟨_, rfl⟩
  have hH : SoundK Try.prog [kn_rightL2 GFsR5] := by subst hFsR5 hFsS hFsR hFsLH; exact orK_ok ok_rightL2 noK_ok
  have hB : SoundB Try.prog [kb_rRead GFsS, kb_rNum GFsR, kb_rText GFsR, kb_rEnd GFsR, kb_rInst GFsLH, kb_rBal GFsLH, kb_rCmd GFsLH, kb_rAttr GFsLH, kb_rCell GFsLH] := by subst hFsR5 hFsS hFsR hFsLH; exact orB_ok okb_rRead (orB_ok okb_rNum (orB_ok okb_rText (orB_ok okb_rEnd (orB_ok okb_rInst (orB_ok okb_rBal (orB_ok okb_rCmd (orB_ok okb_rAttr (orB_ok okb_rCell noB_ok))))))))
  refine FnD_cbv (T := fun _ => tabY [5003] []) (H := fun _ => [kn_rightL2 GFsR5]) (tabY_ok _ _) hH follows_mixed Try.func22 rfl Try.ntmps22 (by simp) fun A X W hA hX hW => ?_
  cbv
  have l0 : A.cmp .lss 0 7 = true := by subst hA; rfl
  cbv at l0
  have l1 : A.cmp .lss 1 7 = true := by subst hA; rfl
  cbv at l1
  have l2 : A.cmp .lss 2 7 = true := by subst hA; rfl
  cbv at l2
  have l3 : A.cmp .lss 3 7 = true := by subst hA; rfl
  cbv at l3
  have l4 : A.cmp .lss 4 7 = true := by subst hA; rfl
  cbv at l4
  have l5 : A.cmp .lss 5 7 = true := by subst hA; rfl
  cbv at l5
  have l6 : A.cmp .lss 6 7 = true := by subst hA; rfl
  cbv at l6
  have l7 : A.cmp .lss 7 7 = false := by subst hA; rfl
  cbv at l7
  have b0 : A.bin .add .i64 0 1 = 1 := by subst hA; rfl
  cbv at b0
  have b1 : A.bin .add .i64 1 1 = 2 := by subst hA; rfl
  cbv at b1
  have b2 : A.bin .add .i64 2 1 = 3 := by subst hA; rfl
  cbv at b2
  have b3 : A.bin .add .i64 3 1 = 4 := by subst hA; rfl
  cbv at b3
  have b4 : A.bin .add .i64 4 1 = 5 := by subst hA; rfl
  cbv at b4
  have b5 : A.bin .add .i64 5 1 = 6 := by subst hA; rfl
  cbv at b5
  have b6 : A.bin .add .i64 6 1 = 7 := by subst hA; rfl
  cbv at b6
  have o0_0 : A.off 0 0 1 = 0 := by subst hA; rfl
  cbv at o0_0
  have o0_1 : A.off 0 1 1 = 1 := by subst hA; rfl
  cbv at o0_1
  have o0_2 : A.off 0 2 1 = 2 := by subst hA; rfl
  cbv at o0_2
  have o0_3 : A.off 0 3 1 = 3 := by subst hA; rfl
  cbv at o0_3
  have o0_4 : A.off 0 4 1 = 4 := by subst hA; rfl
  cbv at o0_4
  have o0_5 : A.off 0 5 1 = 5 := by subst hA; rfl
  cbv at o0_5
  have o0_6 : A.off 0 6 1 = 6 := by subst hA; rfl
  cbv at o0_6
  have z00 : A.cmp .eql 0 0 = true := by subst hA; rfl
  have tff : A.cond true false false = false := by subst hA; rfl
  cbv at z00 tff
  refine callB hX hB ?_
  cbv
  refine And.intro (by subst hFsS; exact hp0) ?_
  have h0 : isRd xs 0 0 := rd0 hp0
  refine callB hX hB ?_
  cbv
  refine And.intro (by subst hFsR; exact h0) ?_
  have e1 : GFsR.num xs 0 0 = (3, a1, w1) := by subst hFsR; exact u1
  have h1 := (num_rd h0).1
  rw [u1] at h1
  cbv at e1
  simp only [e1]
  refine callB hX hB ?_
  cbv
  refine And.intro (by subst hFsR; exact h1) ?_
  have e2 : GFsR.num xs a1 w1 = (s, a2, w2) := by subst hFsR; exact u2
  have h2 := (num_rd h1).1
  rw [u2] at h2
  cbv at e2
  simp only [e2]
  refine callB hX hB ?_
  cbv
  refine And.intro (by subst hFsR; exact h2) ?_
  have e3 : GFsR.num xs a2 w2 = (d, a3, 0) := by subst hFsR; exact u3
  have h3 := (num_rd h2).1
  rw [u3] at h3
  cbv at e3
  simp only [e3]
  have f1 : A.cmp .lss 3 1 = false := by subst hA; rfl
  have f2 : A.cmp .gtr 3 11 = false := by subst hA; rfl
  have f3 : A.cmp .lss 3 9 = true := by subst hA; rfl
  have f4 : A.cmp .neq 3 5 = true := by subst hA; rfl
  have g0 : A.cmp .eql 3 1 = false := by subst hA; rfl
  have g1 : A.cmp .eql 3 3 = true := by subst hA; rfl
  have g2 : A.cmp .eql 3 5 = false := by subst hA; rfl
  have g3 : A.cmp .eql 3 2 = false := by subst hA; rfl
  have g4 : A.cmp .eql 3 7 = false := by subst hA; rfl
  have g5 : A.cmp .eql 3 9 = false := by subst hA; rfl
  have g6 : A.cmp .eql 3 11 = false := by subst hA; rfl
  have g7 : A.cmp .eql 3 10 = false := by subst hA; rfl
  have ftf : A.cond false true false = false := by subst hA; rfl
  have fff : A.cond false false false = false := by subst hA; rfl
  cbv at f1 f2 f3 f4 g0 g1 g2 g3 g4 g5 g6 g7 ftf fff
  repeat' first
    | (simp only [f1, f2, f3, f4, g0, g1, g2, g3, g4, g5, g6, g7, ftf, fff, l0, l1, l2, l3, l4, l5, l6, l7, b0, b1, b2, b3, b4, b5, b6, o0_0, o0_1, o0_2, o0_3, o0_4, o0_5, o0_6, z00, tff]; cbv)
    | (refine part (fun h => ?_) (fun h => ?_) <;> try cbv)
    | (refine And.intro ?_ ?_)
    | ((with_reducible refine callB hX hB ?_) <;> cbv)
  all_goals clear hH hB
  all_goals subst hA hX hW hFsR5 hFsS hFsR hFsLH
  all_goals try simp only [A0, nc, FsR50, FsS0, FsR0, FsLH0, decide_eq_true_eq, decide_eq_false_iff_not, Bool.not_eq_true', Bool.not_eq_false'] at *
  all_goals have y0 := getInst_rd h3
  all_goals generalize z0 : getInstX xs a3 0 = q at *
  all_goals obtain ⟨⟨i1, i2⟩, p0, v0⟩ := q
  all_goals try simp only at *
  all_goals have y1 := getBal_rd y0
  all_goals generalize z1 : getBalX xs p0 v0 = q at *
  all_goals obtain ⟨⟨be, br⟩, p1, v1⟩ := q
  all_goals try simp only at *
  all_goals have y2 := getCR_rd y1
  all_goals generalize z2 : getCR xs p1 v1 = q at *
  all_goals obtain ⟨⟨c0, c1, c2, c3, c4, c5, c6⟩, p2, v2⟩ := q
  all_goals try simp only at *
  all_goals have y3 := getAR_rd y2
  all_goals generalize z3 : getAR xs p2 v2 = q at *
  all_goals obtain ⟨⟨t0, t1, t2, t3, t4, t5, t6, t7⟩, p3, v3⟩ := q
  all_goals try simp only at *
  all_goals first
    | assumption
    | exact ⟨by decide, by decide⟩
    | (simp; done)
    | (intros; first | assumption | trivial | (simp_all; done))
    | (exfalso; simp_all; done)
    | (refine ret_v ?_ rfl
       have hg : getLet xs = (bif !decide (endR xs p3 v3 = 0) then (zeroL, endR xs p3 v3) else bif !rightL (⟨3, s, d, i1, i2, be, br, c0, c1, c2, c3, c4, c5, c6, t0, t1, t2, t3, t4, t5, t6, t7, 0, 0, 0, 0, 0, 0, 0, 0, none8, none8, none8, none8, 0, 0, 0, 0, 0, 0, 0, 0, false, 0, 0, 0, 0, 0, 0, 0, none8⟩ : Letter) then (zeroL, 4) else ((⟨3, s, d, i1, i2, be, br, c0, c1, c2, c3, c4, c5, c6, t0, t1, t2, t3, t4, t5, t6, t7, 0, 0, 0, 0, 0, 0, 0, 0, none8, none8, none8, none8, 0, 0, 0, 0, 0, 0, 0, 0, false, 0, 0, 0, 0, 0, 0, 0, none8⟩ : Letter), 0)) := by
         rw [← getLetR_eq]
         have i9 : numR xs (numR xs a3 0).2.1 (numR xs a3 0).2.2 = (i2, p0, v0) ∧ (numR xs a3 0).1 = i1 := by
           have z9 := z0
           unfold getInstX at z9
           simp only [Prod.mk.injEq, Inst.mk.injEq] at z9
           exact ⟨Prod.ext z9.1.2 z9.2, z9.1.1⟩
         have hP0 : namedP 3 = (⟨true, true, true, true, false, false, false⟩, true) := rfl
         simp only [getLetR, u1, u2, u3, hP0, restR, cond_true, cond_false, decide_true, Bool.not_true, i9.1, i9.2, z1, z2, z3]
         first | done | rfl
       rw [hg]
       first
         | (rw [decide_eq_false h]; rfl)
         | (rename_i h9; rw [decide_eq_true h9, h]; rfl)
         | (rename_i h9; rw [h9, h]; rfl))
set_option maxRecDepth 100000 in
theorem v_gl4 (xs : List (List PD)) (hp0 : isB8 xs) {s d a1 w1 a2 w2 a3 : Int} (u1 : numR xs 0 0 = (4, a1, w1)) (u2 : numR xs a1 w1 = (s, a2, w2)) (u3 : numR xs a2 w2 = (d, a3, 0)) : FnV Try.prog 22 [.d (.slc 1 xs)] (.tup [Letter.D (((getLet xs)).1), intD (((getLet xs)).2)]) := by
  obtain ⟨GFsR5, hFsR5⟩ : ∃ F, F = FsR50 := ⟨_, rfl⟩
  obtain ⟨GFsS, hFsS⟩ : ∃ F, F = FsS0 := ⟨_, rfl⟩
  obtain ⟨GFsR, hFsR⟩ : ∃ F, F = FsR0 := ⟨_, rfl⟩
  obtain ⟨GFsLH, hFsLH⟩ : ∃ F, F = FsLH0 := ⟨_, rfl⟩
  have hH : SoundK Try.prog [kn_rightL2 GFsR5] := by subst hFsR5 hFsS hFsR hFsLH; exact orK_ok ok_rightL2 noK_ok
  have hB : SoundB Try.prog [kb_rRead GFsS, kb_rNum GFsR, kb_rText GFsR, kb_rEnd GFsR, kb_rInst GFsLH, kb_rBal GFsLH, kb_rCmd GFsLH, kb_rAttr GFsLH, kb_rCell GFsLH] := by subst hFsR5 hFsS hFsR hFsLH; exact orB_ok okb_rRead (orB_ok okb_rNum (orB_ok okb_rText (orB_ok okb_rEnd (orB_ok okb_rInst (orB_ok okb_rBal (orB_ok okb_rCmd (orB_ok okb_rAttr (orB_ok okb_rCell noB_ok))))))))
  refine FnD_cbv (T := fun _ => tabY [5003] []) (H := fun _ => [kn_rightL2 GFsR5]) (tabY_ok _ _) hH follows_mixed Try.func22 rfl Try.ntmps22 (by simp) fun A X W hA hX hW => ?_
  cbv
  have l0 : A.cmp .lss 0 7 = true := by subst hA; rfl
  cbv at l0
  have l1 : A.cmp .lss 1 7 = true := by subst hA; rfl
  cbv at l1
  have l2 : A.cmp .lss 2 7 = true := by subst hA; rfl
  cbv at l2
  have l3 : A.cmp .lss 3 7 = true := by subst hA; rfl
  cbv at l3
  have l4 : A.cmp .lss 4 7 = true := by subst hA; rfl
  cbv at l4
  have l5 : A.cmp .lss 5 7 = true := by subst hA; rfl
  cbv at l5
  have l6 : A.cmp .lss 6 7 = true := by subst hA; rfl
  cbv at l6
  have l7 : A.cmp .lss 7 7 = false := by subst hA; rfl
  cbv at l7
  have b0 : A.bin .add .i64 0 1 = 1 := by subst hA; rfl
  cbv at b0
  have b1 : A.bin .add .i64 1 1 = 2 := by subst hA; rfl
  cbv at b1
  have b2 : A.bin .add .i64 2 1 = 3 := by subst hA; rfl
  cbv at b2
  have b3 : A.bin .add .i64 3 1 = 4 := by subst hA; rfl
  cbv at b3
  have b4 : A.bin .add .i64 4 1 = 5 := by subst hA; rfl
  cbv at b4
  have b5 : A.bin .add .i64 5 1 = 6 := by subst hA; rfl
  cbv at b5
  have b6 : A.bin .add .i64 6 1 = 7 := by subst hA; rfl
  cbv at b6
  have o0_0 : A.off 0 0 1 = 0 := by subst hA; rfl
  cbv at o0_0
  have o0_1 : A.off 0 1 1 = 1 := by subst hA; rfl
  cbv at o0_1
  have o0_2 : A.off 0 2 1 = 2 := by subst hA; rfl
  cbv at o0_2
  have o0_3 : A.off 0 3 1 = 3 := by subst hA; rfl
  cbv at o0_3
  have o0_4 : A.off 0 4 1 = 4 := by subst hA; rfl
  cbv at o0_4
  have o0_5 : A.off 0 5 1 = 5 := by subst hA; rfl
  cbv at o0_5
  have o0_6 : A.off 0 6 1 = 6 := by subst hA; rfl
  cbv at o0_6
  have z00 : A.cmp .eql 0 0 = true := by subst hA; rfl
  have tff : A.cond true false false = false := by subst hA; rfl
  cbv at z00 tff
  refine callB hX hB ?_
  cbv
  refine And.intro (by subst hFsS; exact hp0) ?_
  have h0 : isRd xs 0 0 := rd0 hp0
  refine callB hX hB ?_
  cbv
  refine And.intro (by subst hFsR; exact h0) ?_
  have e1 : GFsR.num xs 0 0 = (4, a1, w1) := by subst hFsR; exact u1
  have h1 := (num_rd h0).1
  rw [u1] at h1
  cbv at e1
  simp only [e1]
  refine callB hX hB ?_
  cbv
  refine And.intro (by subst hFsR; exact h1) ?_
  have e2 : GFsR.num xs a1 w1 = (s, a2, w2) := by subst hFsR; exact u2
  have h2 := (num_rd h1).1
  rw [u2] at h2
  cbv at e2
  simp only [e2]
  refine callB hX hB ?_
  cbv
  refine And.intro (by subst hFsR; exact h2) ?_
  have e3 : GFsR.num xs a2 w2 = (d, a3, 0) := by subst hFsR; exact u3
  have h3 := (num_rd h2).1
  rw [u3] at h3
  cbv at e3
  simp only [e3]
  have f1 : A.cmp .lss 4 1 = false := by subst hA; rfl
  have f2 : A.cmp .gtr 4 11 = false := by subst hA; rfl
  have f3 : A.cmp .lss 4 9 = true := by subst hA; rfl
  have f4 : A.cmp .neq 4 5 = true := by subst hA; rfl
  have g0 : A.cmp .eql 4 1 = false := by subst hA; rfl
  have g1 : A.cmp .eql 4 3 = false := by subst hA; rfl
  have g2 : A.cmp .eql 4 5 = false := by subst hA; rfl
  have g3 : A.cmp .eql 4 2 = false := by subst hA; rfl
  have g4 : A.cmp .eql 4 7 = false := by subst hA; rfl
  have g5 : A.cmp .eql 4 9 = false := by subst hA; rfl
  have g6 : A.cmp .eql 4 11 = false := by subst hA; rfl
  have g7 : A.cmp .eql 4 10 = false := by subst hA; rfl
  have ftf : A.cond false true false = false := by subst hA; rfl
  have fff : A.cond false false false = false := by subst hA; rfl
  cbv at f1 f2 f3 f4 g0 g1 g2 g3 g4 g5 g6 g7 ftf fff
  repeat' first
    | (simp only [f1, f2, f3, f4, g0, g1, g2, g3, g4, g5, g6, g7, ftf, fff, l0, l1, l2, l3, l4, l5, l6, l7, b0, b1, b2, b3, b4, b5, b6, o0_0, o0_1, o0_2, o0_3, o0_4, o0_5, o0_6, z00, tff]; cbv)
    | (refine part (fun h => ?_) (fun h => ?_) <;> try cbv)
    | (refine And.intro ?_ ?_)
    | ((with_reducible refine callB hX hB ?_) <;> cbv)
  all_goals clear hH hB
  all_goals subst hA hX hW hFsR5 hFsS hFsR hFsLH
  all_goals try simp only [A0, nc, FsR50, FsS0, FsR0, FsLH0, decide_eq_true_eq, decide_eq_false_iff_not, Bool.not_eq_true', Bool.not_eq_false'] at *
  all_goals have y0 := getInst_rd h3
  all_goals generalize z0 : getInstX xs a3 0 = q at *
  all_goals obtain ⟨⟨i1, i2⟩, p0, v0⟩ := q
  all_goals try simp only at *
  all_goals have y1 := getBal_rd y0
  all_goals generalize z1 : getBalX xs p0 v0 = q at *
  all_goals obtain ⟨⟨be, br⟩, p1, v1⟩ := q
  all_goals try simp only at *
  all_goals first
    | assumption
    | exact ⟨by decide, by decide⟩
    | (simp; done)
    | (intros; first | assumption | trivial | (simp_all; done))
    | (exfalso; simp_all; done)
    | (refine ret_v ?_ rfl
       have hg : getLet xs = (bif !decide (endR xs p1 v1 = 0) then (zeroL, endR xs p1 v1) else bif !rightL (⟨4, s, d, i1, i2, be, br, 0, 0, 0, none8, none8, none8, none8, 0, 0, 0, 0, 0, 0, 0, 0, 0, 0, 0, 0, 0, 0, 0, 0, none8, none8, none8, none8, 0, 0, 0, 0, 0, 0, 0, 0, false, 0, 0, 0, 0, 0, 0, 0, none8⟩ : Letter) then (zeroL, 4) else ((⟨4, s, d, i1, i2, be, br, 0, 0, 0, none8, none8, none8, none8, 0, 0, 0, 0, 0, 0, 0, 0, 0, 0, 0, 0, 0, 0, 0, 0, none8, none8, none8, none8, 0, 0, 0, 0, 0, 0, 0, 0, false, 0, 0, 0, 0, 0, 0, 0, none8⟩ : Letter), 0)) := by
         rw [← getLetR_eq]
         have i9 : numR xs (numR xs a3 0).2.1 (numR xs a3 0).2.2 = (i2, p0, v0) ∧ (numR xs a3 0).1 = i1 := by
           have z9 := z0
           unfold getInstX at z9
           simp only [Prod.mk.injEq, Inst.mk.injEq] at z9
           exact ⟨Prod.ext z9.1.2 z9.2, z9.1.1⟩
         have hP0 : namedP 4 = (⟨true, true, false, false, false, false, false⟩, true) := rfl
         simp only [getLetR, u1, u2, u3, hP0, restR, cond_true, cond_false, decide_true, Bool.not_true, i9.1, i9.2, z1]
         first | done | rfl
       rw [hg]
       first
         | (rw [decide_eq_false h]; rfl)
         | (rename_i h9; rw [decide_eq_true h9, h]; rfl)
         | (rename_i h9; rw [h9, h]; rfl))
end Go.Proofs.Ytbhapclaochcnaa
namespace Go.Proofs.Ytbhapclaochcnaa
open Go.RowKit
set_option linter.all false
set_option maxHeartbeats 8000000
set_option maxRecDepth 100000 in
theorem v_gl5 (xs : List (List PD)) (hp0 : isB8 xs) {s d a1 w1 a2 w2 a3 : Int} (u1 : numR xs 0 0 = (5, a1, w1)) (u2 : numR xs a1 w1 = (s, a2, w2)) (u3 : numR xs a2 w2 = (d, a3, 0)) : FnV Try.prog 22 [.d (.slc 1 xs)] (.tup [Letter.D (((getLet xs)).1), intD (((getLet xs)).2)]) := by
  obtain ⟨GFsR5, hFsR5⟩ : ∃ F, F = FsR50 := ⟨_, rfl⟩
  obtain ⟨GFsS, hFsS⟩ : ∃ F, F = FsS0 := ⟨_, rfl⟩
  obtain ⟨GFsR, hFsR⟩ : ∃ F, F = FsR0 := ⟨_, rfl⟩
  obtain ⟨GFsLH, hFsLH⟩ : ∃ F, F = FsLH0 := ⟨_, rfl⟩
  have hH : SoundK Try.prog [kn_rightL2 GFsR5] := by subst hFsR5 hFsS hFsR hFsLH; exact orK_ok ok_rightL2 noK_ok
  have hB : SoundB Try.prog [kb_rRead GFsS, kb_rNum GFsR, kb_rText GFsR, kb_rEnd GFsR, kb_rInst GFsLH, kb_rBal GFsLH, kb_rCmd GFsLH, kb_rAttr GFsLH, kb_rCell GFsLH] := by subst hFsR5 hFsS hFsR hFsLH; exact orB_ok okb_rRead (orB_ok okb_rNum (orB_ok okb_rText (orB_ok okb_rEnd (orB_ok okb_rInst (orB_ok okb_rBal (orB_ok okb_rCmd (orB_ok okb_rAttr (orB_ok okb_rCell noB_ok))))))))
  refine FnD_cbv (T := fun _ => tabY [5003] []) (H := fun _ => [kn_rightL2 GFsR5]) (tabY_ok _ _) hH follows_mixed Try.func22 rfl Try.ntmps22 (by simp) fun A X W hA hX hW => ?_
  cbv
  have l0 : A.cmp .lss 0 7 = true := by subst hA; rfl
  cbv at l0
  have l1 : A.cmp .lss 1 7 = true := by subst hA; rfl
  cbv at l1
  have l2 : A.cmp .lss 2 7 = true := by subst hA; rfl
  cbv at l2
  have l3 : A.cmp .lss 3 7 = true := by subst hA; rfl
  cbv at l3
  have l4 : A.cmp .lss 4 7 = true := by subst hA; rfl
  cbv at l4
  have l5 : A.cmp .lss 5 7 = true := by subst hA; rfl
  cbv at l5
  have l6 : A.cmp .lss 6 7 = true := by subst hA; rfl
  cbv at l6
  have l7 : A.cmp .lss 7 7 = false := by subst hA; rfl
  cbv at l7
  have b0 : A.bin .add .i64 0 1 = 1 := by subst hA; rfl
  cbv at b0
  have b1 : A.bin .add .i64 1 1 = 2 := by subst hA; rfl
  cbv at b1
  have b2 : A.bin .add .i64 2 1 = 3 := by subst hA; rfl
  cbv at b2
  have b3 : A.bin .add .i64 3 1 = 4 := by subst hA; rfl
  cbv at b3
  have b4 : A.bin .add .i64 4 1 = 5 := by subst hA; rfl
  cbv at b4
  have b5 : A.bin .add .i64 5 1 = 6 := by subst hA; rfl
  cbv at b5
  have b6 : A.bin .add .i64 6 1 = 7 := by subst hA; rfl
  cbv at b6
  have o0_0 : A.off 0 0 1 = 0 := by subst hA; rfl
  cbv at o0_0
  have o0_1 : A.off 0 1 1 = 1 := by subst hA; rfl
  cbv at o0_1
  have o0_2 : A.off 0 2 1 = 2 := by subst hA; rfl
  cbv at o0_2
  have o0_3 : A.off 0 3 1 = 3 := by subst hA; rfl
  cbv at o0_3
  have o0_4 : A.off 0 4 1 = 4 := by subst hA; rfl
  cbv at o0_4
  have o0_5 : A.off 0 5 1 = 5 := by subst hA; rfl
  cbv at o0_5
  have o0_6 : A.off 0 6 1 = 6 := by subst hA; rfl
  cbv at o0_6
  have z00 : A.cmp .eql 0 0 = true := by subst hA; rfl
  have tff : A.cond true false false = false := by subst hA; rfl
  cbv at z00 tff
  refine callB hX hB ?_
  cbv
  refine And.intro (by subst hFsS; exact hp0) ?_
  have h0 : isRd xs 0 0 := rd0 hp0
  refine callB hX hB ?_
  cbv
  refine And.intro (by subst hFsR; exact h0) ?_
  have e1 : GFsR.num xs 0 0 = (5, a1, w1) := by subst hFsR; exact u1
  have h1 := (num_rd h0).1
  rw [u1] at h1
  cbv at e1
  simp only [e1]
  refine callB hX hB ?_
  cbv
  refine And.intro (by subst hFsR; exact h1) ?_
  have e2 : GFsR.num xs a1 w1 = (s, a2, w2) := by subst hFsR; exact u2
  have h2 := (num_rd h1).1
  rw [u2] at h2
  cbv at e2
  simp only [e2]
  refine callB hX hB ?_
  cbv
  refine And.intro (by subst hFsR; exact h2) ?_
  have e3 : GFsR.num xs a2 w2 = (d, a3, 0) := by subst hFsR; exact u3
  have h3 := (num_rd h2).1
  rw [u3] at h3
  cbv at e3
  simp only [e3]
  have f1 : A.cmp .lss 5 1 = false := by subst hA; rfl
  have f2 : A.cmp .gtr 5 11 = false := by subst hA; rfl
  have f3 : A.cmp .lss 5 9 = true := by subst hA; rfl
  have f4 : A.cmp .neq 5 5 = false := by subst hA; rfl
  have g0 : A.cmp .eql 5 1 = false := by subst hA; rfl
  have g1 : A.cmp .eql 5 3 = false := by subst hA; rfl
  have g2 : A.cmp .eql 5 5 = true := by subst hA; rfl
  have g3 : A.cmp .eql 5 2 = false := by subst hA; rfl
  have g4 : A.cmp .eql 5 7 = false := by subst hA; rfl
  have g5 : A.cmp .eql 5 9 = false := by subst hA; rfl
  have g6 : A.cmp .eql 5 11 = false := by subst hA; rfl
  have g7 : A.cmp .eql 5 10 = false := by subst hA; rfl
  have ftf : A.cond false true false = false := by subst hA; rfl
  have fff : A.cond false false false = false := by subst hA; rfl
  cbv at f1 f2 f3 f4 g0 g1 g2 g3 g4 g5 g6 g7 ftf fff
  repeat' first
    | (simp only [f1, f2, f3, f4, g0, g1, g2, g3, g4, g5, g6, g7, ftf, fff, l0, l1, l2, l3, l4, l5, l6, l7, b0, b1, b2, b3, b4, b5, b6, o0_0, o0_1, o0_2, o0_3, o0_4, o0_5, o0_6, z00, tff]; cbv)
    | (refine part (fun h => ?_) (fun h => ?_) <;> try cbv)
    | (refine And.intro ?_ ?_)
    | ((with_reducible refine callB hX hB ?_) <;> cbv)
  all_goals clear hH hB
  all_goals subst hA hX hW hFsR5 hFsS hFsR hFsLH
  all_goals try simp only [A0, nc, FsR50, FsS0, FsR0, FsLH0, decide_eq_true_eq, decide_eq_false_iff_not, Bool.not_eq_true', Bool.not_eq_false'] at *
  all_goals have y0 := getInst_rd h3
  all_goals generalize z0 : getInstX xs a3 0 = q at *
  all_goals obtain ⟨⟨i1, i2⟩, p0, v0⟩ := q
  all_goals try simp only at *
  all_goals have y1 := getCR_rd y0
  all_goals generalize z1 : getCR xs p0 v0 = q at *
  all_goals obtain ⟨⟨c0, c1, c2, c3, c4, c5, c6⟩, p1, v1⟩ := q
  all_goals try simp only at *
  all_goals have y2 := getAR_rd y1
  all_goals generalize z2 : getAR xs p1 v1 = q at *
  all_goals obtain ⟨⟨t0, t1, t2, t3, t4, t5, t6, t7⟩, p2, v2⟩ := q
  all_goals try simp only at *
  all_goals first
    | assumption
    | exact ⟨by decide, by decide⟩
    | (simp; done)
    | (intros; first | assumption | trivial | (simp_all; done))
    | (exfalso; simp_all; done)
    | (refine ret_v ?_ rfl
       have hg : getLet xs = (bif !decide (endR xs p2 v2 = 0) then (zeroL, endR xs p2 v2) else bif !rightL (⟨5, s, d, i1, i2, 0, 0, c0, c1, c2, c3, c4, c5, c6, t0, t1, t2, t3, t4, t5, t6, t7, 0, 0, 0, 0, 0, 0, 0, 0, none8, none8, none8, none8, 0, 0, 0, 0, 0, 0, 0, 0, false, 0, 0, 0, 0, 0, 0, 0, none8⟩ : Letter) then (zeroL, 4) else ((⟨5, s, d, i1, i2, 0, 0, c0, c1, c2, c3, c4, c5, c6, t0, t1, t2, t3, t4, t5, t6, t7, 0, 0, 0, 0, 0, 0, 0, 0, none8, none8, none8, none8, 0, 0, 0, 0, 0, 0, 0, 0, false, 0, 0, 0, 0, 0, 0, 0, none8⟩ : Letter), 0)) := by
         rw [← getLetR_eq]
         have i9 : numR xs (numR xs a3 0).2.1 (numR xs a3 0).2.2 = (i2, p0, v0) ∧ (numR xs a3 0).1 = i1 := by
           have z9 := z0
           unfold getInstX at z9
           simp only [Prod.mk.injEq, Inst.mk.injEq] at z9
           exact ⟨Prod.ext z9.1.2 z9.2, z9.1.1⟩
         have hP0 : namedP 5 = (⟨true, false, true, true, false, false, false⟩, true) := rfl
         simp only [getLetR, u1, u2, u3, hP0, restR, cond_true, cond_false, decide_true, Bool.not_true, i9.1, i9.2, z1, z2]
         first | done | rfl
       rw [hg]
       first
         | (rw [decide_eq_false h]; rfl)
         | (rename_i h9; rw [decide_eq_true h9, h]; rfl)
         | (rename_i h9; rw [h9, h]; rfl))
set_option maxRecDepth 100000 in
theorem v_gl6 (xs : List (List PD)) (hp0 : isB8 xs) {s d a1 w1 a2 w2 a3 : Int} (u1 : numR xs 0 0 = (6, a1, w1)) (u2 : numR xs a1 w1 = (s, a2, w2)) (u3 : numR xs a2 w2 = (d, a3, 0)) : FnV Try.prog 22 [.d (.slc 1 xs)] (.tup [Letter.D (((getLet xs)).1), intD (((getLet xs)).2)]) := by
  obtain ⟨GFsR5, hFsR5⟩ : ∃ F, F = FsR50 := ⟨_, rfl⟩
  obtain ⟨GFsS, hFsS⟩ : ∃ F, F = FsS0 := ⟨_, rfl⟩
  obtain ⟨GFsR, hFsR⟩ : ∃ F, F = FsR0 := ⟨_, rfl⟩
  obtain ⟨GFsLH, hFsLH⟩ : ∃ F, F = FsLH0 := ⟨_, rfl⟩
  have hH : SoundK Try.prog [kn_rightL2 GFsR5] := by subst hFsR5 hFsS hFsR hFsLH; exact orK_ok ok_rightL2 noK_ok
  have hB : SoundB Try.prog [kb_rRead GFsS, kb_rNum GFsR, kb_rText GFsR, kb_rEnd GFsR, kb_rInst GFsLH, kb_rBal GFsLH, kb_rCmd GFsLH, kb_rAttr GFsLH, kb_rCell GFsLH] := by subst hFsR5 hFsS hFsR hFsLH; exact orB_ok okb_rRead (orB_ok okb_rNum (orB_ok okb_rText (orB_ok okb_rEnd (orB_ok okb_rInst (orB_ok okb_rBal (orB_ok okb_rCmd (orB_ok okb_rAttr (orB_ok okb_rCell noB_ok))))))))
  refine FnD_cbv (T := fun _ => tabY [5003] []) (H := fun _ => [kn_rightL2 GFsR5]) (tabY_ok _ _) hH follows_mixed Try.func22 rfl Try.ntmps22 (by simp) fun A X W hA hX hW => ?_
  cbv
  have l0 : A.cmp .lss 0 7 = true := by subst hA; rfl
  cbv at l0
  have l1 : A.cmp .lss 1 7 = true := by subst hA; rfl
  cbv at l1
  have l2 : A.cmp .lss 2 7 = true := by subst hA; rfl
  cbv at l2
  have l3 : A.cmp .lss 3 7 = true := by subst hA; rfl
  cbv at l3
  have l4 : A.cmp .lss 4 7 = true := by subst hA; rfl
  cbv at l4
  have l5 : A.cmp .lss 5 7 = true := by subst hA; rfl
  cbv at l5
  have l6 : A.cmp .lss 6 7 = true := by subst hA; rfl
  cbv at l6
  have l7 : A.cmp .lss 7 7 = false := by subst hA; rfl
  cbv at l7
  have b0 : A.bin .add .i64 0 1 = 1 := by subst hA; rfl
  cbv at b0
  have b1 : A.bin .add .i64 1 1 = 2 := by subst hA; rfl
  cbv at b1
  have b2 : A.bin .add .i64 2 1 = 3 := by subst hA; rfl
  cbv at b2
  have b3 : A.bin .add .i64 3 1 = 4 := by subst hA; rfl
  cbv at b3
  have b4 : A.bin .add .i64 4 1 = 5 := by subst hA; rfl
  cbv at b4
  have b5 : A.bin .add .i64 5 1 = 6 := by subst hA; rfl
  cbv at b5
  have b6 : A.bin .add .i64 6 1 = 7 := by subst hA; rfl
  cbv at b6
  have o0_0 : A.off 0 0 1 = 0 := by subst hA; rfl
  cbv at o0_0
  have o0_1 : A.off 0 1 1 = 1 := by subst hA; rfl
  cbv at o0_1
  have o0_2 : A.off 0 2 1 = 2 := by subst hA; rfl
  cbv at o0_2
  have o0_3 : A.off 0 3 1 = 3 := by subst hA; rfl
  cbv at o0_3
  have o0_4 : A.off 0 4 1 = 4 := by subst hA; rfl
  cbv at o0_4
  have o0_5 : A.off 0 5 1 = 5 := by subst hA; rfl
  cbv at o0_5
  have o0_6 : A.off 0 6 1 = 6 := by subst hA; rfl
  cbv at o0_6
  have z00 : A.cmp .eql 0 0 = true := by subst hA; rfl
  have tff : A.cond true false false = false := by subst hA; rfl
  cbv at z00 tff
  refine callB hX hB ?_
  cbv
  refine And.intro (by subst hFsS; exact hp0) ?_
  have h0 : isRd xs 0 0 := rd0 hp0
  refine callB hX hB ?_
  cbv
  refine And.intro (by subst hFsR; exact h0) ?_
  have e1 : GFsR.num xs 0 0 = (6, a1, w1) := by subst hFsR; exact u1
  have h1 := (num_rd h0).1
  rw [u1] at h1
  cbv at e1
  simp only [e1]
  refine callB hX hB ?_
  cbv
  refine And.intro (by subst hFsR; exact h1) ?_
  have e2 : GFsR.num xs a1 w1 = (s, a2, w2) := by subst hFsR; exact u2
  have h2 := (num_rd h1).1
  rw [u2] at h2
  cbv at e2
  simp only [e2]
  refine callB hX hB ?_
  cbv
  refine And.intro (by subst hFsR; exact h2) ?_
  have e3 : GFsR.num xs a2 w2 = (d, a3, 0) := by subst hFsR; exact u3
  have h3 := (num_rd h2).1
  rw [u3] at h3
  cbv at e3
  simp only [e3]
  have f1 : A.cmp .lss 6 1 = false := by subst hA; rfl
  have f2 : A.cmp .gtr 6 11 = false := by subst hA; rfl
  have f3 : A.cmp .lss 6 9 = true := by subst hA; rfl
  have f4 : A.cmp .neq 6 5 = true := by subst hA; rfl
  have g0 : A.cmp .eql 6 1 = false := by subst hA; rfl
  have g1 : A.cmp .eql 6 3 = false := by subst hA; rfl
  have g2 : A.cmp .eql 6 5 = false := by subst hA; rfl
  have g3 : A.cmp .eql 6 2 = false := by subst hA; rfl
  have g4 : A.cmp .eql 6 7 = false := by subst hA; rfl
  have g5 : A.cmp .eql 6 9 = false := by subst hA; rfl
  have g6 : A.cmp .eql 6 11 = false := by subst hA; rfl
  have g7 : A.cmp .eql 6 10 = false := by subst hA; rfl
  have ftf : A.cond false true false = false := by subst hA; rfl
  have fff : A.cond false false false = false := by subst hA; rfl
  cbv at f1 f2 f3 f4 g0 g1 g2 g3 g4 g5 g6 g7 ftf fff
  repeat' first
    | (simp only [f1, f2, f3, f4, g0, g1, g2, g3, g4, g5, g6, g7, ftf, fff, l0, l1, l2, l3, l4, l5, l6, l7, b0, b1, b2, b3, b4, b5, b6, o0_0, o0_1, o0_2, o0_3, o0_4, o0_5, o0_6, z00, tff]; cbv)
    | (refine part (fun h => ?_) (fun h => ?_) <;> try cbv)
    | (refine And.intro ?_ ?_)
    | ((with_reducible refine callB hX hB ?_) <;> cbv)
  all_goals clear hH hB
  all_goals subst hA hX hW hFsR5 hFsS hFsR hFsLH
  all_goals try simp only [A0, nc, FsR50, FsS0, FsR0, FsLH0, decide_eq_true_eq, decide_eq_false_iff_not, Bool.not_eq_true', Bool.not_eq_false'] at *
  all_goals have y0 := getInst_rd h3
  all_goals generalize z0 : getInstX xs a3 0 = q at *
  all_goals obtain ⟨⟨i1, i2⟩, p0, v0⟩ := q
  all_goals try simp only at *
  all_goals have y1 := getBal_rd y0
  all_goals generalize z1 : getBalX xs p0 v0 = q at *
  all_goals obtain ⟨⟨be, br⟩, p1, v1⟩ := q
  all_goals try simp only at *
  all_goals first
    | assumption
    | exact ⟨by decide, by decide⟩
    | (simp; done)
    | (intros; first | assumption | trivial | (simp_all; done))
    | (exfalso; simp_all; done)
    | (refine ret_v ?_ rfl
       have hg : getLet xs = (bif !decide (endR xs p1 v1 = 0) then (zeroL, endR xs p1 v1) else bif !rightL (⟨6, s, d, i1, i2, be, br, 0, 0, 0, none8, none8, none8, none8, 0, 0, 0, 0, 0, 0, 0, 0, 0, 0, 0, 0, 0, 0, 0, 0, none8, none8, none8, none8, 0, 0, 0, 0, 0, 0, 0, 0, false, 0, 0, 0, 0, 0, 0, 0, none8⟩ : Letter) then (zeroL, 4) else ((⟨6, s, d, i1, i2, be, br, 0, 0, 0, none8, none8, none8, none8, 0, 0, 0, 0, 0, 0, 0, 0, 0, 0, 0, 0, 0, 0, 0, 0, none8, none8, none8, none8, 0, 0, 0, 0, 0, 0, 0, 0, false, 0, 0, 0, 0, 0, 0, 0, none8⟩ : Letter), 0)) := by
         rw [← getLetR_eq]
         have i9 : numR xs (numR xs a3 0).2.1 (numR xs a3 0).2.2 = (i2, p0, v0) ∧ (numR xs a3 0).1 = i1 := by
           have z9 := z0
           unfold getInstX at z9
           simp only [Prod.mk.injEq, Inst.mk.injEq] at z9
           exact ⟨Prod.ext z9.1.2 z9.2, z9.1.1⟩
         have hP0 : namedP 6 = (⟨true, true, false, false, false, false, false⟩, true) := rfl
         simp only [getLetR, u1, u2, u3, hP0, restR, cond_true, cond_false, decide_true, Bool.not_true, i9.1, i9.2, z1]
         first | done | rfl
       rw [hg]
       first
         | (rw [decide_eq_false h]; rfl)
         | (rename_i h9; rw [decide_eq_true h9, h]; rfl)
         | (rename_i h9; rw [h9, h]; rfl))
set_option maxRecDepth 100000 in
theorem v_gl7 (xs : List (List PD)) (hp0 : isB8 xs) {s d a1 w1 a2 w2 a3 : Int} (u1 : numR xs 0 0 = (7, a1, w1)) (u2 : numR xs a1 w1 = (s, a2, w2)) (u3 : numR xs a2 w2 = (d, a3, 0)) : FnV Try.prog 22 [.d (.slc 1 xs)] (.tup [Letter.D (((getLet xs)).1), intD (((getLet xs)).2)]) := by
  obtain ⟨GFsR5, hFsR5⟩ : ∃ F, F = FsR50 := ⟨_, rfl⟩
  obtain ⟨GFsS, hFsS⟩ : ∃ F, F = FsS0 := ⟨_, rfl⟩
  obtain ⟨GFsR, hFsR⟩ : ∃ F, F = FsR0 := ⟨_, rfl⟩
  obtain ⟨GFsLH, hFsLH⟩ : ∃ F, F = FsLH0 := ⟨_, rfl⟩
  have hH : SoundK Try.prog [kn_rightL2 GFsR5] := by subst hFsR5 hFsS hFsR hFsLH; exact orK_ok ok_rightL2 noK_ok
  have hB : SoundB Try.prog [kb_rRead GFsS, kb_rNum GFsR, kb_rText GFsR, kb_rEnd GFsR, kb_rInst GFsLH, kb_rBal GFsLH, kb_rCmd GFsLH, kb_rAttr GFsLH, kb_rCell GFsLH] := by subst hFsR5 hFsS hFsR hFsLH; exact orB_ok okb_rRead (orB_ok okb_rNum (orB_ok okb_rText (orB_ok okb_rEnd (orB_ok okb_rInst (orB_ok okb_rBal (orB_ok okb_rCmd (orB_ok okb_rAttr (orB_ok okb_rCell noB_ok))))))))
  refine FnD_cbv (T := fun _ => tabY [5003] []) (H := fun _ => [kn_rightL2 GFsR5]) (tabY_ok _ _) hH follows_mixed Try.func22 rfl Try.ntmps22 (by simp) fun A X W hA hX hW => ?_
  cbv
  have l0 : A.cmp .lss 0 7 = true := by subst hA; rfl
  cbv at l0
  have l1 : A.cmp .lss 1 7 = true := by subst hA; rfl
  cbv at l1
  have l2 : A.cmp .lss 2 7 = true := by subst hA; rfl
  cbv at l2
  have l3 : A.cmp .lss 3 7 = true := by subst hA; rfl
  cbv at l3
  have l4 : A.cmp .lss 4 7 = true := by subst hA; rfl
  cbv at l4
  have l5 : A.cmp .lss 5 7 = true := by subst hA; rfl
  cbv at l5
  have l6 : A.cmp .lss 6 7 = true := by subst hA; rfl
  cbv at l6
  have l7 : A.cmp .lss 7 7 = false := by subst hA; rfl
  cbv at l7
  have b0 : A.bin .add .i64 0 1 = 1 := by subst hA; rfl
  cbv at b0
  have b1 : A.bin .add .i64 1 1 = 2 := by subst hA; rfl
  cbv at b1
  have b2 : A.bin .add .i64 2 1 = 3 := by subst hA; rfl
  cbv at b2
  have b3 : A.bin .add .i64 3 1 = 4 := by subst hA; rfl
  cbv at b3
  have b4 : A.bin .add .i64 4 1 = 5 := by subst hA; rfl
  cbv at b4
  have b5 : A.bin .add .i64 5 1 = 6 := by subst hA; rfl
  cbv at b5
  have b6 : A.bin .add .i64 6 1 = 7 := by subst hA; rfl
  cbv at b6
  have o0_0 : A.off 0 0 1 = 0 := by subst hA; rfl
  cbv at o0_0
  have o0_1 : A.off 0 1 1 = 1 := by subst hA; rfl
  cbv at o0_1
  have o0_2 : A.off 0 2 1 = 2 := by subst hA; rfl
  cbv at o0_2
  have o0_3 : A.off 0 3 1 = 3 := by subst hA; rfl
  cbv at o0_3
  have o0_4 : A.off 0 4 1 = 4 := by subst hA; rfl
  cbv at o0_4
  have o0_5 : A.off 0 5 1 = 5 := by subst hA; rfl
  cbv at o0_5
  have o0_6 : A.off 0 6 1 = 6 := by subst hA; rfl
  cbv at o0_6
  have z00 : A.cmp .eql 0 0 = true := by subst hA; rfl
  have tff : A.cond true false false = false := by subst hA; rfl
  cbv at z00 tff
  refine callB hX hB ?_
  cbv
  refine And.intro (by subst hFsS; exact hp0) ?_
  have h0 : isRd xs 0 0 := rd0 hp0
  refine callB hX hB ?_
  cbv
  refine And.intro (by subst hFsR; exact h0) ?_
  have e1 : GFsR.num xs 0 0 = (7, a1, w1) := by subst hFsR; exact u1
  have h1 := (num_rd h0).1
  rw [u1] at h1
  cbv at e1
  simp only [e1]
  refine callB hX hB ?_
  cbv
  refine And.intro (by subst hFsR; exact h1) ?_
  have e2 : GFsR.num xs a1 w1 = (s, a2, w2) := by subst hFsR; exact u2
  have h2 := (num_rd h1).1
  rw [u2] at h2
  cbv at e2
  simp only [e2]
  refine callB hX hB ?_
  cbv
  refine And.intro (by subst hFsR; exact h2) ?_
  have e3 : GFsR.num xs a2 w2 = (d, a3, 0) := by subst hFsR; exact u3
  have h3 := (num_rd h2).1
  rw [u3] at h3
  cbv at e3
  simp only [e3]
  have f1 : A.cmp .lss 7 1 = false := by subst hA; rfl
  have f2 : A.cmp .gtr 7 11 = false := by subst hA; rfl
  have f3 : A.cmp .lss 7 9 = true := by subst hA; rfl
  have f4 : A.cmp .neq 7 5 = true := by subst hA; rfl
  have g0 : A.cmp .eql 7 1 = false := by subst hA; rfl
  have g1 : A.cmp .eql 7 3 = false := by subst hA; rfl
  have g2 : A.cmp .eql 7 5 = false := by subst hA; rfl
  have g3 : A.cmp .eql 7 2 = false := by subst hA; rfl
  have g4 : A.cmp .eql 7 7 = true := by subst hA; rfl
  have g5 : A.cmp .eql 7 9 = false := by subst hA; rfl
  have g6 : A.cmp .eql 7 11 = false := by subst hA; rfl
  have g7 : A.cmp .eql 7 10 = false := by subst hA; rfl
  have ftf : A.cond false true false = false := by subst hA; rfl
  have fff : A.cond false false false = false := by subst hA; rfl
  cbv at f1 f2 f3 f4 g0 g1 g2 g3 g4 g5 g6 g7 ftf fff
  repeat' first
    | (simp only [f1, f2, f3, f4, g0, g1, g2, g3, g4, g5, g6, g7, ftf, fff, l0, l1, l2, l3, l4, l5, l6, l7, b0, b1, b2, b3, b4, b5, b6, o0_0, o0_1, o0_2, o0_3, o0_4, o0_5, o0_6, z00, tff]; cbv)
    | (refine part (fun h => ?_) (fun h => ?_) <;> try cbv)
    | (refine And.intro ?_ ?_)
    | ((with_reducible refine callB hX hB ?_) <;> cbv)
  all_goals clear hH hB
  all_goals subst hA hX hW hFsR5 hFsS hFsR hFsLH
  all_goals try simp only [A0, nc, FsR50, FsS0, FsR0, FsLH0, decide_eq_true_eq, decide_eq_false_iff_not, Bool.not_eq_true', Bool.not_eq_false'] at *
  all_goals have y0 := getInst_rd h3
  all_goals generalize z0 : getInstX xs a3 0 = q at *
  all_goals obtain ⟨⟨i1, i2⟩, p0, v0⟩ := q
  all_goals try simp only at *
  all_goals have y1 := getBal_rd y0
  all_goals generalize z1 : getBalX xs p0 v0 = q at *
  all_goals obtain ⟨⟨be, br⟩, p1, v1⟩ := q
  all_goals try simp only at *
  all_goals have y2 := getCell_rd y1
  all_goals generalize z2 : getCellX xs p1 v1 = q at *
  all_goals obtain ⟨⟨l0, l1, l2, l3, l4, l5, l6, l7, l8, l9, l10, l11, l12, l13, l14, l15, l16, l17, l18, l19, l20⟩, p2, v2⟩ := q
  all_goals try simp only at *
  all_goals first
    | assumption
    | exact ⟨by decide, by decide⟩
    | (simp; done)
    | (intros; first | assumption | trivial | (simp_all; done))
    | (exfalso; simp_all; done)
    | (refine ret_v ?_ rfl
       have hg : getLet xs = (bif !decide (endR xs p2 v2 = 0) then (zeroL, endR xs p2 v2) else bif !rightL (⟨7, s, d, i1, i2, be, br, 0, 0, 0, none8, none8, none8, none8, 0, 0, 0, 0, 0, 0, 0, 0, l0, l1, l2, l3, l4, l5, l6, l7, l8, l9, l10, l11, l12, l13, l14, l15, l16, l17, l18, l19, l20, 0, 0, 0, 0, 0, 0, 0, none8⟩ : Letter) then (zeroL, 4) else ((⟨7, s, d, i1, i2, be, br, 0, 0, 0, none8, none8, none8, none8, 0, 0, 0, 0, 0, 0, 0, 0, l0, l1, l2, l3, l4, l5, l6, l7, l8, l9, l10, l11, l12, l13, l14, l15, l16, l17, l18, l19, l20, 0, 0, 0, 0, 0, 0, 0, none8⟩ : Letter), 0)) := by
         rw [← getLetR_eq]
         have i9 : numR xs (numR xs a3 0).2.1 (numR xs a3 0).2.2 = (i2, p0, v0) ∧ (numR xs a3 0).1 = i1 := by
           have z9 := z0
           unfold getInstX at z9
           simp only [Prod.mk.injEq, Inst.mk.injEq] at z9
           exact ⟨Prod.ext z9.1.2 z9.2, z9.1.1⟩
         have hP0 : namedP 7 = (⟨true, true, false, false, true, false, false⟩, true) := rfl
         simp only [getLetR, u1, u2, u3, hP0, restR, cond_true, cond_false, decide_true, Bool.not_true, i9.1, i9.2, z1, z2]
         first | done | rfl
       rw [hg]
       first
         | (rw [decide_eq_false h]; rfl)
         | (rename_i h9; rw [decide_eq_true h9, h]; rfl)
         | (rename_i h9; rw [h9, h]; rfl))
set_option maxRecDepth 100000 in
theorem v_gl8 (xs : List (List PD)) (hp0 : isB8 xs) {s d a1 w1 a2 w2 a3 : Int} (u1 : numR xs 0 0 = (8, a1, w1)) (u2 : numR xs a1 w1 = (s, a2, w2)) (u3 : numR xs a2 w2 = (d, a3, 0)) : FnV Try.prog 22 [.d (.slc 1 xs)] (.tup [Letter.D (((getLet xs)).1), intD (((getLet xs)).2)]) := by
  obtain ⟨GFsR5, hFsR5⟩ : ∃ F, F = FsR50 := ⟨_, rfl⟩
  obtain ⟨GFsS, hFsS⟩ : ∃ F, F = FsS0 := ⟨_, rfl⟩
  obtain ⟨GFsR, hFsR⟩ : ∃ F, F = FsR0 := ⟨_, rfl⟩
  obtain ⟨GFsLH, hFsLH⟩ : ∃ F, F = FsLH0 := ⟨_, rfl⟩
  have hH : SoundK Try.prog [kn_rightL2 GFsR5] := by subst hFsR5 hFsS hFsR hFsLH; exact orK_ok ok_rightL2 noK_ok
  have hB : SoundB Try.prog [kb_rRead GFsS, kb_rNum GFsR, kb_rText GFsR, kb_rEnd GFsR, kb_rInst GFsLH, kb_rBal GFsLH, kb_rCmd GFsLH, kb_rAttr GFsLH, kb_rCell GFsLH] := by subst hFsR5 hFsS hFsR hFsLH; exact orB_ok okb_rRead (orB_ok okb_rNum (orB_ok okb_rText (orB_ok okb_rEnd (orB_ok okb_rInst (orB_ok okb_rBal (orB_ok okb_rCmd (orB_ok okb_rAttr (orB_ok okb_rCell noB_ok))))))))
  refine FnD_cbv (T := fun _ => tabY [5003] []) (H := fun _ => [kn_rightL2 GFsR5]) (tabY_ok _ _) hH follows_mixed Try.func22 rfl Try.ntmps22 (by simp) fun A X W hA hX hW => ?_
  cbv
  have l0 : A.cmp .lss 0 7 = true := by subst hA; rfl
  cbv at l0
  have l1 : A.cmp .lss 1 7 = true := by subst hA; rfl
  cbv at l1
  have l2 : A.cmp .lss 2 7 = true := by subst hA; rfl
  cbv at l2
  have l3 : A.cmp .lss 3 7 = true := by subst hA; rfl
  cbv at l3
  have l4 : A.cmp .lss 4 7 = true := by subst hA; rfl
  cbv at l4
  have l5 : A.cmp .lss 5 7 = true := by subst hA; rfl
  cbv at l5
  have l6 : A.cmp .lss 6 7 = true := by subst hA; rfl
  cbv at l6
  have l7 : A.cmp .lss 7 7 = false := by subst hA; rfl
  cbv at l7
  have b0 : A.bin .add .i64 0 1 = 1 := by subst hA; rfl
  cbv at b0
  have b1 : A.bin .add .i64 1 1 = 2 := by subst hA; rfl
  cbv at b1
  have b2 : A.bin .add .i64 2 1 = 3 := by subst hA; rfl
  cbv at b2
  have b3 : A.bin .add .i64 3 1 = 4 := by subst hA; rfl
  cbv at b3
  have b4 : A.bin .add .i64 4 1 = 5 := by subst hA; rfl
  cbv at b4
  have b5 : A.bin .add .i64 5 1 = 6 := by subst hA; rfl
  cbv at b5
  have b6 : A.bin .add .i64 6 1 = 7 := by subst hA; rfl
  cbv at b6
  have o0_0 : A.off 0 0 1 = 0 := by subst hA; rfl
  cbv at o0_0
  have o0_1 : A.off 0 1 1 = 1 := by subst hA; rfl
  cbv at o0_1
  have o0_2 : A.off 0 2 1 = 2 := by subst hA; rfl
  cbv at o0_2
  have o0_3 : A.off 0 3 1 = 3 := by subst hA; rfl
  cbv at o0_3
  have o0_4 : A.off 0 4 1 = 4 := by subst hA; rfl
  cbv at o0_4
  have o0_5 : A.off 0 5 1 = 5 := by subst hA; rfl
  cbv at o0_5
  have o0_6 : A.off 0 6 1 = 6 := by subst hA; rfl
  cbv at o0_6
  have z00 : A.cmp .eql 0 0 = true := by subst hA; rfl
  have tff : A.cond true false false = false := by subst hA; rfl
  cbv at z00 tff
  refine callB hX hB ?_
  cbv
  refine And.intro (by subst hFsS; exact hp0) ?_
  have h0 : isRd xs 0 0 := rd0 hp0
  refine callB hX hB ?_
  cbv
  refine And.intro (by subst hFsR; exact h0) ?_
  have e1 : GFsR.num xs 0 0 = (8, a1, w1) := by subst hFsR; exact u1
  have h1 := (num_rd h0).1
  rw [u1] at h1
  cbv at e1
  simp only [e1]
  refine callB hX hB ?_
  cbv
  refine And.intro (by subst hFsR; exact h1) ?_
  have e2 : GFsR.num xs a1 w1 = (s, a2, w2) := by subst hFsR; exact u2
  have h2 := (num_rd h1).1
  rw [u2] at h2
  cbv at e2
  simp only [e2]
  refine callB hX hB ?_
  cbv
  refine And.intro (by subst hFsR; exact h2) ?_
  have e3 : GFsR.num xs a2 w2 = (d, a3, 0) := by subst hFsR; exact u3
  have h3 := (num_rd h2).1
  rw [u3] at h3
  cbv at e3
  simp only [e3]
  have f1 : A.cmp .lss 8 1 = false := by subst hA; rfl
  have f2 : A.cmp .gtr 8 11 = false := by subst hA; rfl
  have f3 : A.cmp .lss 8 9 = true := by subst hA; rfl
  have f4 : A.cmp .neq 8 5 = true := by subst hA; rfl
  have g0 : A.cmp .eql 8 1 = false := by subst hA; rfl
  have g1 : A.cmp .eql 8 3 = false := by subst hA; rfl
  have g2 : A.cmp .eql 8 5 = false := by subst hA; rfl
  have g3 : A.cmp .eql 8 2 = false := by subst hA; rfl
  have g4 : A.cmp .eql 8 7 = false := by subst hA; rfl
  have g5 : A.cmp .eql 8 9 = false := by subst hA; rfl
  have g6 : A.cmp .eql 8 11 = false := by subst hA; rfl
  have g7 : A.cmp .eql 8 10 = false := by subst hA; rfl
  have ftf : A.cond false true false = false := by subst hA; rfl
  have fff : A.cond false false false = false := by subst hA; rfl
  cbv at f1 f2 f3 f4 g0 g1 g2 g3 g4 g5 g6 g7 ftf fff
  repeat' first
    | (simp only [f1, f2, f3, f4, g0, g1, g2, g3, g4, g5, g6, g7, ftf, fff, l0, l1, l2, l3, l4, l5, l6, l7, b0, b1, b2, b3, b4, b5, b6, o0_0, o0_1, o0_2, o0_3, o0_4, o0_5, o0_6, z00, tff]; cbv)
    | (refine part (fun h => ?_) (fun h => ?_) <;> try cbv)
    | (refine And.intro ?_ ?_)
    | ((with_reducible refine callB hX hB ?_) <;> cbv)
  all_goals clear hH hB
  all_goals subst hA hX hW hFsR5 hFsS hFsR hFsLH
  all_goals try simp only [A0, nc, FsR50, FsS0, FsR0, FsLH0, decide_eq_true_eq, decide_eq_false_iff_not, Bool.not_eq_true', Bool.not_eq_false'] at *
  all_goals have y0 := getInst_rd h3
  all_goals generalize z0 : getInstX xs a3 0 = q at *
  all_goals obtain ⟨⟨i1, i2⟩, p0, v0⟩ := q
  all_goals try simp only at *
  all_goals have y1 := getBal_rd y0
  all_goals generalize z1 : getBalX xs p0 v0 = q at *
  all_goals obtain ⟨⟨be, br⟩, p1, v1⟩ := q
  all_goals try simp only at *
  all_goals first
    | assumption
    | exact ⟨by decide, by decide⟩
    | (simp; done)
    | (intros; first | assumption | trivial | (simp_all; done))
    | (exfalso; simp_all; done)
    | (refine ret_v ?_ rfl
       have hg : getLet xs = (bif !decide (endR xs p1 v1 = 0) then (zeroL, endR xs p1 v1) else bif !rightL (⟨8, s, d, i1, i2, be, br, 0, 0, 0, none8, none8, none8, none8, 0, 0, 0, 0, 0, 0, 0, 0, 0, 0, 0, 0, 0, 0, 0, 0, none8, none8, none8, none8, 0, 0, 0, 0, 0, 0, 0, 0, false, 0, 0, 0, 0, 0, 0, 0, none8⟩ : Letter) then (zeroL, 4) else ((⟨8, s, d, i1, i2, be, br, 0, 0, 0, none8, none8, none8, none8, 0, 0, 0, 0, 0, 0, 0, 0, 0, 0, 0, 0, 0, 0, 0, 0, none8, none8, none8, none8, 0, 0, 0, 0, 0, 0, 0, 0, false, 0, 0, 0, 0, 0, 0, 0, none8⟩ : Letter), 0)) := by
         rw [← getLetR_eq]
         have i9 : numR xs (numR xs a3 0).2.1 (numR xs a3 0).2.2 = (i2, p0, v0) ∧ (numR xs a3 0).1 = i1 := by
           have z9 := z0
           unfold getInstX at z9
           simp only [Prod.mk.injEq, Inst.mk.injEq] at z9
           exact ⟨Prod.ext z9.1.2 z9.2, z9.1.1⟩
         have hP0 : namedP 8 = (⟨true, true, false, false, false, false, false⟩, true) := rfl
         simp only [getLetR, u1, u2, u3, hP0, restR, cond_true, cond_false, decide_true, Bool.not_true, i9.1, i9.2, z1]
         first | done | rfl
       rw [hg]
       first
         | (rw [decide_eq_false h]; rfl)
         | (rename_i h9; rw [decide_eq_true h9, h]; rfl)
         | (rename_i h9; rw [h9, h]; rfl))
end Go.Proofs.Ytbhapclaochcnaa
namespace Go.Proofs.Ytbhapclaochcnaa
open Go.RowKit
set_option linter.all false
set_option maxHeartbeats 8000000
set_option maxRecDepth 100000 in
theorem v_gl9 (xs : List (List PD)) (hp0 : isB8 xs) {s d a1 w1 a2 w2 a3 : Int} (u1 : numR xs 0 0 = (9, a1, w1)) (u2 : numR xs a1 w1 = (s, a2, w2)) (u3 : numR xs a2 w2 = (d, a3, 0)) : FnV Try.prog 22 [.d (.slc 1 xs)] (.tup [Letter.D (((getLet xs)).1), intD (((getLet xs)).2)]) := by
  obtain ⟨GFsR5, hFsR5⟩ : ∃ F, F = FsR50 := ⟨_, rfl⟩
  obtain ⟨GFsS, hFsS⟩ : ∃ F, F = FsS0 := ⟨_, rfl⟩
  obtain ⟨GFsR, hFsR⟩ : ∃ F, F = FsR0 := ⟨_, rfl⟩
  obtain ⟨GFsLH, hFsLH⟩ : ∃ F, F = FsLH0 := ⟨_, rfl⟩
  have hH : SoundK Try.prog [kn_rightL2 GFsR5] := by subst hFsR5 hFsS hFsR hFsLH; exact orK_ok ok_rightL2 noK_ok
  have hB : SoundB Try.prog [kb_rRead GFsS, kb_rNum GFsR, kb_rText GFsR, kb_rEnd GFsR, kb_rInst GFsLH, kb_rBal GFsLH, kb_rCmd GFsLH, kb_rAttr GFsLH, kb_rCell GFsLH] := by subst hFsR5 hFsS hFsR hFsLH; exact orB_ok okb_rRead (orB_ok okb_rNum (orB_ok okb_rText (orB_ok okb_rEnd (orB_ok okb_rInst (orB_ok okb_rBal (orB_ok okb_rCmd (orB_ok okb_rAttr (orB_ok okb_rCell noB_ok))))))))
  refine FnD_cbv (T := fun _ => tabY [5003] []) (H := fun _ => [kn_rightL2 GFsR5]) (tabY_ok _ _) hH follows_mixed Try.func22 rfl Try.ntmps22 (by simp) fun A X W hA hX hW => ?_
  cbv
  have l0 : A.cmp .lss 0 7 = true := by subst hA; rfl
  cbv at l0
  have l1 : A.cmp .lss 1 7 = true := by subst hA; rfl
  cbv at l1
  have l2 : A.cmp .lss 2 7 = true := by subst hA; rfl
  cbv at l2
  have l3 : A.cmp .lss 3 7 = true := by subst hA; rfl
  cbv at l3
  have l4 : A.cmp .lss 4 7 = true := by subst hA; rfl
  cbv at l4
  have l5 : A.cmp .lss 5 7 = true := by subst hA; rfl
  cbv at l5
  have l6 : A.cmp .lss 6 7 = true := by subst hA; rfl
  cbv at l6
  have l7 : A.cmp .lss 7 7 = false := by subst hA; rfl
  cbv at l7
  have b0 : A.bin .add .i64 0 1 = 1 := by subst hA; rfl
  cbv at b0
  have b1 : A.bin .add .i64 1 1 = 2 := by subst hA; rfl
  cbv at b1
  have b2 : A.bin .add .i64 2 1 = 3 := by subst hA; rfl
  cbv at b2
  have b3 : A.bin .add .i64 3 1 = 4 := by subst hA; rfl
  cbv at b3
  have b4 : A.bin .add .i64 4 1 = 5 := by subst hA; rfl
  cbv at b4
  have b5 : A.bin .add .i64 5 1 = 6 := by subst hA; rfl
  cbv at b5
  have b6 : A.bin .add .i64 6 1 = 7 := by subst hA; rfl
  cbv at b6
  have o0_0 : A.off 0 0 1 = 0 := by subst hA; rfl
  cbv at o0_0
  have o0_1 : A.off 0 1 1 = 1 := by subst hA; rfl
  cbv at o0_1
  have o0_2 : A.off 0 2 1 = 2 := by subst hA; rfl
  cbv at o0_2
  have o0_3 : A.off 0 3 1 = 3 := by subst hA; rfl
  cbv at o0_3
  have o0_4 : A.off 0 4 1 = 4 := by subst hA; rfl
  cbv at o0_4
  have o0_5 : A.off 0 5 1 = 5 := by subst hA; rfl
  cbv at o0_5
  have o0_6 : A.off 0 6 1 = 6 := by subst hA; rfl
  cbv at o0_6
  have z00 : A.cmp .eql 0 0 = true := by subst hA; rfl
  have tff : A.cond true false false = false := by subst hA; rfl
  cbv at z00 tff
  refine callB hX hB ?_
  cbv
  refine And.intro (by subst hFsS; exact hp0) ?_
  have h0 : isRd xs 0 0 := rd0 hp0
  refine callB hX hB ?_
  cbv
  refine And.intro (by subst hFsR; exact h0) ?_
  have e1 : GFsR.num xs 0 0 = (9, a1, w1) := by subst hFsR; exact u1
  have h1 := (num_rd h0).1
  rw [u1] at h1
  cbv at e1
  simp only [e1]
  refine callB hX hB ?_
  cbv
  refine And.intro (by subst hFsR; exact h1) ?_
  have e2 : GFsR.num xs a1 w1 = (s, a2, w2) := by subst hFsR; exact u2
  have h2 := (num_rd h1).1
  rw [u2] at h2
  cbv at e2
  simp only [e2]
  refine callB hX hB ?_
  cbv
  refine And.intro (by subst hFsR; exact h2) ?_
  have e3 : GFsR.num xs a2 w2 = (d, a3, 0) := by subst hFsR; exact u3
  have h3 := (num_rd h2).1
  rw [u3] at h3
  cbv at e3
  simp only [e3]
  have f1 : A.cmp .lss 9 1 = false := by subst hA; rfl
  have f2 : A.cmp .gtr 9 11 = false := by subst hA; rfl
  have f3 : A.cmp .lss 9 9 = false := by subst hA; rfl
  have f4 : A.cmp .neq 9 5 = true := by subst hA; rfl
  have g0 : A.cmp .eql 9 1 = false := by subst hA; rfl
  have g1 : A.cmp .eql 9 3 = false := by subst hA; rfl
  have g2 : A.cmp .eql 9 5 = false := by subst hA; rfl
  have g3 : A.cmp .eql 9 2 = false := by subst hA; rfl
  have g4 : A.cmp .eql 9 7 = false := by subst hA; rfl
  have g5 : A.cmp .eql 9 9 = true := by subst hA; rfl
  have g6 : A.cmp .eql 9 11 = false := by subst hA; rfl
  have g7 : A.cmp .eql 9 10 = false := by subst hA; rfl
  have ftf : A.cond false true false = false := by subst hA; rfl
  have fff : A.cond false false false = false := by subst hA; rfl
  cbv at f1 f2 f3 f4 g0 g1 g2 g3 g4 g5 g6 g7 ftf fff
  repeat' first
    | (simp only [f1, f2, f3, f4, g0, g1, g2, g3, g4, g5, g6, g7, ftf, fff, l0, l1, l2, l3, l4, l5, l6, l7, b0, b1, b2, b3, b4, b5, b6, o0_0, o0_1, o0_2, o0_3, o0_4, o0_5, o0_6, z00, tff]; cbv)
    | (refine And.intro ?_ ?_)
  rotate_right 1
  · refine unrollL (T := fun _ => tabY [5003] []) (H := fun _ => [kn_rightL2 GFsR5]) (tabY_ok _ _) hH follows_mixed hA hX 9 fun R2 hR2 => ?_
    cbv
    refine hR2 _ _ _ ?_
    cbv
    repeat' first
      | (simp only [f1, f2, f3, f4, g0, g1, g2, g3, g4, g5, g6, g7, ftf, fff, l0, l1, l2, l3, l4, l5, l6, l7, b0, b1, b2, b3, b4, b5, b6, o0_0, o0_1, o0_2, o0_3, o0_4, o0_5, o0_6, z00, tff]; cbv)
      | (refine part (fun h => ?_) (fun h => ?_) <;> try cbv)
      | (refine And.intro ?_ ?_)
      | ((with_reducible refine callB hX hB ?_) <;> cbv)
      | (refine hR2 _ _ _ ?_; cbv)
    all_goals clear hR2
    all_goals clear hH hB
    all_goals subst hA hX hW hFsR5 hFsS hFsR hFsLH
    all_goals try simp only [A0, nc, FsR50, FsS0, FsR0, FsLH0, decide_eq_true_eq, decide_eq_false_iff_not, Bool.not_eq_true', Bool.not_eq_false'] at *
    all_goals have y0 := (num_rd h3).1
    all_goals generalize z0 : numR xs a3 0 = q at *
    all_goals obtain ⟨f0, p0, v0⟩ := q
    all_goals try simp only at *
    all_goals have y1 := (num_rd y0).1
    all_goals generalize z1 : numR xs p0 v0 = q at *
    all_goals obtain ⟨f1, p1, v1⟩ := q
    all_goals try simp only at *
    all_goals have y2 := (num_rd y1).1
    all_goals generalize z2 : numR xs p1 v1 = q at *
    all_goals obtain ⟨f2, p2, v2⟩ := q
    all_goals try simp only at *
    all_goals have y3 := (num_rd y2).1
    all_goals generalize z3 : numR xs p2 v2 = q at *
    all_goals obtain ⟨f3, p3, v3⟩ := q
    all_goals try simp only at *
    all_goals have y4 := (num_rd y3).1
    all_goals generalize z4 : numR xs p3 v3 = q at *
    all_goals obtain ⟨f4, p4, v4⟩ := q
    all_goals try simp only at *
    all_goals have y5 := (num_rd y4).1
    all_goals generalize z5 : numR xs p4 v4 = q at *
    all_goals obtain ⟨f5, p5, v5⟩ := q
    all_goals try simp only at *
    all_goals have y6 := (num_rd y5).1
    all_goals generalize z6 : numR xs p5 v5 = q at *
    all_goals obtain ⟨f6, p6, v6⟩ := q
    all_goals try simp only at *
    all_goals first
      | assumption
      | exact ⟨by decide, by decide⟩
      | (simp; done)
      | (intros; first | assumption | trivial | (simp_all; done))
      | (exfalso; simp_all; done)
      | (refine ret_v ?_ rfl
         have hg : getLet xs = (bif !decide (endR xs p6 v6 = 0) then (zeroL, endR xs p6 v6) else bif !rightL (⟨9, s, d, 0, 0, 0, 0, 0, 0, 0, none8, none8, none8, none8, 0, 0, 0, 0, 0, 0, 0, 0, 0, 0, 0, 0, 0, 0, 0, 0, none8, none8, none8, none8, 0, 0, 0, 0, 0, 0, 0, 0, false, f0, f1, f2, f3, f4, f5, f6, none8⟩ : Letter) then (zeroL, 4) else ((⟨9, s, d, 0, 0, 0, 0, 0, 0, 0, none8, none8, none8, none8, 0, 0, 0, 0, 0, 0, 0, 0, 0, 0, 0, 0, 0, 0, 0, 0, none8, none8, none8, none8, 0, 0, 0, 0, 0, 0, 0, 0, false, f0, f1, f2, f3, f4, f5, f6, none8⟩ : Letter), 0)) := by
           rw [← getLetR_eq]
           have hP0 : namedP 9 = (⟨false, false, false, false, false, true, false⟩, true) := rfl
           simp only [getLetR, u1, u2, u3, hP0, restR, cond_true, cond_false, decide_true, Bool.not_true, z0, z1, z2, z3, z4, z5, z6]
           first | done | rfl
         rw [hg]
         first
           | (rw [decide_eq_false h]; rfl)
           | (rename_i h9; rw [decide_eq_true h9, h]; rfl)
           | (rename_i h9; rw [h9, h]; rfl))
  all_goals clear hH hB
  all_goals subst hA hX hW hFsR5 hFsS hFsR hFsLH
  all_goals try simp only [A0, nc, FsR50, FsS0, FsR0, FsLH0, decide_eq_true_eq, decide_eq_false_iff_not, Bool.not_eq_true', Bool.not_eq_false'] at *
  all_goals have y0 := (num_rd h3).1
  all_goals generalize z0 : numR xs a3 0 = q at *
  all_goals obtain ⟨f0, p0, v0⟩ := q
  all_goals try simp only at *
  all_goals have y1 := (num_rd y0).1
  all_goals generalize z1 : numR xs p0 v0 = q at *
  all_goals obtain ⟨f1, p1, v1⟩ := q
  all_goals try simp only at *
  all_goals have y2 := (num_rd y1).1
  all_goals generalize z2 : numR xs p1 v1 = q at *
  all_goals obtain ⟨f2, p2, v2⟩ := q
  all_goals try simp only at *
  all_goals have y3 := (num_rd y2).1
  all_goals generalize z3 : numR xs p2 v2 = q at *
  all_goals obtain ⟨f3, p3, v3⟩ := q
  all_goals try simp only at *
  all_goals have y4 := (num_rd y3).1
  all_goals generalize z4 : numR xs p3 v3 = q at *
  all_goals obtain ⟨f4, p4, v4⟩ := q
  all_goals try simp only at *
  all_goals have y5 := (num_rd y4).1
  all_goals generalize z5 : numR xs p4 v4 = q at *
  all_goals obtain ⟨f5, p5, v5⟩ := q
  all_goals try simp only at *
  all_goals have y6 := (num_rd y5).1
  all_goals generalize z6 : numR xs p5 v5 = q at *
  all_goals obtain ⟨f6, p6, v6⟩ := q
  all_goals try simp only at *
  all_goals first
    | assumption
    | exact ⟨by decide, by decide⟩
    | (simp; done)
    | (intros; first | assumption | trivial | (simp_all; done))
    | (exfalso; simp_all; done)
    | (refine ret_v ?_ rfl
       have hg : getLet xs = (bif !decide (endR xs p6 v6 = 0) then (zeroL, endR xs p6 v6) else bif !rightL (⟨9, s, d, 0, 0, 0, 0, 0, 0, 0, none8, none8, none8, none8, 0, 0, 0, 0, 0, 0, 0, 0, 0, 0, 0, 0, 0, 0, 0, 0, none8, none8, none8, none8, 0, 0, 0, 0, 0, 0, 0, 0, false, f0, f1, f2, f3, f4, f5, f6, none8⟩ : Letter) then (zeroL, 4) else ((⟨9, s, d, 0, 0, 0, 0, 0, 0, 0, none8, none8, none8, none8, 0, 0, 0, 0, 0, 0, 0, 0, 0, 0, 0, 0, 0, 0, 0, 0, none8, none8, none8, none8, 0, 0, 0, 0, 0, 0, 0, 0, false, f0, f1, f2, f3, f4, f5, f6, none8⟩ : Letter), 0)) := by
         rw [← getLetR_eq]
         have hP0 : namedP 9 = (⟨false, false, false, false, false, true, false⟩, true) := rfl
         simp only [getLetR, u1, u2, u3, hP0, restR, cond_true, cond_false, decide_true, Bool.not_true, z0, z1, z2, z3, z4, z5, z6]
         first | done | rfl
       rw [hg]
       first
         | (rw [decide_eq_false h]; rfl)
         | (rename_i h9; rw [decide_eq_true h9, h]; rfl)
         | (rename_i h9; rw [h9, h]; rfl))
set_option maxRecDepth 100000 in
theorem v_gl10 (xs : List (List PD)) (hp0 : isB8 xs) {s d a1 w1 a2 w2 a3 : Int} (u1 : numR xs 0 0 = (10, a1, w1)) (u2 : numR xs a1 w1 = (s, a2, w2)) (u3 : numR xs a2 w2 = (d, a3, 0)) : FnV Try.prog 22 [.d (.slc 1 xs)] (.tup [Letter.D (((getLet xs)).1), intD (((getLet xs)).2)]) := by
  obtain ⟨GFsR5, hFsR5⟩ : ∃ F, F = FsR50 := ⟨_, rfl⟩
  obtain ⟨GFsS, hFsS⟩ : ∃ F, F = FsS0 := ⟨_, rfl⟩
  obtain ⟨GFsR, hFsR⟩ : ∃ F, F = FsR0 := ⟨_, rfl⟩
  obtain ⟨GFsLH, hFsLH⟩ : ∃ F, F = FsLH0 := ⟨_, rfl⟩
  have hH : SoundK Try.prog [kn_rightL2 GFsR5] := by subst hFsR5 hFsS hFsR hFsLH; exact orK_ok ok_rightL2 noK_ok
  have hB : SoundB Try.prog [kb_rRead GFsS, kb_rNum GFsR, kb_rText GFsR, kb_rEnd GFsR, kb_rInst GFsLH, kb_rBal GFsLH, kb_rCmd GFsLH, kb_rAttr GFsLH, kb_rCell GFsLH] := by subst hFsR5 hFsS hFsR hFsLH; exact orB_ok okb_rRead (orB_ok okb_rNum (orB_ok okb_rText (orB_ok okb_rEnd (orB_ok okb_rInst (orB_ok okb_rBal (orB_ok okb_rCmd (orB_ok okb_rAttr (orB_ok okb_rCell noB_ok))))))))
  refine FnD_cbv (T := fun _ => tabY [5003] []) (H := fun _ => [kn_rightL2 GFsR5]) (tabY_ok _ _) hH follows_mixed Try.func22 rfl Try.ntmps22 (by simp) fun A X W hA hX hW => ?_
  cbv
  have l0 : A.cmp .lss 0 7 = true := by subst hA; rfl
  cbv at l0
  have l1 : A.cmp .lss 1 7 = true := by subst hA; rfl
  cbv at l1
  have l2 : A.cmp .lss 2 7 = true := by subst hA; rfl
  cbv at l2
  have l3 : A.cmp .lss 3 7 = true := by subst hA; rfl
  cbv at l3
  have l4 : A.cmp .lss 4 7 = true := by subst hA; rfl
  cbv at l4
  have l5 : A.cmp .lss 5 7 = true := by subst hA; rfl
  cbv at l5
  have l6 : A.cmp .lss 6 7 = true := by subst hA; rfl
  cbv at l6
  have l7 : A.cmp .lss 7 7 = false := by subst hA; rfl
  cbv at l7
  have b0 : A.bin .add .i64 0 1 = 1 := by subst hA; rfl
  cbv at b0
  have b1 : A.bin .add .i64 1 1 = 2 := by subst hA; rfl
  cbv at b1
  have b2 : A.bin .add .i64 2 1 = 3 := by subst hA; rfl
  cbv at b2
  have b3 : A.bin .add .i64 3 1 = 4 := by subst hA; rfl
  cbv at b3
  have b4 : A.bin .add .i64 4 1 = 5 := by subst hA; rfl
  cbv at b4
  have b5 : A.bin .add .i64 5 1 = 6 := by subst hA; rfl
  cbv at b5
  have b6 : A.bin .add .i64 6 1 = 7 := by subst hA; rfl
  cbv at b6
  have o0_0 : A.off 0 0 1 = 0 := by subst hA; rfl
  cbv at o0_0
  have o0_1 : A.off 0 1 1 = 1 := by subst hA; rfl
  cbv at o0_1
  have o0_2 : A.off 0 2 1 = 2 := by subst hA; rfl
  cbv at o0_2
  have o0_3 : A.off 0 3 1 = 3 := by subst hA; rfl
  cbv at o0_3
  have o0_4 : A.off 0 4 1 = 4 := by subst hA; rfl
  cbv at o0_4
  have o0_5 : A.off 0 5 1 = 5 := by subst hA; rfl
  cbv at o0_5
  have o0_6 : A.off 0 6 1 = 6 := by subst hA; rfl
  cbv at o0_6
  have z00 : A.cmp .eql 0 0 = true := by subst hA; rfl
  have tff : A.cond true false false = false := by subst hA; rfl
  cbv at z00 tff
  refine callB hX hB ?_
  cbv
  refine And.intro (by subst hFsS; exact hp0) ?_
  have h0 : isRd xs 0 0 := rd0 hp0
  refine callB hX hB ?_
  cbv
  refine And.intro (by subst hFsR; exact h0) ?_
  have e1 : GFsR.num xs 0 0 = (10, a1, w1) := by subst hFsR; exact u1
  have h1 := (num_rd h0).1
  rw [u1] at h1
  cbv at e1
  simp only [e1]
  refine callB hX hB ?_
  cbv
  refine And.intro (by subst hFsR; exact h1) ?_
  have e2 : GFsR.num xs a1 w1 = (s, a2, w2) := by subst hFsR; exact u2
  have h2 := (num_rd h1).1
  rw [u2] at h2
  cbv at e2
  simp only [e2]
  refine callB hX hB ?_
  cbv
  refine And.intro (by subst hFsR; exact h2) ?_
  have e3 : GFsR.num xs a2 w2 = (d, a3, 0) := by subst hFsR; exact u3
  have h3 := (num_rd h2).1
  rw [u3] at h3
  cbv at e3
  simp only [e3]
  have f1 : A.cmp .lss 10 1 = false := by subst hA; rfl
  have f2 : A.cmp .gtr 10 11 = false := by subst hA; rfl
  have f3 : A.cmp .lss 10 9 = false := by subst hA; rfl
  have f4 : A.cmp .neq 10 5 = true := by subst hA; rfl
  have g0 : A.cmp .eql 10 1 = false := by subst hA; rfl
  have g1 : A.cmp .eql 10 3 = false := by subst hA; rfl
  have g2 : A.cmp .eql 10 5 = false := by subst hA; rfl
  have g3 : A.cmp .eql 10 2 = false := by subst hA; rfl
  have g4 : A.cmp .eql 10 7 = false := by subst hA; rfl
  have g5 : A.cmp .eql 10 9 = false := by subst hA; rfl
  have g6 : A.cmp .eql 10 11 = false := by subst hA; rfl
  have g7 : A.cmp .eql 10 10 = true := by subst hA; rfl
  have ftf : A.cond false true false = false := by subst hA; rfl
  have fff : A.cond false false false = false := by subst hA; rfl
  cbv at f1 f2 f3 f4 g0 g1 g2 g3 g4 g5 g6 g7 ftf fff
  repeat' first
    | (simp only [f1, f2, f3, f4, g0, g1, g2, g3, g4, g5, g6, g7, ftf, fff, l0, l1, l2, l3, l4, l5, l6, l7, b0, b1, b2, b3, b4, b5, b6, o0_0, o0_1, o0_2, o0_3, o0_4, o0_5, o0_6, z00, tff]; cbv)
    | (refine part (fun h => ?_) (fun h => ?_) <;> try cbv)
    | (refine And.intro ?_ ?_)
    | ((with_reducible refine callB hX hB ?_) <;> cbv)
  all_goals clear hH hB
  all_goals subst hA hX hW hFsR5 hFsS hFsR hFsLH
  all_goals try simp only [A0, nc, FsR50, FsS0, FsR0, FsLH0, decide_eq_true_eq, decide_eq_false_iff_not, Bool.not_eq_true', Bool.not_eq_false'] at *
  all_goals have y0 := text_rd 16384 h3
  all_goals generalize z0 : textR xs a3 0 16384 = q at *
  all_goals obtain ⟨x0, p0, v0⟩ := q
  all_goals try simp only at *
  all_goals first
    | assumption
    | exact ⟨by decide, by decide⟩
    | (simp; done)
    | (intros; first | assumption | trivial | (simp_all; done))
    | (exfalso; simp_all; done)
    | (refine ret_v ?_ rfl
       have hg : getLet xs = (bif !decide (endR xs p0 v0 = 0) then (zeroL, endR xs p0 v0) else bif !rightL (⟨10, s, d, 0, 0, 0, 0, 0, 0, 0, none8, none8, none8, none8, 0, 0, 0, 0, 0, 0, 0, 0, 0, 0, 0, 0, 0, 0, 0, 0, none8, none8, none8, none8, 0, 0, 0, 0, 0, 0, 0, 0, false, 0, 0, 0, 0, 0, 0, 0, x0⟩ : Letter) then (zeroL, 4) else ((⟨10, s, d, 0, 0, 0, 0, 0, 0, 0, none8, none8, none8, none8, 0, 0, 0, 0, 0, 0, 0, 0, 0, 0, 0, 0, 0, 0, 0, 0, none8, none8, none8, none8, 0, 0, 0, 0, 0, 0, 0, 0, false, 0, 0, 0, 0, 0, 0, 0, x0⟩ : Letter), 0)) := by
         rw [← getLetR_eq]
         have hP0 : namedP 10 = (⟨false, false, false, false, false, false, true⟩, true) := rfl
         simp only [getLetR, u1, u2, u3, hP0, restR, cond_true, cond_false, decide_true, Bool.not_true, z0]
         first | done | rfl
       rw [hg]
       first
         | (rw [decide_eq_false h]; rfl)
         | (rename_i h9; rw [decide_eq_true h9, h]; rfl)
         | (rename_i h9; rw [h9, h]; rfl))
set_option maxRecDepth 100000 in
theorem v_gl11 (xs : List (List PD)) (hp0 : isB8 xs) {s d a1 w1 a2 w2 a3 : Int} (u1 : numR xs 0 0 = (11, a1, w1)) (u2 : numR xs a1 w1 = (s, a2, w2)) (u3 : numR xs a2 w2 = (d, a3, 0)) : FnV Try.prog 22 [.d (.slc 1 xs)] (.tup [Letter.D (((getLet xs)).1), intD (((getLet xs)).2)]) := by
  obtain ⟨GFsR5, hFsR5⟩ : ∃ F, F = FsR50 := ⟨_, rfl⟩
  obtain ⟨GFsS, hFsS⟩ : ∃ F, F = FsS0 := ⟨_, rfl⟩
  obtain ⟨GFsR, hFsR⟩ : ∃ F, F = FsR0 := ⟨_, rfl⟩
  obtain ⟨GFsLH, hFsLH⟩ : ∃ F, F = FsLH0 := ⟨_, rfl⟩
  have hH : SoundK Try.prog [kn_rightL2 GFsR5] := by subst hFsR5 hFsS hFsR hFsLH; exact orK_ok ok_rightL2 noK_ok
  have hB : SoundB Try.prog [kb_rRead GFsS, kb_rNum GFsR, kb_rText GFsR, kb_rEnd GFsR, kb_rInst GFsLH, kb_rBal GFsLH, kb_rCmd GFsLH, kb_rAttr GFsLH, kb_rCell GFsLH] := by subst hFsR5 hFsS hFsR hFsLH; exact orB_ok okb_rRead (orB_ok okb_rNum (orB_ok okb_rText (orB_ok okb_rEnd (orB_ok okb_rInst (orB_ok okb_rBal (orB_ok okb_rCmd (orB_ok okb_rAttr (orB_ok okb_rCell noB_ok))))))))
  refine FnD_cbv (T := fun _ => tabY [5003] []) (H := fun _ => [kn_rightL2 GFsR5]) (tabY_ok _ _) hH follows_mixed Try.func22 rfl Try.ntmps22 (by simp) fun A X W hA hX hW => ?_
  cbv
  have l0 : A.cmp .lss 0 7 = true := by subst hA; rfl
  cbv at l0
  have l1 : A.cmp .lss 1 7 = true := by subst hA; rfl
  cbv at l1
  have l2 : A.cmp .lss 2 7 = true := by subst hA; rfl
  cbv at l2
  have l3 : A.cmp .lss 3 7 = true := by subst hA; rfl
  cbv at l3
  have l4 : A.cmp .lss 4 7 = true := by subst hA; rfl
  cbv at l4
  have l5 : A.cmp .lss 5 7 = true := by subst hA; rfl
  cbv at l5
  have l6 : A.cmp .lss 6 7 = true := by subst hA; rfl
  cbv at l6
  have l7 : A.cmp .lss 7 7 = false := by subst hA; rfl
  cbv at l7
  have b0 : A.bin .add .i64 0 1 = 1 := by subst hA; rfl
  cbv at b0
  have b1 : A.bin .add .i64 1 1 = 2 := by subst hA; rfl
  cbv at b1
  have b2 : A.bin .add .i64 2 1 = 3 := by subst hA; rfl
  cbv at b2
  have b3 : A.bin .add .i64 3 1 = 4 := by subst hA; rfl
  cbv at b3
  have b4 : A.bin .add .i64 4 1 = 5 := by subst hA; rfl
  cbv at b4
  have b5 : A.bin .add .i64 5 1 = 6 := by subst hA; rfl
  cbv at b5
  have b6 : A.bin .add .i64 6 1 = 7 := by subst hA; rfl
  cbv at b6
  have o0_0 : A.off 0 0 1 = 0 := by subst hA; rfl
  cbv at o0_0
  have o0_1 : A.off 0 1 1 = 1 := by subst hA; rfl
  cbv at o0_1
  have o0_2 : A.off 0 2 1 = 2 := by subst hA; rfl
  cbv at o0_2
  have o0_3 : A.off 0 3 1 = 3 := by subst hA; rfl
  cbv at o0_3
  have o0_4 : A.off 0 4 1 = 4 := by subst hA; rfl
  cbv at o0_4
  have o0_5 : A.off 0 5 1 = 5 := by subst hA; rfl
  cbv at o0_5
  have o0_6 : A.off 0 6 1 = 6 := by subst hA; rfl
  cbv at o0_6
  have z00 : A.cmp .eql 0 0 = true := by subst hA; rfl
  have tff : A.cond true false false = false := by subst hA; rfl
  cbv at z00 tff
  refine callB hX hB ?_
  cbv
  refine And.intro (by subst hFsS; exact hp0) ?_
  have h0 : isRd xs 0 0 := rd0 hp0
  refine callB hX hB ?_
  cbv
  refine And.intro (by subst hFsR; exact h0) ?_
  have e1 : GFsR.num xs 0 0 = (11, a1, w1) := by subst hFsR; exact u1
  have h1 := (num_rd h0).1
  rw [u1] at h1
  cbv at e1
  simp only [e1]
  refine callB hX hB ?_
  cbv
  refine And.intro (by subst hFsR; exact h1) ?_
  have e2 : GFsR.num xs a1 w1 = (s, a2, w2) := by subst hFsR; exact u2
  have h2 := (num_rd h1).1
  rw [u2] at h2
  cbv at e2
  simp only [e2]
  refine callB hX hB ?_
  cbv
  refine And.intro (by subst hFsR; exact h2) ?_
  have e3 : GFsR.num xs a2 w2 = (d, a3, 0) := by subst hFsR; exact u3
  have h3 := (num_rd h2).1
  rw [u3] at h3
  cbv at e3
  simp only [e3]
  have f1 : A.cmp .lss 11 1 = false := by subst hA; rfl
  have f2 : A.cmp .gtr 11 11 = false := by subst hA; rfl
  have f3 : A.cmp .lss 11 9 = false := by subst hA; rfl
  have f4 : A.cmp .neq 11 5 = true := by subst hA; rfl
  have g0 : A.cmp .eql 11 1 = false := by subst hA; rfl
  have g1 : A.cmp .eql 11 3 = false := by subst hA; rfl
  have g2 : A.cmp .eql 11 5 = false := by subst hA; rfl
  have g3 : A.cmp .eql 11 2 = false := by subst hA; rfl
  have g4 : A.cmp .eql 11 7 = false := by subst hA; rfl
  have g5 : A.cmp .eql 11 9 = false := by subst hA; rfl
  have g6 : A.cmp .eql 11 11 = true := by subst hA; rfl
  have g7 : A.cmp .eql 11 10 = false := by subst hA; rfl
  have ftf : A.cond false true false = false := by subst hA; rfl
  have fff : A.cond false false false = false := by subst hA; rfl
  cbv at f1 f2 f3 f4 g0 g1 g2 g3 g4 g5 g6 g7 ftf fff
  repeat' first
    | (simp only [f1, f2, f3, f4, g0, g1, g2, g3, g4, g5, g6, g7, ftf, fff, l0, l1, l2, l3, l4, l5, l6, l7, b0, b1, b2, b3, b4, b5, b6, o0_0, o0_1, o0_2, o0_3, o0_4, o0_5, o0_6, z00, tff]; cbv)
    | (refine And.intro ?_ ?_)
  rotate_right 1
  · refine unrollL (T := fun _ => tabY [5003] []) (H := fun _ => [kn_rightL2 GFsR5]) (tabY_ok _ _) hH follows_mixed hA hX 9 fun R2 hR2 => ?_
    cbv
    refine hR2 _ _ _ ?_
    cbv
    repeat' first
      | (simp only [f1, f2, f3, f4, g0, g1, g2, g3, g4, g5, g6, g7, ftf, fff, l0, l1, l2, l3, l4, l5, l6, l7, b0, b1, b2, b3, b4, b5, b6, o0_0, o0_1, o0_2, o0_3, o0_4, o0_5, o0_6, z00, tff]; cbv)
      | (refine part (fun h => ?_) (fun h => ?_) <;> try cbv)
      | (refine And.intro ?_ ?_)
      | ((with_reducible refine callB hX hB ?_) <;> cbv)
      | (refine hR2 _ _ _ ?_; cbv)
    all_goals clear hR2
    all_goals clear hH hB
    all_goals subst hA hX hW hFsR5 hFsS hFsR hFsLH
    all_goals try simp only [A0, nc, FsR50, FsS0, FsR0, FsLH0, decide_eq_true_eq, decide_eq_false_iff_not, Bool.not_eq_true', Bool.not_eq_false'] at *
    all_goals have y0 := (num_rd h3).1
    all_goals generalize z0 : numR xs a3 0 = q at *
    all_goals obtain ⟨f0, p0, v0⟩ := q
    all_goals try simp only at *
    all_goals have y1 := (num_rd y0).1
    all_goals generalize z1 : numR xs p0 v0 = q at *
    all_goals obtain ⟨f1, p1, v1⟩ := q
    all_goals try simp only at *
    all_goals have y2 := (num_rd y1).1
    all_goals generalize z2 : numR xs p1 v1 = q at *
    all_goals obtain ⟨f2, p2, v2⟩ := q
    all_goals try simp only at *
    all_goals have y3 := (num_rd y2).1
    all_goals generalize z3 : numR xs p2 v2 = q at *
    all_goals obtain ⟨f3, p3, v3⟩ := q
    all_goals try simp only at *
    all_goals have y4 := (num_rd y3).1
    all_goals generalize z4 : numR xs p3 v3 = q at *
    all_goals obtain ⟨f4, p4, v4⟩ := q
    all_goals try simp only at *
    all_goals have y5 := (num_rd y4).1
    all_goals generalize z5 : numR xs p4 v4 = q at *
    all_goals obtain ⟨f5, p5, v5⟩ := q
    all_goals try simp only at *
    all_goals have y6 := (num_rd y5).1
    all_goals generalize z6 : numR xs p5 v5 = q at *
    all_goals obtain ⟨f6, p6, v6⟩ := q
    all_goals try simp only at *
    all_goals first
      | assumption
      | exact ⟨by decide, by decide⟩
      | (simp; done)
      | (intros; first | assumption | trivial | (simp_all; done))
      | (exfalso; simp_all; done)
      | (refine ret_v ?_ rfl
         have hg : getLet xs = (bif !decide (endR xs p6 v6 = 0) then (zeroL, endR xs p6 v6) else bif !rightL (⟨11, s, d, 0, 0, 0, 0, 0, 0, 0, none8, none8, none8, none8, 0, 0, 0, 0, 0, 0, 0, 0, 0, 0, 0, 0, 0, 0, 0, 0, none8, none8, none8, none8, 0, 0, 0, 0, 0, 0, 0, 0, false, f0, f1, f2, f3, f4, f5, f6, none8⟩ : Letter) then (zeroL, 4) else ((⟨11, s, d, 0, 0, 0, 0, 0, 0, 0, none8, none8, none8, none8, 0, 0, 0, 0, 0, 0, 0, 0, 0, 0, 0, 0, 0, 0, 0, 0, none8, none8, none8, none8, 0, 0, 0, 0, 0, 0, 0, 0, false, f0, f1, f2, f3, f4, f5, f6, none8⟩ : Letter), 0)) := by
           rw [← getLetR_eq]
           have hP0 : namedP 11 = (⟨false, false, false, false, false, true, false⟩, true) := rfl
           simp only [getLetR, u1, u2, u3, hP0, restR, cond_true, cond_false, decide_true, Bool.not_true, z0, z1, z2, z3, z4, z5, z6]
           first | done | rfl
         rw [hg]
         first
           | (rw [decide_eq_false h]; rfl)
           | (rename_i h9; rw [decide_eq_true h9, h]; rfl)
           | (rename_i h9; rw [h9, h]; rfl))
  all_goals clear hH hB
  all_goals subst hA hX hW hFsR5 hFsS hFsR hFsLH
  all_goals try simp only [A0, nc, FsR50, FsS0, FsR0, FsLH0, decide_eq_true_eq, decide_eq_false_iff_not, Bool.not_eq_true', Bool.not_eq_false'] at *
  all_goals have y0 := (num_rd h3).1
  all_goals generalize z0 : numR xs a3 0 = q at *
  all_goals obtain ⟨f0, p0, v0⟩ := q
  all_goals try simp only at *
  all_goals have y1 := (num_rd y0).1
  all_goals generalize z1 : numR xs p0 v0 = q at *
  all_goals obtain ⟨f1, p1, v1⟩ := q
  all_goals try simp only at *
  all_goals have y2 := (num_rd y1).1
  all_goals generalize z2 : numR xs p1 v1 = q at *
  all_goals obtain ⟨f2, p2, v2⟩ := q
  all_goals try simp only at *
  all_goals have y3 := (num_rd y2).1
  all_goals generalize z3 : numR xs p2 v2 = q at *
  all_goals obtain ⟨f3, p3, v3⟩ := q
  all_goals try simp only at *
  all_goals have y4 := (num_rd y3).1
  all_goals generalize z4 : numR xs p3 v3 = q at *
  all_goals obtain ⟨f4, p4, v4⟩ := q
  all_goals try simp only at *
  all_goals have y5 := (num_rd y4).1
  all_goals generalize z5 : numR xs p4 v4 = q at *
  all_goals obtain ⟨f5, p5, v5⟩ := q
  all_goals try simp only at *
  all_goals have y6 := (num_rd y5).1
  all_goals generalize z6 : numR xs p5 v5 = q at *
  all_goals obtain ⟨f6, p6, v6⟩ := q
  all_goals try simp only at *
  all_goals first
    | assumption
    | exact ⟨by decide, by decide⟩
    | (simp; done)
    | (intros; first | assumption | trivial | (simp_all; done))
    | (exfalso; simp_all; done)
    | (refine ret_v ?_ rfl
       have hg : getLet xs = (bif !decide (endR xs p6 v6 = 0) then (zeroL, endR xs p6 v6) else bif !rightL (⟨11, s, d, 0, 0, 0, 0, 0, 0, 0, none8, none8, none8, none8, 0, 0, 0, 0, 0, 0, 0, 0, 0, 0, 0, 0, 0, 0, 0, 0, none8, none8, none8, none8, 0, 0, 0, 0, 0, 0, 0, 0, false, f0, f1, f2, f3, f4, f5, f6, none8⟩ : Letter) then (zeroL, 4) else ((⟨11, s, d, 0, 0, 0, 0, 0, 0, 0, none8, none8, none8, none8, 0, 0, 0, 0, 0, 0, 0, 0, 0, 0, 0, 0, 0, 0, 0, 0, none8, none8, none8, none8, 0, 0, 0, 0, 0, 0, 0, 0, false, f0, f1, f2, f3, f4, f5, f6, none8⟩ : Letter), 0)) := by
         rw [← getLetR_eq]
         have hP0 : namedP 11 = (⟨false, false, false, false, false, true, false⟩, true) := rfl
         simp only [getLetR, u1, u2, u3, hP0, restR, cond_true, cond_false, decide_true, Bool.not_true, z0, z1, z2, z3, z4, z5, z6]
         first | done | rfl
       rw [hg]
       first
         | (rw [decide_eq_false h]; rfl)
         | (rename_i h9; rw [decide_eq_true h9, h]; rfl)
         | (rename_i h9; rw [h9, h]; rfl))
end Go.Proofs.Ytbhapclaochcnaa
namespace Go.Proofs.Ytbhapclaochcnaa
open Go.RowKit
set_option linter.all false
set_option maxHeartbeats 8000000
set_option maxRecDepth 100000 in
theorem v_glw (xs : List (List PD)) (hp0 : isB8 xs) {k s d a1 w1 a2 w2 a3 w3 : Int} (u1 : numR xs 0 0 = (k, a1, w1)) (u2 : numR xs a1 w1 = (s, a2, w2)) (u3 : numR xs a2 w2 = (d, a3, w3)) (hw : ¬ w3 = 0) : FnV Try.prog 22 [.d (.slc 1 xs)] (.tup [Letter.D (((getLet xs)).1), intD (((getLet xs)).2)]) := by
  obtain ⟨GFsR5, hFsR5⟩ : ∃ F, F = FsR50 := ⟨_, rfl⟩
  obtain ⟨GFsS, hFsS⟩ : ∃ F, F = FsS0 := ⟨_, rfl⟩
  obtain ⟨GFsR, hFsR⟩ : ∃ F, F = FsR0 := ⟨_, rfl⟩
  obtain ⟨GFsLH, hFsLH⟩ : ∃ F, F = FsLH0 := ⟨_, rfl⟩
  have hH : SoundK Try.prog [kn_rightL2 GFsR5] := by subst hFsR5 hFsS hFsR hFsLH; exact orK_ok ok_rightL2 noK_ok
  have hB : SoundB Try.prog [kb_rRead GFsS, kb_rNum GFsR, kb_rText GFsR, kb_rEnd GFsR, kb_rInst GFsLH, kb_rBal GFsLH, kb_rCmd GFsLH, kb_rAttr GFsLH, kb_rCell GFsLH] := by subst hFsR5 hFsS hFsR hFsLH; exact orB_ok okb_rRead (orB_ok okb_rNum (orB_ok okb_rText (orB_ok okb_rEnd (orB_ok okb_rInst (orB_ok okb_rBal (orB_ok okb_rCmd (orB_ok okb_rAttr (orB_ok okb_rCell noB_ok))))))))
  refine FnD_cbv (T := fun _ => tabY [5003] []) (H := fun _ => [kn_rightL2 GFsR5]) (tabY_ok _ _) hH follows_mixed Try.func22 rfl Try.ntmps22 (by simp) fun A X W hA hX hW => ?_
  cbv
  have l0 : A.cmp .lss 0 7 = true := by subst hA; rfl
  cbv at l0
  have l1 : A.cmp .lss 1 7 = true := by subst hA; rfl
  cbv at l1
  have l2 : A.cmp .lss 2 7 = true := by subst hA; rfl
  cbv at l2
  have l3 : A.cmp .lss 3 7 = true := by subst hA; rfl
  cbv at l3
  have l4 : A.cmp .lss 4 7 = true := by subst hA; rfl
  cbv at l4
  have l5 : A.cmp .lss 5 7 = true := by subst hA; rfl
  cbv at l5
  have l6 : A.cmp .lss 6 7 = true := by subst hA; rfl
  cbv at l6
  have l7 : A.cmp .lss 7 7 = false := by subst hA; rfl
  cbv at l7
  have b0 : A.bin .add .i64 0 1 = 1 := by subst hA; rfl
  cbv at b0
  have b1 : A.bin .add .i64 1 1 = 2 := by subst hA; rfl
  cbv at b1
  have b2 : A.bin .add .i64 2 1 = 3 := by subst hA; rfl
  cbv at b2
  have b3 : A.bin .add .i64 3 1 = 4 := by subst hA; rfl
  cbv at b3
  have b4 : A.bin .add .i64 4 1 = 5 := by subst hA; rfl
  cbv at b4
  have b5 : A.bin .add .i64 5 1 = 6 := by subst hA; rfl
  cbv at b5
  have b6 : A.bin .add .i64 6 1 = 7 := by subst hA; rfl
  cbv at b6
  have o0_0 : A.off 0 0 1 = 0 := by subst hA; rfl
  cbv at o0_0
  have o0_1 : A.off 0 1 1 = 1 := by subst hA; rfl
  cbv at o0_1
  have o0_2 : A.off 0 2 1 = 2 := by subst hA; rfl
  cbv at o0_2
  have o0_3 : A.off 0 3 1 = 3 := by subst hA; rfl
  cbv at o0_3
  have o0_4 : A.off 0 4 1 = 4 := by subst hA; rfl
  cbv at o0_4
  have o0_5 : A.off 0 5 1 = 5 := by subst hA; rfl
  cbv at o0_5
  have o0_6 : A.off 0 6 1 = 6 := by subst hA; rfl
  cbv at o0_6
  have z00 : A.cmp .eql 0 0 = true := by subst hA; rfl
  have tff : A.cond true false false = false := by subst hA; rfl
  cbv at z00 tff
  refine callB hX hB ?_
  cbv
  refine And.intro (by subst hFsS; exact hp0) ?_
  have h0 : isRd xs 0 0 := rd0 hp0
  refine callB hX hB ?_
  cbv
  refine And.intro (by subst hFsR; exact h0) ?_
  have e1 : GFsR.num xs 0 0 = (k, a1, w1) := by subst hFsR; exact u1
  have h1 := (num_rd h0).1
  rw [u1] at h1
  cbv at e1
  simp only [e1]
  refine callB hX hB ?_
  cbv
  refine And.intro (by subst hFsR; exact h1) ?_
  have e2 : GFsR.num xs a1 w1 = (s, a2, w2) := by subst hFsR; exact u2
  have h2 := (num_rd h1).1
  rw [u2] at h2
  cbv at e2
  simp only [e2]
  refine callB hX hB ?_
  cbv
  refine And.intro (by subst hFsR; exact h2) ?_
  have e3 : GFsR.num xs a2 w2 = (d, a3, w3) := by subst hFsR; exact u3
  have h3 := (num_rd h2).1
  rw [u3] at h3
  cbv at e3
  simp only [e3]
  have q0 : GFsLH.inst2 xs a3 w3 = (⟨0, 0⟩, a3, w3) := by subst hFsLH; exact inst_wrong hw
  have q1 : GFsLH.bal2 xs a3 w3 = (⟨0, 0⟩, a3, w3) := by subst hFsLH; exact bal_wrong hw
  have q2 : GFsLH.cmd2 xs a3 w3 = (⟨0, 0, 0, none8, none8, none8, none8⟩, a3, w3) := by subst hFsLH; exact getCR_wrong hw
  have q3 : GFsLH.attr2 xs a3 w3 = (⟨0, 0, 0, 0, 0, 0, 0, 0⟩, a3, w3) := by subst hFsLH; exact getAR_wrong hw
  have q4 : GFsLH.cell xs a3 w3 = (⟨0, 0, 0, 0, 0, 0, 0, 0, none8, none8, none8, none8, 0, 0, 0, 0, 0, 0, 0, 0, false⟩, a3, w3) := by subst hFsLH; exact cellX_wrong hw
  have q5 : GFsR.num xs a3 w3 = (0, a3, w3) := by subst hFsR; exact numR_wrong hw
  have q6 : GFsR.text xs a3 w3 16384 = (none8, a3, w3) := by subst hFsR; exact textR_wrong hw
  have q7 : GFsR.fin xs a3 w3 = w3 := by subst hFsR; exact endR_wrong hw
  have z30 : A.cmp .eql w3 0 = false := by subst hA; exact decide_eq_false hw
  have z31 : A.cmp .neq w3 0 = true := by subst hA; show (!decide (w3 = 0)) = true; rw [decide_eq_false hw]; rfl
  have z32 : A.cond false (A.cond (A.cmp .lss k 1) true (A.cmp .gtr k 11)) false = false := by subst hA; rfl
  cbv at q0 q1 q2 q3 q4 q5 q6 q7 z30 z31 z32
  repeat' first
    | (simp only [q0, q1, q2, q3, q4, q5, q6, q7, z30, z31, z32, l0, l1, l2, l3, l4, l5, l6, l7, b0, b1, b2, b3, b4, b5, b6, o0_0, o0_1, o0_2, o0_3, o0_4, o0_5, o0_6]; cbv)
    | (refine part (fun h => ?_) (fun h => ?_) <;> try cbv)
    | (refine And.intro ?_ ?_)
    | ((with_reducible refine callB hX hB ?_) <;> cbv)
    | (with_reducible refine unrollL (T := fun _ => tabY [5003] []) (H := fun _ => [kn_rightL2 GFsR5]) (tabY_ok _ _) hH follows_mixed hA hX 9 fun R2 hR2 => ?_
       cbv
       refine hR2 _ _ _ ?_
       cbv)
    | (refine hR2 _ _ _ ?_; cbv)
  all_goals clear hH hB
  all_goals subst hA hX hW hFsR5 hFsS hFsR hFsLH
  all_goals first
    | exact h3
    | (refine ret_v ?_ rfl
       rw [getLet_wrong u1 u2 u3 hw]
       rfl)
    | (simp only [A0]
       first
         | exact id
         | exact fun _ => trivial
         | (intro q; rw [q]; rfl)
         | (intro q; simpa using q)
         | exact ⟨by decide, by decide⟩)
    | exact ⟨by decide, by decide⟩
set_option maxRecDepth 100000 in
theorem v_glk (xs : List (List PD)) (hp0 : isB8 xs) {k s d a1 w1 a2 w2 a3 : Int} (u1 : numR xs 0 0 = (k, a1, w1)) (u2 : numR xs a1 w1 = (s, a2, w2)) (u3 : numR xs a2 w2 = (d, a3, 0)) (hk : ¬ (1 ≤ k ∧ k ≤ 11)) : FnV Try.prog 22 [.d (.slc 1 xs)] (.tup [Letter.D (((getLet xs)).1), intD (((getLet xs)).2)]) := by
  obtain ⟨GFsR5, hFsR5⟩ : ∃ F, F = FsR50 := ⟨_, rfl⟩
  obtain ⟨GFsS, hFsS⟩ : ∃ F, F = FsS0 := ⟨_, rfl⟩
  obtain ⟨GFsR, hFsR⟩ : ∃ F, F = FsR0 := ⟨_, rfl⟩
  obtain ⟨GFsLH, hFsLH⟩ : ∃ F, F = FsLH0 := ⟨_, rfl⟩
  have hH : SoundK Try.prog [kn_rightL2 GFsR5] := by subst hFsR5 hFsS hFsR hFsLH; exact orK_ok ok_rightL2 noK_ok
  have hB : SoundB Try.prog [kb_rRead GFsS, kb_rNum GFsR, kb_rText GFsR, kb_rEnd GFsR, kb_rInst GFsLH, kb_rBal GFsLH, kb_rCmd GFsLH, kb_rAttr GFsLH, kb_rCell GFsLH] := by subst hFsR5 hFsS hFsR hFsLH; exact orB_ok okb_rRead (orB_ok okb_rNum (orB_ok okb_rText (orB_ok okb_rEnd (orB_ok okb_rInst (orB_ok okb_rBal (orB_ok okb_rCmd (orB_ok okb_rAttr (orB_ok okb_rCell noB_ok))))))))
  refine FnD_cbv (T := fun _ => tabY [5003] []) (H := fun _ => [kn_rightL2 GFsR5]) (tabY_ok _ _) hH follows_mixed Try.func22 rfl Try.ntmps22 (by simp) fun A X W hA hX hW => ?_
  cbv
  have l0 : A.cmp .lss 0 7 = true := by subst hA; rfl
  cbv at l0
  have l1 : A.cmp .lss 1 7 = true := by subst hA; rfl
  cbv at l1
  have l2 : A.cmp .lss 2 7 = true := by subst hA; rfl
  cbv at l2
  have l3 : A.cmp .lss 3 7 = true := by subst hA; rfl
  cbv at l3
  have l4 : A.cmp .lss 4 7 = true := by subst hA; rfl
  cbv at l4
  have l5 : A.cmp .lss 5 7 = true := by subst hA; rfl
  cbv at l5
  have l6 : A.cmp .lss 6 7 = true := by subst hA; rfl
  cbv at l6
  have l7 : A.cmp .lss 7 7 = false := by subst hA; rfl
  cbv at l7
  have b0 : A.bin .add .i64 0 1 = 1 := by subst hA; rfl
  cbv at b0
  have b1 : A.bin .add .i64 1 1 = 2 := by subst hA; rfl
  cbv at b1
  have b2 : A.bin .add .i64 2 1 = 3 := by subst hA; rfl
  cbv at b2
  have b3 : A.bin .add .i64 3 1 = 4 := by subst hA; rfl
  cbv at b3
  have b4 : A.bin .add .i64 4 1 = 5 := by subst hA; rfl
  cbv at b4
  have b5 : A.bin .add .i64 5 1 = 6 := by subst hA; rfl
  cbv at b5
  have b6 : A.bin .add .i64 6 1 = 7 := by subst hA; rfl
  cbv at b6
  have o0_0 : A.off 0 0 1 = 0 := by subst hA; rfl
  cbv at o0_0
  have o0_1 : A.off 0 1 1 = 1 := by subst hA; rfl
  cbv at o0_1
  have o0_2 : A.off 0 2 1 = 2 := by subst hA; rfl
  cbv at o0_2
  have o0_3 : A.off 0 3 1 = 3 := by subst hA; rfl
  cbv at o0_3
  have o0_4 : A.off 0 4 1 = 4 := by subst hA; rfl
  cbv at o0_4
  have o0_5 : A.off 0 5 1 = 5 := by subst hA; rfl
  cbv at o0_5
  have o0_6 : A.off 0 6 1 = 6 := by subst hA; rfl
  cbv at o0_6
  have z00 : A.cmp .eql 0 0 = true := by subst hA; rfl
  have tff : A.cond true false false = false := by subst hA; rfl
  cbv at z00 tff
  refine callB hX hB ?_
  cbv
  refine And.intro (by subst hFsS; exact hp0) ?_
  have h0 : isRd xs 0 0 := rd0 hp0
  refine callB hX hB ?_
  cbv
  refine And.intro (by subst hFsR; exact h0) ?_
  have e1 : GFsR.num xs 0 0 = (k, a1, w1) := by subst hFsR; exact u1
  have h1 := (num_rd h0).1
  rw [u1] at h1
  cbv at e1
  simp only [e1]
  refine callB hX hB ?_
  cbv
  refine And.intro (by subst hFsR; exact h1) ?_
  have e2 : GFsR.num xs a1 w1 = (s, a2, w2) := by subst hFsR; exact u2
  have h2 := (num_rd h1).1
  rw [u2] at h2
  cbv at e2
  simp only [e2]
  refine callB hX hB ?_
  cbv
  refine And.intro (by subst hFsR; exact h2) ?_
  have e3 : GFsR.num xs a2 w2 = (d, a3, 0) := by subst hFsR; exact u3
  have h3 := (num_rd h2).1
  rw [u3] at h3
  cbv at e3
  simp only [e3]
  have f1 : A.cond (A.cmp .lss k 1) true (A.cmp .gtr k 11) = true := by
    subst hA
    show (bif decide (k < 1) then true else decide (11 < k)) = true
    by_cases q : k < 1
    · rw [decide_eq_true q]; rfl
    · rw [decide_eq_false q, decide_eq_true (show 11 < k by omega)]; rfl
  have f2 : A.cond true true false = true := by subst hA; rfl
  cbv at f1 f2
  repeat' first
    | (simp only [z00, f1, f2]; cbv)
    | (refine And.intro ?_ ?_)
  all_goals clear hH hB
  all_goals subst hA hX hW hFsR5 hFsS hFsR hFsLH
  all_goals first
    | (refine ret_v ?_ rfl; rw [getLet_kind u1 u2 u3 rfl hk]; rfl)
    | (simp only [A0]
       first
         | exact id
         | exact fun _ => trivial
         | (intro q; rw [q]; rfl)
         | (intro q; simpa using q))
theorem v_getLet2 (xs : List (List PD)) (hp0 : isB8 xs) : FnV Try.prog 22 [.d (.slc 1 xs)] (.tup [Letter.D (((getLet xs)).1), intD (((getLet xs)).2)]) := by
  obtain ⟨⟨k, a1, w1⟩, u1⟩ : ∃ q, numR xs 0 0 = q := ⟨_, rfl⟩
  obtain ⟨⟨s, a2, w2⟩, u2⟩ : ∃ q, numR xs a1 w1 = q := ⟨_, rfl⟩
  obtain ⟨⟨d, a3, w3⟩, u3⟩ : ∃ q, numR xs a2 w2 = q := ⟨_, rfl⟩
  by_cases hw : w3 = 0
  · subst hw
    by_cases hk : 1 ≤ k ∧ k ≤ 11
    · rcases kinds hk with e | e | e | e | e | e | e | e | e | e | e
      all_goals subst e
      · exact v_gl1 xs hp0 u1 u2 u3
      · exact v_gl2 xs hp0 u1 u2 u3
      · exact v_gl3 xs hp0 u1 u2 u3
      · exact v_gl4 xs hp0 u1 u2 u3
      · exact v_gl5 xs hp0 u1 u2 u3
      · exact v_gl6 xs hp0 u1 u2 u3
      · exact v_gl7 xs hp0 u1 u2 u3
      · exact v_gl8 xs hp0 u1 u2 u3
      · exact v_gl9 xs hp0 u1 u2 u3
      · exact v_gl10 xs hp0 u1 u2 u3
      · exact v_gl11 xs hp0 u1 u2 u3
    · exact v_glk xs hp0 u1 u2 u3 hk
  · exact v_glw xs hp0 u1 u2 u3 hw
def kn_getLet2 (F : FsL7) : FuncId × (List DV → RV) := (22, fun args => match args with
  | [.d (.slc 1 xs)] => some ([F.isB8 xs], .tup [Letter.D (((F.getLet2 xs)).1), intD (((F.getLet2 xs)).2)])
  | [.d (.sc (.slice none 0 0))] => some ([F.isB8 []], .tup [Letter.D (((F.getLet2 [])).1), intD (((F.getLet2 [])).2)])
  | _ => none)
theorem ok_getLet2 (args : List DV) (cs : List Prop) (r : DV) (h : (kn_getLet2 FsL70).2 args = some (cs, r)) (hc : allP cs True) : FnV Try.prog 22 args r ∧ closedL 0 args = true := by
  unfold kn_getLet2 at h
  simp only at h
  split at h
  · cases h; exact ⟨v_getLet2 _ hc.1, rfl⟩
  · cases h; exact ⟨FnP.nils (v_getLet2 [] hc.1) ⟨.inr ⟨rfl, _, rfl⟩, trivial⟩, rfl⟩
  · cases h
end Go.Proofs.Ytbhapclaochcnaa
namespace Go.Proofs.Ytbhapclaochcnaa
open Go.RowKit
set_option linter.all false
def mark1 (m : Int) : List PD := [.sc (.int .u8 m)]
def roomyX (xs : List (List PD)) (m : Int) : List (List PD) := xs ++ List.replicate 80 (mark1 m)
/-- The cells, when so many places of the room are marked. -/
def roomC (xs : List (List PD)) (m : Int) (k : Nat) : List DV := rowsD xs ++ rowsD (List.replicate k (mark1 m)) ++ rowsD (List.replicate (80 - k) (mark1 0))
theorem told_st {k : Nat} {s s' : SL} {st st' : Store} (h : st = st') (hs : toldP id s s') : Told k s st s' st' := by subst h; exact told_less hs
theorem rowsD_rep (n : Nat) (p : PD) : rowsD (List.replicate n [p]) = List.replicate n (.d p) := by
  induction n with
  | zero => rfl
  | succ n ih => rw [List.replicate_succ, List.replicate_succ, ← ih]; rfl
theorem room0 {xs : List (List PD)} {m : Int} (h : (rowsD xs).length = xs.length) : splice (List.replicate ((xs.length : Int) + 80).toNat [DV.d (.sc (.int .u8 0))]).flatten 0 (rowsD xs) = roomC xs m 0 := by
  have e : (List.replicate ((xs.length : Int) + 80).toNat [DV.d (.sc (.int .u8 0))]).flatten = List.replicate (xs.length + 80) (DV.d (.sc (.int .u8 0))) := by
    rw [show ((xs.length : Int) + 80).toNat = xs.length + 80 by omega]
    simp
  rw [e]
  simp only [splice, roomC, mark1, rowsD_rep, h]
  simp
theorem splice_one (P Q : List DV) (z d : DV) (o : Nat) (h : o = P.length) : splice (P ++ z :: Q) o [d] = P ++ d :: Q := by
  subst h
  simp [splice]
theorem roomS {xs : List (List PD)} {m : Int} {k : Nat} (h : (rowsD xs).length = xs.length) (hk : k < 80) : splice (roomC xs m k) (0 + (xs.length + k) * 1) [DV.d (.sc (.int .u8 m))] = roomC xs m (k + 1) := by
  simp only [roomC, mark1, rowsD_rep]
  have e : 80 - k = (80 - (k + 1)) + 1 := by omega
  rw [e, List.replicate_succ, splice_one _ _ _ _ _ (by simp [h]), List.replicate_succ']
  simp
theorem roomC_len {xs : List (List PD)} {m : Int} {k : Nat} (h : (rowsD xs).length = xs.length) (hk : k ≤ 80) : (roomC xs m k).length = xs.length + 80 := by
  simp only [roomC, mark1, rowsD_rep, List.length_append, List.length_replicate, h]
  omega
theorem roomE {xs : List (List PD)} {m : Int} : roomC xs m 80 = rowsD (roomyX xs m) := by
  simp [roomC, roomyX, rowsD_append, rowsD]
def isM (m : Int) : Prop := ∃ b : UInt8, m = (b.toNat : Int)
set_option maxRecDepth 100000 in
theorem v_roomy (xs : List (List PD)) (m : Int) (hp0 : isB xs) (hp1 : isM m) : FnV Try.prog 21 [.d (.slc 1 xs), .d (.sc (.int .u8 m))] (.d (.slc 1 (roomyX xs m))) := by
  obtain ⟨bs, hxs, hb⟩ := hp0
  have hl : xs.length = bs.length := by rw [hxs]; exact bytesP_length bs
  have hH : SoundK Try.prog [] := by exact noK_ok
  have hB : SoundB Try.prog [] := by exact noB_ok
  refine FnD_cbv (T := fun _ => tabY [25] []) (H := fun _ => []) (tabY_ok _ _) hH follows_mixed Try.func21 rfl Try.ntmps21 (by simp) fun A X W hA hX hW => ?_
  cbv
  obtain ⟨N, hN⟩ : ∃ N, N = xs.length + 80 := ⟨_, rfl⟩
  have e1 : IntKind.wrap .i64 ((xs.length : Int) + 80) = xs.length + 80 := wrap_i64 (by unfold r64; omega)
  have hsz : (rowsD xs).length = xs.length := by rw [hxs, rowsB_length, bytesP_length]
  refine And.intro ?_ (And.intro ?_ (And.intro ?_ (And.intro ?_ ?_)))
  · subst hA; simp only [A0]; rw [e1]; omega
  · subst hA; simp only [A0]
  · subst hA; simp only [A0]; rw [e1]; omega
  · subst hA; simp only [A0]; rw [e1]; simp [hsz]; omega
  refine loopL (T := fun _ => tabY [25] []) (H := fun _ => []) (tabY_ok _ _) hH follows_mixed hA hX (fun x : List DV × Int => ∃ k : Nat, x.1 = roomC xs m k ∧ x.2 = xs.length + k ∧ k ≤ 80)
    (fun x => [(0, .d (.slc 1 xs)), (1, .d (.sc (.int .u8 m))), (5, .view 1 0 0 0 N), (6, .d (.sc (.int .i64 x.2)))]) (fun x => [⟨5, x.1, false, 0, true⟩])
    (fun x => 80 + xs.length - x.2.toNat) (roomC xs m 0, (xs.length : Int)) ?_ ?_ ?_
  · exact ⟨0, rfl, by simp, by omega⟩
  · subst hA
    refine told_st ?_ ?_
    · simp only [A0]
      rw [e1, room0 (m := m) hsz]
      simp
    · simp only [A0]
      rw [e1]
      simp [toldP, getS, hN]
      omega
  rintro R ⟨cells, i⟩ hR hinv
  cbv
  repeat' first
    | (refine part (fun h => ?_) (fun h => ?_) <;> try cbv)
    | (refine And.intro ?_ ?_)
  all_goals subst hR hA hX hW
  all_goals clear hH hB
  all_goals replace hinv : ∃ k : Nat, cells = roomC xs m k ∧ i = xs.length + k ∧ k ≤ 80 := hinv
  all_goals obtain ⟨k, hc, hi, hk⟩ := hinv
  all_goals simp only [A0, decide_eq_true_eq, decide_eq_false_iff_not] at *
  all_goals have hcl := roomC_len (m := m) hsz hk
  all_goals first
    | omega
    | (rw [hc, hcl]; omega)
    | (have hk8 : k < 80 := by omega
       have ei : IntKind.wrap .i64 (i + 1) = i + 1 := wrap_i64 (by unfold r64; omega)
       have ej : i.toNat = xs.length + k := by omega
       refine ⟨(roomC xs m (k + 1), i + 1), ⟨k + 1, rfl, (by show i + 1 = (xs.length : Int) + ((k + 1 : Nat) : Int); omega), by omega⟩, (by show 80 + xs.length - (i + 1).toNat < 80 + xs.length - i.toNat; omega), told_st (s := _) ?_ ?_⟩
       · rw [hc, ej, roomS hsz hk8]
       · simp [toldP, getS, ei])
    | (have hk8 : k = 80 := by omega
       subst hk8
       refine ret_slice rfl rfl rfl ?_ (by rw [hc]; exact roomE) ?_ rfl
       · simp [roomyX, hN]
       · intro x hx
         simp only [roomyX, List.mem_append, List.mem_replicate] at hx
         rcases hx with hx | ⟨_, rfl⟩
         · rw [hxs] at hx; exact bytesP_sz bs x hx
         · rfl)
def roomP (full xs : List (List PD)) (m : Int) : Prop := full = roomyX xs m
theorem roomy_row {xs : List (List PD)} {m i : Int} (h0 : (xs.length : Int) ≤ i) (h1 : i < xs.length + 80) : (roomyX xs m).getD i.toNat [] = mark1 m := by
  rw [roomyX, List.getD_eq_getElem?_getD, List.getElem?_append_right (by omega), List.getElem?_replicate, if_pos (by omega)]
  rfl
theorem roomy_len (xs : List (List PD)) (m : Int) : (roomyX xs m).length = xs.length + 80 := by simp [roomyX]
theorem roomy_take (xs : List (List PD)) (m : Int) : ((roomyX xs m).drop 0).take xs.length = xs := by simp [roomyX]
theorem isB_len {xs : List (List PD)} (h : isB xs) : xs.length ≤ 8000000 := by
  obtain ⟨bs, rfl, hb⟩ := h
  rw [bytesP_length]; exact hb
set_option maxRecDepth 100000 in
theorem v_intact (full xs : List (List PD)) (m : Int) (hp0 : isB xs) (hp1 : full = roomyX xs m) (hp2 : isM m) : FnV Try.prog 28 [.d (.slc 1 full), .d (.slc 1 xs), .d (.sc (.int .u8 m))] (boolD true) := by
  have hb := isB_len hp0
  have hl : full.length = xs.length + 80 := by rw [hp1, roomy_len]
  obtain ⟨GFsQ, hFsQ⟩ : ∃ F, F = FsQ0 := ⟨_, rfl⟩
  have hH : SoundK Try.prog [kn_same GFsQ] := by subst hFsQ; exact orK_ok ok_same noK_ok
  have hB : SoundB Try.prog [] := by subst hFsQ; exact noB_ok
  refine FnD_cbv (T := fun _ => tabY [33] []) (H := fun _ => [kn_same GFsQ]) (tabY_ok _ _) hH follows_mixed Try.func28 rfl Try.ntmps28 (by simp) fun A X W hA hX hW => ?_
  cbv
  have e1 : IntKind.wrap .i64 ((xs.length : Int) + 80) = xs.length + 80 := wrap_i64 (by unfold r64; omega)
  have ht : (full.drop 0).take xs.length = xs := by rw [hp1]; exact roomy_take xs m
  have hs : sameX xs xs = true := by simp [sameX]
  repeat' first
    | (refine And.intro ?_ ?_)
  rotate_right 1
  refine part (fun h => ?_) (fun h => ?_)
  · exfalso
    subst hA hFsQ
    simp only [A0, FsQ0] at h
    simp [hl, e1, hs, hp1, roomyX] at h
    try omega
  cbv
  refine loopL (T := fun _ => tabY [33] []) (H := fun _ => [kn_same GFsQ]) (tabY_ok _ _) hH follows_mixed hA hX (fun i : Int => (xs.length : Int) ≤ i ∧ i ≤ xs.length + 80)
    (fun i => [(0, .d (.slc 1 full)), (1, .d (.slc 1 xs)), (2, .d (.sc (.int .u8 m))), (7, .d (.sc (.int .i64 i)))]) (fun _ => [])
    (fun i => 80 + xs.length - i.toNat) (xs.length : Int) ?_ ?_ ?_
  · exact ⟨by omega, by omega⟩
  · subst hA
    exact told_less (by simp [toldP, getS, A0])
  rintro R i hR ⟨i0, i1⟩
  cbv
  repeat' first
    | (refine part (fun h => ?_) (fun h => ?_) <;> try cbv)
    | (refine And.intro ?_ ?_)
    | (with_reducible refine callB hX hB ?_) <;> cbv
  all_goals try subst hR
  all_goals subst hA hX hW hFsQ
  all_goals clear hH hB
  all_goals simp only [A0, FsQ0, decide_eq_true_eq, decide_eq_false_iff_not, Bool.not_eq_true', Bool.not_eq_false'] at *
  all_goals try replace i0 : (xs.length : Int) ≤ i := i0
  all_goals try replace i1 : i ≤ (xs.length : Int) + 80 := i1
  all_goals first
    | assumption
    | omega
    | (rw [hp1, roomy_row i0 (by omega)]; simp [mark1]; done)
    | (exfalso; rw [hp1, roomy_row i0 (by omega)] at h; simp [mark1] at h; done)
    | exact ret_v rfl rfl
    | (have ei : IntKind.wrap .i64 (i + 1) = i + 1 := wrap_i64 (by unfold r64; omega)
       refine ⟨i + 1, (by show (xs.length : Int) ≤ i + 1 ∧ i + 1 ≤ (xs.length : Int) + 80; omega), (by show 80 + xs.length - (i + 1).toNat < 80 + xs.length - i.toNat; omega), told_less ?_⟩
       simp [toldP, getS, ei])
    | (intros; first | assumption | trivial | (simp_all; done) | (rw [show ((xs.length : Int)).toNat - Int.toNat 0 = xs.length by omega]; rw [show Int.toNat 0 = 0 from rfl, ht]; assumption) | (refine ⟨?_, ?_, ?_⟩ <;> omega))
structure FsU where
  roomy : List (List PD) → Int → List (List PD)
  roomP : List (List PD) → List (List PD) → Int → Prop
  isB : List (List PD) → Prop
  isM : Int → Prop
  intact : List (List PD) → List (List PD) → Int → Bool
def FsU0 : FsU where
  roomy := roomyX
  roomP := roomP
  isB := isB
  isM := isM
  intact := fun _ _ _ => true
def kn_roomy (F : FsU) : FuncId × (List DV → RV) := (21, fun args => match args with
  | [.d (.slc 1 xs), .d (.sc (.int .u8 m))] => some ([F.isB xs, F.isM m], .d (.slc 1 (F.roomy xs m)))
  | [.d (.sc (.slice none 0 0)), .d (.sc (.int .u8 m))] => some ([F.isB [], F.isM m], .d (.slc 1 (F.roomy [] m)))
  | _ => none)
theorem ok_roomy (args : List DV) (cs : List Prop) (r : DV) (h : (kn_roomy FsU0).2 args = some (cs, r)) (hc : allP cs True) : FnV Try.prog 21 args r ∧ closedL 0 args = true := by
  unfold kn_roomy at h
  simp only at h
  split at h
  · cases h; exact ⟨v_roomy _ _ hc.1 hc.2.1, rfl⟩
  · cases h; exact ⟨FnP.nils (v_roomy [] _ hc.1 hc.2.1) ⟨.inr ⟨rfl, _, rfl⟩, ⟨.inl rfl, trivial⟩⟩, rfl⟩
  · cases h
def kn_intact (F : FsU) : FuncId × (List DV → RV) := (28, fun args => match args with
  | [.d (.slc 1 full), .d (.slc 1 xs), .d (.sc (.int .u8 m))] => some ([F.isB xs, F.roomP full xs m, F.isM m], boolD ((F.intact full xs m)))
  | [.d (.sc (.slice none 0 0)), .d (.slc 1 xs), .d (.sc (.int .u8 m))] => some ([F.isB xs, F.roomP [] xs m, F.isM m], boolD ((F.intact [] xs m)))
  | [.d (.slc 1 full), .d (.sc (.slice none 0 0)), .d (.sc (.int .u8 m))] => some ([F.isB [], F.roomP full [] m, F.isM m], boolD ((F.intact full [] m)))
  | [.d (.sc (.slice none 0 0)), .d (.sc (.slice none 0 0)), .d (.sc (.int .u8 m))] => some ([F.isB [], F.roomP [] [] m, F.isM m], boolD ((F.intact [] [] m)))
  | _ => none)
theorem ok_intact (args : List DV) (cs : List Prop) (r : DV) (h : (kn_intact FsU0).2 args = some (cs, r)) (hc : allP cs True) : FnV Try.prog 28 args r ∧ closedL 0 args = true := by
  unfold kn_intact at h
  simp only at h
  split at h
  · cases h; exact ⟨v_intact _ _ _ hc.1 hc.2.1 hc.2.2.1, rfl⟩
  · cases h; exact ⟨FnP.nils (v_intact [] _ _ hc.1 hc.2.1 hc.2.2.1) ⟨.inr ⟨rfl, _, rfl⟩, ⟨.inl rfl, ⟨.inl rfl, trivial⟩⟩⟩, rfl⟩
  · cases h; exact ⟨FnP.nils (v_intact _ [] _ hc.1 hc.2.1 hc.2.2.1) ⟨.inl rfl, ⟨.inr ⟨rfl, _, rfl⟩, ⟨.inl rfl, trivial⟩⟩⟩, rfl⟩
  · cases h; exact ⟨FnP.nils (v_intact [] [] _ hc.1 hc.2.1 hc.2.2.1) ⟨.inr ⟨rfl, _, rfl⟩, ⟨.inr ⟨rfl, _, rfl⟩, ⟨.inl rfl, trivial⟩⟩⟩, rfl⟩
  · cases h
end Go.Proofs.Ytbhapclaochcnaa
