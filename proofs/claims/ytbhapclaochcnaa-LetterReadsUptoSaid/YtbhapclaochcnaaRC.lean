/- Ballots and cells, read. No condition. -/
import Derived.Test.YtbhapclaochcnaaRB
namespace Go.Proofs.Ytbhapclaochcnaa
open Go.RowKit
set_option linter.all false
set_option maxHeartbeats 8000000
def getBalX (xs : List (List PD)) (a w : Int) : Ballot × Int × Int :=
  let e := numR xs a w
  let r := numR xs e.2.1 e.2.2
  (⟨e.1, r.1⟩, r.2)
theorem getBal_rd {xs : List (List PD)} {a w : Int} (h : isRd xs a w) : isRd xs (getBalX xs a w).2.1 (getBalX xs a w).2.2 := (num_rd (num_rd h).1).1
theorem flag_rd {xs : List (List PD)} {a w : Int} (h : isRd xs a w) : isRd xs (flagR xs a w).2.1 (flagR xs a w).2.2 := by
  obtain ⟨bs, hxs, hby, hlx, hb, h0, h1, hw0, hw1⟩ := isRd_len h
  unfold flagR flagL
  rw [hby]
  split
  · exact h
  · cases hg : bs[a.toNat]? with
    | none => exact ⟨h.1, h.2.1, h.2.2.1, by simp only; omega, by simp only; omega⟩
    | some c =>
      have := (List.getElem?_eq_some_iff.1 hg).1
      simp only
      split
      · exact ⟨h.1, h.2.1, h.2.2.1, by simp only; omega, by simp only; omega⟩
      · exact ⟨h.1, by simp only; omega, by simp only; omega, by simp only; omega, by simp only; omega⟩
/-- A cell, read; ahead of the look at what it is. -/
def getCellB (xs : List (List PD)) (a w : Int) : Cell × Int × Int :=
  let s := numR xs a w
  let p := getBalX xs s.2.1 s.2.2
  if s.1 = 0 then (promC 0 p.1.epoch p.1.replica, p.2) else
    let v := getBalX xs p.2.1 p.2.2
    let c := getX xs v.2.1 v.2.2
    let t := getA xs c.2.1 c.2.2
    let f := flagR xs t.2.1 t.2.2
    (⟨s.1, p.1.epoch, p.1.replica, v.1.epoch, v.1.replica, c.1.kind, c.1.client, c.1.seq, c.1.key, c.1.fin, c.1.old, c.1.val, t.1.seq, t.1.d0, t.1.d1, t.1.d2, t.1.d3, t.1.d4, t.1.d5, t.1.d6, f.1⟩, f.2)
def getCellX (xs : List (List PD)) (a w : Int) : Cell × Int × Int :=
  let g := getCellB xs a w
  if g.2.2 = 0 then (if rightCell g.1 = true then g else (promC 0 0 0, g.2.1, 4)) else (promC 0 0 0, g.2.1, g.2.2)
theorem getCellB_rd {xs : List (List PD)} {a w : Int} (h : isRd xs a w) : isRd xs (getCellB xs a w).2.1 (getCellB xs a w).2.2 := by
  have h1 := (num_rd h).1
  have h2 := getBal_rd h1
  unfold getCellB
  simp only
  split
  · exact h2
  · exact flag_rd (getA_rd (get_rd (getBal_rd h2)))
theorem getCell_rd {xs : List (List PD)} {a w : Int} (h : isRd xs a w) : isRd xs (getCellX xs a w).2.1 (getCellX xs a w).2.2 := by
  have h1 := getCellB_rd h
  unfold getCellX
  simp only
  split
  · split
    · exact h1
    · exact ⟨h.1, h1.2.1, h1.2.2.1, by simp only; omega, by simp only; omega⟩
  · exact h1
structure FsLG where
  bal : List (List PD) → Int → Int → Ballot × Int × Int
  cell : List (List PD) → Int → Int → Cell × Int × Int
  rd : List (List PD) → Int → Int → Prop
def FsLG0 : FsLG where
  bal := getBalX
  cell := getCellX
  rd := isRd
set_option maxRecDepth 100000 in
theorem v_gBal (xs : List (List PD)) (a w : Int) (hp0 : isRd xs a w) : FnD Try.prog 67 [.ref 0 0 0] [rdB 95 xs a w] (fun r st' => r = Ballot.D ((FsLG0.bal xs a w).1) ∧ st' = [rdB 95 xs (FsLG0.bal xs a w).2.1 (FsLG0.bal xs a w).2.2]) := by
  obtain ⟨GFsR, hFsR⟩ : ∃ F, F = FsR0 := ⟨_, rfl⟩
  have hH : SoundK Try.prog [] := by subst hFsR; exact noK_ok
  have hB : SoundB Try.prog [kb_pNum GFsR] := by subst hFsR; exact orB_ok okb_pNum noB_ok
  refine FnD_cbv (T := fun _ => tabY [] []) (H := fun _ => []) (tabY_ok _ _) hH follows_mixed Try.func67 rfl Try.ntmps67 (by simp) fun A X W hA hX hW => ?_
  cbv
  repeat' first
    | (refine part (fun h => ?_) (fun h => ?_) <;> try cbv)
    | (refine And.intro ?_ ?_)
    | (with_reducible refine callB hX hB ?_) <;> cbv
  all_goals clear hH hB
  all_goals subst hA hX hW hFsR
  all_goals try simp only [A0, FsR0] at *
  all_goals first
    | assumption
    | exact (num_rd hp0).1
    | (refine ret_keep [0] rfl ⟨?_, ?_⟩ <;> rfl)
def kb_gBal (F : FsLG) : FuncId × (List DV → Store → SV) := (67, fun args st => match args with
  | [.ref b ver o] => (match st[b]? with
    | some ⟨t, [.d (.slc 1 xs), .d (.sc (.int .i64 a)), .d (.sc (.int .i64 w))], false, v, true⟩ => (bif (ver == 0) && (o == 0) && (v == 0) && (t == 95) then some ([F.rd xs a w], Ballot.D ((F.bal xs a w).1), st.set b (rdB 95 xs (F.bal xs a w).2.1 (F.bal xs a w).2.2)) else none)
    | _ => none)
  | _ => none)
theorem okb_gBal (args : List DV) (st : Store) (cs : List Prop) (r : DV) (st' : Store) (h : (kb_gBal FsLG0).2 args st = some (cs, r, st')) (hc : allP cs True) (K : DV → Store → Prop) (hk : K r st') : FnD Try.prog 67 args st K := by
  unfold kb_gBal at h
  simp only at h
  split at h
  · split at h
    · rename_i hb
      simp only [cond_eq_ite, Bool.and_eq_true, beq_iff_eq, Option.ite_none_right_eq_some] at h
      obtain ⟨⟨⟨⟨rfl, rfl⟩, rfl⟩, rfl⟩, h⟩ := h
      cases h
      exact FnD.one _ (v_gBal _ _ _ hc.1) hb rfl rfl rfl rfl hk
    · cases h
  · cases h
set_option maxRecDepth 100000 in
theorem v_gCell (xs : List (List PD)) (a w : Int) (hp0 : isRd xs a w) : FnD Try.prog 25 [.ref 0 0 0] [rdB 95 xs a w] (fun r st' => r = Cell.D ((FsLG0.cell xs a w).1) ∧ st' = [rdB 95 xs (FsLG0.cell xs a w).2.1 (FsLG0.cell xs a w).2.2]) := by
  obtain ⟨GFsL1, hFsL1⟩ : ∃ F, F = FsL10 := ⟨_, rfl⟩
  obtain ⟨GFsR, hFsR⟩ : ∃ F, F = FsR0 := ⟨_, rfl⟩
  obtain ⟨GFsLG, hFsLG⟩ : ∃ F, F = FsLG0 := ⟨_, rfl⟩
  obtain ⟨GFsG, hFsG⟩ : ∃ F, F = FsG0 := ⟨_, rfl⟩
  obtain ⟨GFsDq, hFsDq⟩ : ∃ F, F = FsDq0 := ⟨_, rfl⟩
  have hH : SoundK Try.prog [kn_rightCell GFsL1] := by subst hFsL1 hFsR hFsLG hFsG hFsDq; exact orK_ok ok_rightCell noK_ok
  have hB : SoundB Try.prog [kb_pNum GFsR, kb_gBal GFsLG, kb_cGet GFsG, kb_dGet GFsDq, kb_pFlag GFsR, kb_pwrong GFsR, kb_pFail GFsR] := by subst hFsL1 hFsR hFsLG hFsG hFsDq; exact orB_ok okb_pNum (orB_ok okb_gBal (orB_ok okb_cGet (orB_ok okb_dGet (orB_ok okb_pFlag (orB_ok okb_pwrong (orB_ok okb_pFail noB_ok))))))
  refine FnD_cbv (T := fun _ => tabY [] []) (H := fun _ => [kn_rightCell GFsL1]) (tabY_ok _ _) hH follows_mixed Try.func25 rfl Try.ntmps25 (by simp) fun A X W hA hX hW => ?_
  cbv
  repeat' first
    | (refine part (fun h => ?_) (fun h => ?_) <;> try cbv)
    | (refine And.intro ?_ ?_)
    | (with_reducible refine callB hX hB ?_) <;> cbv
  all_goals clear hH hB
  all_goals subst hA hX hW hFsL1 hFsR hFsLG hFsG hFsDq
  all_goals try simp only [A0, nc, FsL10, FsR0, FsLG0, FsG0, FsDq0, decide_eq_true_eq, decide_eq_false_iff_not, Bool.not_eq_true', Bool.not_eq_false'] at *
  all_goals have h0 := (num_rd hp0).1
  all_goals generalize e0 : numR xs a w = q at *
  all_goals obtain ⟨n0, a0, w0⟩ := q
  all_goals try simp only at *
  all_goals have h1 := getBal_rd h0
  all_goals generalize e1 : getBalX xs a0 w0 = q at *
  all_goals obtain ⟨⟨pe, pr⟩, a1, w1⟩ := q
  all_goals try simp only at *
  all_goals have h2 := getBal_rd h1
  all_goals generalize e2 : getBalX xs a1 w1 = q at *
  all_goals obtain ⟨⟨ve, vr⟩, a2, w2⟩ := q
  all_goals try simp only at *
  all_goals have h3 := get_rd h2
  all_goals generalize e3 : getX xs a2 w2 = q at *
  all_goals obtain ⟨⟨c0, c1, c2, c3, c4, c5, c6⟩, a3, w3⟩ := q
  all_goals try simp only at *
  all_goals have h4 := getA_rd h3
  all_goals generalize e4 : getA xs a3 w3 = q at *
  all_goals obtain ⟨⟨t0, t1, t2, t3, t4, t5, t6, t7⟩, a4, w4⟩ := q
  all_goals try simp only at *
  all_goals have h5 := flag_rd h4
  all_goals generalize e5 : flagR xs a4 w4 = q at *
  all_goals obtain ⟨f, a5, w5⟩ := q
  all_goals try simp only at *
  all_goals first
    | assumption
    | exact fail_rd ‹_›
    | (intros; first | assumption | trivial | (simp_all; done))
    | (exfalso; simp_all; done)
    | (refine ret_keep [0] rfl ⟨?_, ?_⟩ <;> (simp_all [FsLG0, pullD, pullL, keepSt, pullBox, getCellX, getCellB, failR, Cell.D, promC, intD, strD, boolD]; done))
def kb_gCell (F : FsLG) : FuncId × (List DV → Store → SV) := (25, fun args st => match args with
  | [.ref b ver o] => (match st[b]? with
    | some ⟨t, [.d (.slc 1 xs), .d (.sc (.int .i64 a)), .d (.sc (.int .i64 w))], false, v, true⟩ => (bif (ver == 0) && (o == 0) && (v == 0) && (t == 95) then some ([F.rd xs a w], Cell.D ((F.cell xs a w).1), st.set b (rdB 95 xs (F.cell xs a w).2.1 (F.cell xs a w).2.2)) else none)
    | _ => none)
  | _ => none)
theorem okb_gCell (args : List DV) (st : Store) (cs : List Prop) (r : DV) (st' : Store) (h : (kb_gCell FsLG0).2 args st = some (cs, r, st')) (hc : allP cs True) (K : DV → Store → Prop) (hk : K r st') : FnD Try.prog 25 args st K := by
  unfold kb_gCell at h
  simp only at h
  split at h
  · split at h
    · rename_i hb
      simp only [cond_eq_ite, Bool.and_eq_true, beq_iff_eq, Option.ite_none_right_eq_some] at h
      obtain ⟨⟨⟨⟨rfl, rfl⟩, rfl⟩, rfl⟩, h⟩ := h
      cases h
      exact FnD.one _ (v_gCell _ _ _ hc.1) hb rfl rfl rfl rfl hk
    · cases h
  · cases h
end Go.Proofs.Ytbhapclaochcnaa
namespace Go.Proofs.Ytbhapclaochcnaa
open Go.RowKit
set_option linter.all false
set_option maxHeartbeats 8000000
def restL (xs : List (List PD)) (a w : Int) (k s d : Int) (p : Parts) : Letter × Int × Int :=
  let i1 := bif p.inst then numR xs a w else (0, a, w)
  let i2 := bif p.inst then numR xs i1.2.1 i1.2.2 else (0, i1.2)
  let b := bif p.ballot then getBalX xs i2.2.1 i2.2.2 else (⟨0, 0⟩, i2.2)
  let c := bif p.cmd then getX xs b.2.1 b.2.2 else (⟨0, 0, 0, none8, none8, none8, none8⟩, b.2)
  let t := bif p.attr then getA xs c.2.1 c.2.2 else (⟨0, 0, 0, 0, 0, 0, 0, 0⟩, c.2)
  let l := bif p.cell then getCellX xs t.2.1 t.2.2 else (promC 0 0 0, t.2)
  let f0 := bif p.deps then numR xs l.2.1 l.2.2 else (0, l.2)
  let f1 := bif p.deps then numR xs f0.2.1 f0.2.2 else (0, f0.2)
  let f2 := bif p.deps then numR xs f1.2.1 f1.2.2 else (0, f1.2)
  let f3 := bif p.deps then numR xs f2.2.1 f2.2.2 else (0, f2.2)
  let f4 := bif p.deps then numR xs f3.2.1 f3.2.2 else (0, f3.2)
  let f5 := bif p.deps then numR xs f4.2.1 f4.2.2 else (0, f4.2)
  let f6 := bif p.deps then numR xs f5.2.1 f5.2.2 else (0, f5.2)
  let x := bif p.data then textR xs f6.2.1 f6.2.2 16384 else (none8, f6.2)
  (⟨k, s, d, i1.1, i2.1, b.1.epoch, b.1.replica, c.1.kind, c.1.client, c.1.seq, c.1.key, c.1.fin, c.1.old, c.1.val, t.1.seq, t.1.d0, t.1.d1, t.1.d2, t.1.d3, t.1.d4, t.1.d5, t.1.d6, l.1.status, l.1.pe, l.1.pr, l.1.ve, l.1.vr, l.1.ckind, l.1.cclient, l.1.cseq, l.1.ckey, l.1.cfin, l.1.cold, l.1.cval, l.1.aseq, l.1.ad0, l.1.ad1, l.1.ad2, l.1.ad3, l.1.ad4, l.1.ad5, l.1.ad6, l.1.same, f0.1, f1.1, f2.1, f3.1, f4.1, f5.1, f6.1, x.1⟩, x.2)
def zeroL : Letter := ⟨0, 0, 0, 0, 0, 0, 0, 0, 0, 0, none8, none8, none8, none8, 0, 0, 0, 0, 0, 0, 0, 0, 0, 0, 0, 0, 0, 0, 0, 0, none8, none8, none8, none8, 0, 0, 0, 0, 0, 0, 0, 0, false, 0, 0, 0, 0, 0, 0, 0, none8⟩
def getLet (xs : List (List PD)) : Letter × Int :=
  let k := numR xs 0 0
  let s := numR xs k.2.1 k.2.2
  let d := numR xs s.2.1 s.2.2
  bif (bif decide (d.2.2 = 0) then !(namedP k.1).2 else false) then (zeroL, 4) else
    let r := restL xs d.2.1 d.2.2 k.1 s.1 d.1 (namedP k.1).1
    let e := endR xs r.2.1 r.2.2
    bif !decide (e = 0) then (zeroL, e) else bif !rightL r.1 then (zeroL, 4) else (r.1, 0)
theorem retW2 {W : DV → Store → Prop} {k : Nat} {R : DV → Store → Prop} (h : W = RetW k R) {d : DV} {st : Store} (hr : R d st) : W d st := by subst h; exact RetW.refl hr
set_option maxRecDepth 100000 in
theorem v_getLet (xs : List (List PD)) (hp0 : isB8 xs) : FnV Try.prog 11 [.d (.slc 1 xs)] (.tup [Letter.D (((getLet xs)).1), intD (((getLet xs)).2)]) := by
  obtain ⟨GFsL1, hFsL1⟩ : ∃ F, F = FsL10 := ⟨_, rfl⟩
  obtain ⟨GFsL3, hFsL3⟩ : ∃ F, F = FsL30 := ⟨_, rfl⟩
  obtain ⟨GFsS, hFsS⟩ : ∃ F, F = FsS0 := ⟨_, rfl⟩
  obtain ⟨GFsR, hFsR⟩ : ∃ F, F = FsR0 := ⟨_, rfl⟩
  obtain ⟨GFsLG, hFsLG⟩ : ∃ F, F = FsLG0 := ⟨_, rfl⟩
  obtain ⟨GFsG, hFsG⟩ : ∃ F, F = FsG0 := ⟨_, rfl⟩
  obtain ⟨GFsDq, hFsDq⟩ : ∃ F, F = FsDq0 := ⟨_, rfl⟩
  have hH : SoundK Try.prog [kn_named GFsL1, kn_rightL GFsL3] := by subst hFsL1 hFsL3 hFsS hFsR hFsLG hFsG hFsDq; exact orK_ok ok_named (orK_ok ok_rightL noK_ok)
  have hB : SoundB Try.prog [kb_pRead GFsS, kb_pNum GFsR, kb_pText GFsR, kb_pwrong GFsR, kb_pEnd GFsR, kb_gBal GFsLG, kb_cGet GFsG, kb_dGet GFsDq, kb_gCell GFsLG] := by subst hFsL1 hFsL3 hFsS hFsR hFsLG hFsG hFsDq; exact orB_ok okb_pRead (orB_ok okb_pNum (orB_ok okb_pText (orB_ok okb_pwrong (orB_ok okb_pEnd (orB_ok okb_gBal (orB_ok okb_cGet (orB_ok okb_dGet (orB_ok okb_gCell noB_ok))))))))
  refine FnD_cbv (T := fun _ => tabY [5003] []) (H := fun _ => [kn_named GFsL1, kn_rightL GFsL3]) (tabY_ok _ _) hH follows_mixed Try.func11 rfl Try.ntmps11 (by simp) fun A X W hA hX hW => ?_
  cbv
  have l0 : A.cmp .lss 0 7 = true := by subst hA; rfl
  cbv at l0
  have l1 : A.cmp .lss 1 7 = true := by subst hA; rfl
  cbv at l1
  have l2 : A.cmp .lss 2 7 = true := by subst hA; rfl
  cbv at l2
  have l3 : A.cmp .lss 3 7 = true := by subst hA; rfl
  cbv at l3
  have l4 : A.cmp .lss 4 7 = true := by subst hA; rfl
  cbv at l4
  have l5 : A.cmp .lss 5 7 = true := by subst hA; rfl
  cbv at l5
  have l6 : A.cmp .lss 6 7 = true := by subst hA; rfl
  cbv at l6
  have l7 : A.cmp .lss 7 7 = false := by subst hA; rfl
  cbv at l7
  have b0 : A.bin .add .i64 0 1 = 1 := by subst hA; rfl
  cbv at b0
  have b1 : A.bin .add .i64 1 1 = 2 := by subst hA; rfl
  cbv at b1
  have b2 : A.bin .add .i64 2 1 = 3 := by subst hA; rfl
  cbv at b2
  have b3 : A.bin .add .i64 3 1 = 4 := by subst hA; rfl
  cbv at b3
  have b4 : A.bin .add .i64 4 1 = 5 := by subst hA; rfl
  cbv at b4
  have b5 : A.bin .add .i64 5 1 = 6 := by subst hA; rfl
  cbv at b5
  have b6 : A.bin .add .i64 6 1 = 7 := by subst hA; rfl
  cbv at b6
  have o0_0 : A.off 0 0 1 = 0 := by subst hA; rfl
  cbv at o0_0
  have o0_1 : A.off 0 1 1 = 1 := by subst hA; rfl
  cbv at o0_1
  have o0_2 : A.off 0 2 1 = 2 := by subst hA; rfl
  cbv at o0_2
  have o0_3 : A.off 0 3 1 = 3 := by subst hA; rfl
  cbv at o0_3
  have o0_4 : A.off 0 4 1 = 4 := by subst hA; rfl
  cbv at o0_4
  have o0_5 : A.off 0 5 1 = 5 := by subst hA; rfl
  cbv at o0_5
  have o0_6 : A.off 0 6 1 = 6 := by subst hA; rfl
  cbv at o0_6
  have ott : A.cond true true false = true := by subst hA; rfl
  have otf : A.cond true false false = false := by subst hA; rfl
  have oft : A.cond false true false = false := by subst hA; rfl
  cbv at ott otf oft
  refine callB hX hB ?_
  cbv
  refine And.intro (by subst hFsS; exact hp0) ?_
  have h0 : isRd xs 0 0 := rd0 hp0
  refine callB hX hB ?_
  cbv
  refine And.intro (by subst hFsR; exact h0) ?_
  obtain ⟨⟨k, a1, w1⟩, e1⟩ : ∃ q, GFsR.num xs 0 0 = q := ⟨_, rfl⟩
  have g1 : numR xs 0 0 = (k, a1, w1) := by subst hFsR; exact e1
  have h1 := (num_rd h0).1
  rw [g1] at h1
  cbv at e1
  simp only [e1]
  refine callB hX hB ?_
  cbv
  refine And.intro (by subst hFsR; exact h1) ?_
  obtain ⟨⟨s, a2, w2⟩, e2⟩ : ∃ q, GFsR.num xs a1 w1 = q := ⟨_, rfl⟩
  have g2 : numR xs a1 w1 = (s, a2, w2) := by subst hFsR; exact e2
  have h2 := (num_rd h1).1
  rw [g2] at h2
  cbv at e2
  simp only [e2]
  refine callB hX hB ?_
  cbv
  refine And.intro (by subst hFsR; exact h2) ?_
  obtain ⟨⟨d, a3, w3⟩, e3⟩ : ∃ q, GFsR.num xs a2 w2 = q := ⟨_, rfl⟩
  have g3 : numR xs a2 w2 = (d, a3, w3) := by subst hFsR; exact e3
  have h3 := (num_rd h2).1
  rw [g3] at h3
  cbv at e3
  simp only [e3]
  obtain ⟨⟨P, ok⟩, hP⟩ : ∃ q, GFsL1.named k = q := ⟨_, rfl⟩
  have hP0 : namedP k = (P, ok) := by subst hFsL1; exact hP
  have hpp : isParts P := by (have := named_parts k; rw [hP0] at this; exact this)
  cbv at hP
  simp only [hP]
  refine callB hX hB ?_
  cbv
  refine And.intro (by subst hFsR; exact h3) ?_
  repeat' first
    | (refine And.intro ?_ ?_)
  rotate_right 1
  · refine part (fun hz => ?_) (fun hz => ?_)
    · cbv
      subst hA hX hW
      have hz2 : (bif decide (w3 = 0) then !ok else false) = true := hz
      have hg : getLet xs = (zeroL, 4) := by
        simp only [getLet, g1, g2, g3, hP0]
        rw [hz2]
        rfl
      refine ret_v ?_ rfl
      rw [hg]
      rfl
    · cbv
      rcases hpp with e | e | e | e | e | e | e | e
      all_goals subst e
      · refine callL hX (FnD_cbv (T := fun _ => tabY [5003] [15]) (H := fun _ => []) (tabY_ok _ _) noK_ok follows_mixed Try.func37 rfl Try.ntmps37 (by simp) fun A2 X2 W2 hA2 hX2 hW2 => ?_)
        obtain rfl : A2 = A := hA2.trans hA.symm
        cbv
        repeat' first
          | (refine And.intro ?_ ?_)
          | ((with_reducible refine callB hX2 hB ?_) <;> cbv)
        rotate_right 1
        · refine unrollL (T := fun _ => tabY [5003] [15]) (H := fun _ => []) (tabY_ok _ _) noK_ok follows_mixed hA hX2 1 fun R2 hR2 => ?_
          cbv
          refine hR2 _ _ _ ?_
          cbv
          repeat' first
            | (simp only [l0, l1, l2, l3, l4, l5, l6, l7, b0, b1, b2, b3, b4, b5, b6, o0_0, o0_1, o0_2, o0_3, o0_4, o0_5, o0_6, ott, otf, oft]; cbv)
            | (refine part (fun h => ?_) (fun h => ?_) <;> try cbv)
            | (refine And.intro ?_ ?_)
            | ((with_reducible refine callB hX2 hB ?_) <;> cbv)
            | ((with_reducible refine callB hX hB ?_) <;> cbv)
            | ((with_reducible refine retW2 hW2 ?_) <;> cbv)
            | ((with_reducible refine regionL [36] [0, 0, 0, 0, 0, 0, 0, 1] (T := fun _ => tabY [5003] []) (H := fun _ => []) (B := fun _ => [kb_pRead GFsS, kb_pNum GFsR, kb_pText GFsR, kb_pwrong GFsR, kb_pEnd GFsR, kb_gBal GFsLG, kb_cGet GFsG, kb_dGet GFsDq, kb_gCell GFsLG]) (R := fun _ => []) (A := A2) (tabY_ok _ _) noK_ok hB noR_ok follows_mixed hA hX2 (by kernel_rfl) (by kernel_rfl) (by kernel_rfl) ?_) <;> cbv)
            | (refine hR2 _ _ _ ?_; cbv)
          all_goals clear hR2 hX2 hW2
          all_goals clear hH hB
          all_goals subst hA hX hW hFsL1 hFsL3 hFsS hFsR hFsLG hFsG hFsDq
          all_goals try simp only [A0, nc, FsL10, FsL30, FsS0, FsR0, FsLG0, FsG0, FsDq0, decide_eq_true_eq, decide_eq_false_iff_not, Bool.not_eq_true', Bool.not_eq_false'] at *
          all_goals have y0 := (num_rd h3).1
          all_goals generalize z0 : numR xs a3 w3 = q at *
          all_goals obtain ⟨i1, p0, v0⟩ := q
          all_goals try simp only at *
          all_goals have y1 := (num_rd y0).1
          all_goals generalize z1 : numR xs p0 v0 = q at *
          all_goals obtain ⟨i2, p1, v1⟩ := q
          all_goals try simp only at *
          all_goals have y2 := getBal_rd y1
          all_goals generalize z2 : getBalX xs p1 v1 = q at *
          all_goals obtain ⟨⟨be, br⟩, p2, v2⟩ := q
          all_goals try simp only at *
          all_goals have y3 := get_rd y2
          all_goals generalize z3 : getX xs p2 v2 = q at *
          all_goals obtain ⟨⟨c0, c1, c2, c3, c4, c5, c6⟩, p3, v3⟩ := q
          all_goals try simp only at *
          all_goals have y4 := getA_rd y3
          all_goals generalize z4 : getA xs p3 v3 = q at *
          all_goals obtain ⟨⟨t0, t1, t2, t3, t4, t5, t6, t7⟩, p4, v4⟩ := q
          all_goals try simp only at *
          all_goals first
            | assumption
            | exact ⟨by decide, by decide⟩
            | (simp; done)
            | (intros; first | assumption | trivial | (simp_all; done))
            | (exfalso; simp_all; done)
            | (refine ret_v ?_ rfl
               have hg : getLet xs = (bif (bif decide (w3 = 0) then !ok else false) then (zeroL, 4) else bif !decide (endR xs p4 v4 = 0) then (zeroL, endR xs p4 v4) else bif !rightL (⟨k, s, d, i1, i2, be, br, c0, c1, c2, c3, c4, c5, c6, t0, t1, t2, t3, t4, t5, t6, t7, 0, 0, 0, 0, 0, 0, 0, 0, none8, none8, none8, none8, 0, 0, 0, 0, 0, 0, 0, 0, false, 0, 0, 0, 0, 0, 0, 0, none8⟩ : Letter) then (zeroL, 4) else ((⟨k, s, d, i1, i2, be, br, c0, c1, c2, c3, c4, c5, c6, t0, t1, t2, t3, t4, t5, t6, t7, 0, 0, 0, 0, 0, 0, 0, 0, none8, none8, none8, none8, 0, 0, 0, 0, 0, 0, 0, 0, false, 0, 0, 0, 0, 0, 0, 0, none8⟩ : Letter), 0)) := by
                 simp only [getLet, g1, g2, g3, hP0, restL, cond_true, cond_false, z0, z1, z2, z3, z4]
                 first | done | rfl
               rw [hg, hz]
               first
                 | (rw [h]; rfl)
                 | (rw [decide_eq_false h]; rfl)
                 | (rename_i h9; rw [decide_eq_true h9, h]; rfl)
                 | (rename_i h9; rw [h9, h]; rfl))
        all_goals clear hX2 hW2
        all_goals clear hH hB
        all_goals subst hA hX hW hFsL1 hFsL3 hFsS hFsR hFsLG hFsG hFsDq
        all_goals try simp only [A0, nc, FsL10, FsL30, FsS0, FsR0, FsLG0, FsG0, FsDq0, decide_eq_true_eq, decide_eq_false_iff_not, Bool.not_eq_true', Bool.not_eq_false'] at *
        all_goals have y0 := (num_rd h3).1
        all_goals generalize z0 : numR xs a3 w3 = q at *
        all_goals obtain ⟨i1, p0, v0⟩ := q
        all_goals try simp only at *
        all_goals have y1 := (num_rd y0).1
        all_goals generalize z1 : numR xs p0 v0 = q at *
        all_goals obtain ⟨i2, p1, v1⟩ := q
        all_goals try simp only at *
        all_goals have y2 := getBal_rd y1
        all_goals generalize z2 : getBalX xs p1 v1 = q at *
        all_goals obtain ⟨⟨be, br⟩, p2, v2⟩ := q
        all_goals try simp only at *
        all_goals have y3 := get_rd y2
        all_goals generalize z3 : getX xs p2 v2 = q at *
        all_goals obtain ⟨⟨c0, c1, c2, c3, c4, c5, c6⟩, p3, v3⟩ := q
        all_goals try simp only at *
        all_goals have y4 := getA_rd y3
        all_goals generalize z4 : getA xs p3 v3 = q at *
        all_goals obtain ⟨⟨t0, t1, t2, t3, t4, t5, t6, t7⟩, p4, v4⟩ := q
        all_goals try simp only at *
        all_goals first
          | assumption
          | exact ⟨by decide, by decide⟩
          | (simp; done)
          | (intros; first | assumption | trivial | (simp_all; done))
          | (exfalso; simp_all; done)
          | (refine ret_v ?_ rfl
             have hg : getLet xs = (bif (bif decide (w3 = 0) then !ok else false) then (zeroL, 4) else bif !decide (endR xs p4 v4 = 0) then (zeroL, endR xs p4 v4) else bif !rightL (⟨k, s, d, i1, i2, be, br, c0, c1, c2, c3, c4, c5, c6, t0, t1, t2, t3, t4, t5, t6, t7, 0, 0, 0, 0, 0, 0, 0, 0, none8, none8, none8, none8, 0, 0, 0, 0, 0, 0, 0, 0, false, 0, 0, 0, 0, 0, 0, 0, none8⟩ : Letter) then (zeroL, 4) else ((⟨k, s, d, i1, i2, be, br, c0, c1, c2, c3, c4, c5, c6, t0, t1, t2, t3, t4, t5, t6, t7, 0, 0, 0, 0, 0, 0, 0, 0, none8, none8, none8, none8, 0, 0, 0, 0, 0, 0, 0, 0, false, 0, 0, 0, 0, 0, 0, 0, none8⟩ : Letter), 0)) := by
               simp only [getLet, g1, g2, g3, hP0, restL, cond_true, cond_false, z0, z1, z2, z3, z4]
               first | done | rfl
             rw [hg, hz]
             first
               | (rw [h]; rfl)
               | (rw [decide_eq_false h]; rfl)
               | (rename_i h9; rw [decide_eq_true h9, h]; rfl)
               | (rename_i h9; rw [h9, h]; rfl))
      · refine callL hX (FnD_cbv (T := fun _ => tabY [5003] [15]) (H := fun _ => []) (tabY_ok _ _) noK_ok follows_mixed Try.func37 rfl Try.ntmps37 (by simp) fun A2 X2 W2 hA2 hX2 hW2 => ?_)
        obtain rfl : A2 = A := hA2.trans hA.symm
        cbv
        repeat' first
          | (refine And.intro ?_ ?_)
          | ((with_reducible refine callB hX2 hB ?_) <;> cbv)
        rotate_right 1
        · refine unrollL (T := fun _ => tabY [5003] [15]) (H := fun _ => []) (tabY_ok _ _) noK_ok follows_mixed hA hX2 1 fun R2 hR2 => ?_
          cbv
          refine hR2 _ _ _ ?_
          cbv
          repeat' first
            | (simp only [l0, l1, l2, l3, l4, l5, l6, l7, b0, b1, b2, b3, b4, b5, b6, o0_0, o0_1, o0_2, o0_3, o0_4, o0_5, o0_6, ott, otf, oft]; cbv)
            | (refine part (fun h => ?_) (fun h => ?_) <;> try cbv)
            | (refine And.intro ?_ ?_)
            | ((with_reducible refine callB hX2 hB ?_) <;> cbv)
            | ((with_reducible refine callB hX hB ?_) <;> cbv)
            | ((with_reducible refine retW2 hW2 ?_) <;> cbv)
            | ((with_reducible refine regionL [36] [0, 0, 0, 0, 0, 0, 0, 1] (T := fun _ => tabY [5003] []) (H := fun _ => []) (B := fun _ => [kb_pRead GFsS, kb_pNum GFsR, kb_pText GFsR, kb_pwrong GFsR, kb_pEnd GFsR, kb_gBal GFsLG, kb_cGet GFsG, kb_dGet GFsDq, kb_gCell GFsLG]) (R := fun _ => []) (A := A2) (tabY_ok _ _) noK_ok hB noR_ok follows_mixed hA hX2 (by kernel_rfl) (by kernel_rfl) (by kernel_rfl) ?_) <;> cbv)
            | (refine hR2 _ _ _ ?_; cbv)
          all_goals clear hR2 hX2 hW2
          all_goals clear hH hB
          all_goals subst hA hX hW hFsL1 hFsL3 hFsS hFsR hFsLG hFsG hFsDq
          all_goals try simp only [A0, nc, FsL10, FsL30, FsS0, FsR0, FsLG0, FsG0, FsDq0, decide_eq_true_eq, decide_eq_false_iff_not, Bool.not_eq_true', Bool.not_eq_false'] at *
          all_goals have y0 := (num_rd h3).1
          all_goals generalize z0 : numR xs a3 w3 = q at *
          all_goals obtain ⟨i1, p0, v0⟩ := q
          all_goals try simp only at *
          all_goals have y1 := (num_rd y0).1
          all_goals generalize z1 : numR xs p0 v0 = q at *
          all_goals obtain ⟨i2, p1, v1⟩ := q
          all_goals try simp only at *
          all_goals have y2 := getBal_rd y1
          all_goals generalize z2 : getBalX xs p1 v1 = q at *
          all_goals obtain ⟨⟨be, br⟩, p2, v2⟩ := q
          all_goals try simp only at *
          all_goals have y3 := getA_rd y2
          all_goals generalize z3 : getA xs p2 v2 = q at *
          all_goals obtain ⟨⟨t0, t1, t2, t3, t4, t5, t6, t7⟩, p3, v3⟩ := q
          all_goals try simp only at *
          all_goals first
            | assumption
            | exact ⟨by decide, by decide⟩
            | (simp; done)
            | (intros; first | assumption | trivial | (simp_all; done))
            | (exfalso; simp_all; done)
            | (refine ret_v ?_ rfl
               have hg : getLet xs = (bif (bif decide (w3 = 0) then !ok else false) then (zeroL, 4) else bif !decide (endR xs p3 v3 = 0) then (zeroL, endR xs p3 v3) else bif !rightL (⟨k, s, d, i1, i2, be, br, 0, 0, 0, none8, none8, none8, none8, t0, t1, t2, t3, t4, t5, t6, t7, 0, 0, 0, 0, 0, 0, 0, 0, none8, none8, none8, none8, 0, 0, 0, 0, 0, 0, 0, 0, false, 0, 0, 0, 0, 0, 0, 0, none8⟩ : Letter) then (zeroL, 4) else ((⟨k, s, d, i1, i2, be, br, 0, 0, 0, none8, none8, none8, none8, t0, t1, t2, t3, t4, t5, t6, t7, 0, 0, 0, 0, 0, 0, 0, 0, none8, none8, none8, none8, 0, 0, 0, 0, 0, 0, 0, 0, false, 0, 0, 0, 0, 0, 0, 0, none8⟩ : Letter), 0)) := by
                 simp only [getLet, g1, g2, g3, hP0, restL, cond_true, cond_false, z0, z1, z2, z3]
                 first | done | rfl
               rw [hg, hz]
               first
                 | (rw [h]; rfl)
                 | (rw [decide_eq_false h]; rfl)
                 | (rename_i h9; rw [decide_eq_true h9, h]; rfl)
                 | (rename_i h9; rw [h9, h]; rfl))
        all_goals clear hX2 hW2
        all_goals clear hH hB
        all_goals subst hA hX hW hFsL1 hFsL3 hFsS hFsR hFsLG hFsG hFsDq
        all_goals try simp only [A0, nc, FsL10, FsL30, FsS0, FsR0, FsLG0, FsG0, FsDq0, decide_eq_true_eq, decide_eq_false_iff_not, Bool.not_eq_true', Bool.not_eq_false'] at *
        all_goals have y0 := (num_rd h3).1
        all_goals generalize z0 : numR xs a3 w3 = q at *
        all_goals obtain ⟨i1, p0, v0⟩ := q
        all_goals try simp only at *
        all_goals have y1 := (num_rd y0).1
        all_goals generalize z1 : numR xs p0 v0 = q at *
        all_goals obtain ⟨i2, p1, v1⟩ := q
        all_goals try simp only at *
        all_goals have y2 := getBal_rd y1
        all_goals generalize z2 : getBalX xs p1 v1 = q at *
        all_goals obtain ⟨⟨be, br⟩, p2, v2⟩ := q
        all_goals try simp only at *
        all_goals have y3 := getA_rd y2
        all_goals generalize z3 : getA xs p2 v2 = q at *
        all_goals obtain ⟨⟨t0, t1, t2, t3, t4, t5, t6, t7⟩, p3, v3⟩ := q
        all_goals try simp only at *
        all_goals first
          | assumption
          | exact ⟨by decide, by decide⟩
          | (simp; done)
          | (intros; first | assumption | trivial | (simp_all; done))
          | (exfalso; simp_all; done)
          | (refine ret_v ?_ rfl
             have hg : getLet xs = (bif (bif decide (w3 = 0) then !ok else false) then (zeroL, 4) else bif !decide (endR xs p3 v3 = 0) then (zeroL, endR xs p3 v3) else bif !rightL (⟨k, s, d, i1, i2, be, br, 0, 0, 0, none8, none8, none8, none8, t0, t1, t2, t3, t4, t5, t6, t7, 0, 0, 0, 0, 0, 0, 0, 0, none8, none8, none8, none8, 0, 0, 0, 0, 0, 0, 0, 0, false, 0, 0, 0, 0, 0, 0, 0, none8⟩ : Letter) then (zeroL, 4) else ((⟨k, s, d, i1, i2, be, br, 0, 0, 0, none8, none8, none8, none8, t0, t1, t2, t3, t4, t5, t6, t7, 0, 0, 0, 0, 0, 0, 0, 0, none8, none8, none8, none8, 0, 0, 0, 0, 0, 0, 0, 0, false, 0, 0, 0, 0, 0, 0, 0, none8⟩ : Letter), 0)) := by
               simp only [getLet, g1, g2, g3, hP0, restL, cond_true, cond_false, z0, z1, z2, z3]
               first | done | rfl
             rw [hg, hz]
             first
               | (rw [h]; rfl)
               | (rw [decide_eq_false h]; rfl)
               | (rename_i h9; rw [decide_eq_true h9, h]; rfl)
               | (rename_i h9; rw [h9, h]; rfl))
      · refine callL hX (FnD_cbv (T := fun _ => tabY [5003] [15]) (H := fun _ => []) (tabY_ok _ _) noK_ok follows_mixed Try.func37 rfl Try.ntmps37 (by simp) fun A2 X2 W2 hA2 hX2 hW2 => ?_)
        obtain rfl : A2 = A := hA2.trans hA.symm
        cbv
        repeat' first
          | (refine And.intro ?_ ?_)
          | ((with_reducible refine callB hX2 hB ?_) <;> cbv)
        rotate_right 1
        · refine unrollL (T := fun _ => tabY [5003] [15]) (H := fun _ => []) (tabY_ok _ _) noK_ok follows_mixed hA hX2 1 fun R2 hR2 => ?_
          cbv
          refine hR2 _ _ _ ?_
          cbv
          repeat' first
            | (simp only [l0, l1, l2, l3, l4, l5, l6, l7, b0, b1, b2, b3, b4, b5, b6, o0_0, o0_1, o0_2, o0_3, o0_4, o0_5, o0_6, ott, otf, oft]; cbv)
            | (refine part (fun h => ?_) (fun h => ?_) <;> try cbv)
            | (refine And.intro ?_ ?_)
            | ((with_reducible refine callB hX2 hB ?_) <;> cbv)
            | ((with_reducible refine callB hX hB ?_) <;> cbv)
            | ((with_reducible refine retW2 hW2 ?_) <;> cbv)
            | ((with_reducible refine regionL [36] [0, 0, 0, 0, 0, 0, 0, 1] (T := fun _ => tabY [5003] []) (H := fun _ => []) (B := fun _ => [kb_pRead GFsS, kb_pNum GFsR, kb_pText GFsR, kb_pwrong GFsR, kb_pEnd GFsR, kb_gBal GFsLG, kb_cGet GFsG, kb_dGet GFsDq, kb_gCell GFsLG]) (R := fun _ => []) (A := A2) (tabY_ok _ _) noK_ok hB noR_ok follows_mixed hA hX2 (by kernel_rfl) (by kernel_rfl) (by kernel_rfl) ?_) <;> cbv)
            | (refine hR2 _ _ _ ?_; cbv)
          all_goals clear hR2 hX2 hW2
          all_goals clear hH hB
          all_goals subst hA hX hW hFsL1 hFsL3 hFsS hFsR hFsLG hFsG hFsDq
          all_goals try simp only [A0, nc, FsL10, FsL30, FsS0, FsR0, FsLG0, FsG0, FsDq0, decide_eq_true_eq, decide_eq_false_iff_not, Bool.not_eq_true', Bool.not_eq_false'] at *
          all_goals have y0 := (num_rd h3).1
          all_goals generalize z0 : numR xs a3 w3 = q at *
          all_goals obtain ⟨i1, p0, v0⟩ := q
          all_goals try simp only at *
          all_goals have y1 := (num_rd y0).1
          all_goals generalize z1 : numR xs p0 v0 = q at *
          all_goals obtain ⟨i2, p1, v1⟩ := q
          all_goals try simp only at *
          all_goals have y2 := getBal_rd y1
          all_goals generalize z2 : getBalX xs p1 v1 = q at *
          all_goals obtain ⟨⟨be, br⟩, p2, v2⟩ := q
          all_goals try simp only at *
          all_goals first
            | assumption
            | exact ⟨by decide, by decide⟩
            | (simp; done)
            | (intros; first | assumption | trivial | (simp_all; done))
            | (exfalso; simp_all; done)
            | (refine ret_v ?_ rfl
               have hg : getLet xs = (bif (bif decide (w3 = 0) then !ok else false) then (zeroL, 4) else bif !decide (endR xs p2 v2 = 0) then (zeroL, endR xs p2 v2) else bif !rightL (⟨k, s, d, i1, i2, be, br, 0, 0, 0, none8, none8, none8, none8, 0, 0, 0, 0, 0, 0, 0, 0, 0, 0, 0, 0, 0, 0, 0, 0, none8, none8, none8, none8, 0, 0, 0, 0, 0, 0, 0, 0, false, 0, 0, 0, 0, 0, 0, 0, none8⟩ : Letter) then (zeroL, 4) else ((⟨k, s, d, i1, i2, be, br, 0, 0, 0, none8, none8, none8, none8, 0, 0, 0, 0, 0, 0, 0, 0, 0, 0, 0, 0, 0, 0, 0, 0, none8, none8, none8, none8, 0, 0, 0, 0, 0, 0, 0, 0, false, 0, 0, 0, 0, 0, 0, 0, none8⟩ : Letter), 0)) := by
                 simp only [getLet, g1, g2, g3, hP0, restL, cond_true, cond_false, z0, z1, z2]
                 first | done | rfl
               rw [hg, hz]
               first
                 | (rw [h]; rfl)
                 | (rw [decide_eq_false h]; rfl)
                 | (rename_i h9; rw [decide_eq_true h9, h]; rfl)
                 | (rename_i h9; rw [h9, h]; rfl))
        all_goals clear hX2 hW2
        all_goals clear hH hB
        all_goals subst hA hX hW hFsL1 hFsL3 hFsS hFsR hFsLG hFsG hFsDq
        all_goals try simp only [A0, nc, FsL10, FsL30, FsS0, FsR0, FsLG0, FsG0, FsDq0, decide_eq_true_eq, decide_eq_false_iff_not, Bool.not_eq_true', Bool.not_eq_false'] at *
        all_goals have y0 := (num_rd h3).1
        all_goals generalize z0 : numR xs a3 w3 = q at *
        all_goals obtain ⟨i1, p0, v0⟩ := q
        all_goals try simp only at *
        all_goals have y1 := (num_rd y0).1
        all_goals generalize z1 : numR xs p0 v0 = q at *
        all_goals obtain ⟨i2, p1, v1⟩ := q
        all_goals try simp only at *
        all_goals have y2 := getBal_rd y1
        all_goals generalize z2 : getBalX xs p1 v1 = q at *
        all_goals obtain ⟨⟨be, br⟩, p2, v2⟩ := q
        all_goals try simp only at *
        all_goals first
          | assumption
          | exact ⟨by decide, by decide⟩
          | (simp; done)
          | (intros; first | assumption | trivial | (simp_all; done))
          | (exfalso; simp_all; done)
          | (refine ret_v ?_ rfl
             have hg : getLet xs = (bif (bif decide (w3 = 0) then !ok else false) then (zeroL, 4) else bif !decide (endR xs p2 v2 = 0) then (zeroL, endR xs p2 v2) else bif !rightL (⟨k, s, d, i1, i2, be, br, 0, 0, 0, none8, none8, none8, none8, 0, 0, 0, 0, 0, 0, 0, 0, 0, 0, 0, 0, 0, 0, 0, 0, none8, none8, none8, none8, 0, 0, 0, 0, 0, 0, 0, 0, false, 0, 0, 0, 0, 0, 0, 0, none8⟩ : Letter) then (zeroL, 4) else ((⟨k, s, d, i1, i2, be, br, 0, 0, 0, none8, none8, none8, none8, 0, 0, 0, 0, 0, 0, 0, 0, 0, 0, 0, 0, 0, 0, 0, 0, none8, none8, none8, none8, 0, 0, 0, 0, 0, 0, 0, 0, false, 0, 0, 0, 0, 0, 0, 0, none8⟩ : Letter), 0)) := by
               simp only [getLet, g1, g2, g3, hP0, restL, cond_true, cond_false, z0, z1, z2]
               first | done | rfl
             rw [hg, hz]
             first
               | (rw [h]; rfl)
               | (rw [decide_eq_false h]; rfl)
               | (rename_i h9; rw [decide_eq_true h9, h]; rfl)
               | (rename_i h9; rw [h9, h]; rfl))
      · refine callL hX (FnD_cbv (T := fun _ => tabY [5003] [15]) (H := fun _ => []) (tabY_ok _ _) noK_ok follows_mixed Try.func37 rfl Try.ntmps37 (by simp) fun A2 X2 W2 hA2 hX2 hW2 => ?_)
        obtain rfl : A2 = A := hA2.trans hA.symm
        cbv
        repeat' first
          | (refine And.intro ?_ ?_)
          | ((with_reducible refine callB hX2 hB ?_) <;> cbv)
        rotate_right 1
        · refine unrollL (T := fun _ => tabY [5003] [15]) (H := fun _ => []) (tabY_ok _ _) noK_ok follows_mixed hA hX2 1 fun R2 hR2 => ?_
          cbv
          refine hR2 _ _ _ ?_
          cbv
          repeat' first
            | (simp only [l0, l1, l2, l3, l4, l5, l6, l7, b0, b1, b2, b3, b4, b5, b6, o0_0, o0_1, o0_2, o0_3, o0_4, o0_5, o0_6, ott, otf, oft]; cbv)
            | (refine part (fun h => ?_) (fun h => ?_) <;> try cbv)
            | (refine And.intro ?_ ?_)
            | ((with_reducible refine callB hX2 hB ?_) <;> cbv)
            | ((with_reducible refine callB hX hB ?_) <;> cbv)
            | ((with_reducible refine retW2 hW2 ?_) <;> cbv)
            | ((with_reducible refine regionL [36] [0, 0, 0, 0, 0, 0, 0, 1] (T := fun _ => tabY [5003] []) (H := fun _ => []) (B := fun _ => [kb_pRead GFsS, kb_pNum GFsR, kb_pText GFsR, kb_pwrong GFsR, kb_pEnd GFsR, kb_gBal GFsLG, kb_cGet GFsG, kb_dGet GFsDq, kb_gCell GFsLG]) (R := fun _ => []) (A := A2) (tabY_ok _ _) noK_ok hB noR_ok follows_mixed hA hX2 (by kernel_rfl) (by kernel_rfl) (by kernel_rfl) ?_) <;> cbv)
            | (refine hR2 _ _ _ ?_; cbv)
          all_goals clear hR2 hX2 hW2
          all_goals clear hH hB
          all_goals subst hA hX hW hFsL1 hFsL3 hFsS hFsR hFsLG hFsG hFsDq
          all_goals try simp only [A0, nc, FsL10, FsL30, FsS0, FsR0, FsLG0, FsG0, FsDq0, decide_eq_true_eq, decide_eq_false_iff_not, Bool.not_eq_true', Bool.not_eq_false'] at *
          all_goals have y0 := (num_rd h3).1
          all_goals generalize z0 : numR xs a3 w3 = q at *
          all_goals obtain ⟨i1, p0, v0⟩ := q
          all_goals try simp only at *
          all_goals have y1 := (num_rd y0).1
          all_goals generalize z1 : numR xs p0 v0 = q at *
          all_goals obtain ⟨i2, p1, v1⟩ := q
          all_goals try simp only at *
          all_goals have y2 := get_rd y1
          all_goals generalize z2 : getX xs p1 v1 = q at *
          all_goals obtain ⟨⟨c0, c1, c2, c3, c4, c5, c6⟩, p2, v2⟩ := q
          all_goals try simp only at *
          all_goals have y3 := getA_rd y2
          all_goals generalize z3 : getA xs p2 v2 = q at *
          all_goals obtain ⟨⟨t0, t1, t2, t3, t4, t5, t6, t7⟩, p3, v3⟩ := q
          all_goals try simp only at *
          all_goals first
            | assumption
            | exact ⟨by decide, by decide⟩
            | (simp; done)
            | (intros; first | assumption | trivial | (simp_all; done))
            | (exfalso; simp_all; done)
            | (refine ret_v ?_ rfl
               have hg : getLet xs = (bif (bif decide (w3 = 0) then !ok else false) then (zeroL, 4) else bif !decide (endR xs p3 v3 = 0) then (zeroL, endR xs p3 v3) else bif !rightL (⟨k, s, d, i1, i2, 0, 0, c0, c1, c2, c3, c4, c5, c6, t0, t1, t2, t3, t4, t5, t6, t7, 0, 0, 0, 0, 0, 0, 0, 0, none8, none8, none8, none8, 0, 0, 0, 0, 0, 0, 0, 0, false, 0, 0, 0, 0, 0, 0, 0, none8⟩ : Letter) then (zeroL, 4) else ((⟨k, s, d, i1, i2, 0, 0, c0, c1, c2, c3, c4, c5, c6, t0, t1, t2, t3, t4, t5, t6, t7, 0, 0, 0, 0, 0, 0, 0, 0, none8, none8, none8, none8, 0, 0, 0, 0, 0, 0, 0, 0, false, 0, 0, 0, 0, 0, 0, 0, none8⟩ : Letter), 0)) := by
                 simp only [getLet, g1, g2, g3, hP0, restL, cond_true, cond_false, z0, z1, z2, z3]
                 first | done | rfl
               rw [hg, hz]
               first
                 | (rw [h]; rfl)
                 | (rw [decide_eq_false h]; rfl)
                 | (rename_i h9; rw [decide_eq_true h9, h]; rfl)
                 | (rename_i h9; rw [h9, h]; rfl))
        all_goals clear hX2 hW2
        all_goals clear hH hB
        all_goals subst hA hX hW hFsL1 hFsL3 hFsS hFsR hFsLG hFsG hFsDq
        all_goals try simp only [A0, nc, FsL10, FsL30, FsS0, FsR0, FsLG0, FsG0, FsDq0, decide_eq_true_eq, decide_eq_false_iff_not, Bool.not_eq_true', Bool.not_eq_false'] at *
        all_goals have y0 := (num_rd h3).1
        all_goals generalize z0 : numR xs a3 w3 = q at *
        all_goals obtain ⟨i1, p0, v0⟩ := q
        all_goals try simp only at *
        all_goals have y1 := (num_rd y0).1
        all_goals generalize z1 : numR xs p0 v0 = q at *
        all_goals obtain ⟨i2, p1, v1⟩ := q
        all_goals try simp only at *
        all_goals have y2 := get_rd y1
        all_goals generalize z2 : getX xs p1 v1 = q at *
        all_goals obtain ⟨⟨c0, c1, c2, c3, c4, c5, c6⟩, p2, v2⟩ := q
        all_goals try simp only at *
        all_goals have y3 := getA_rd y2
        all_goals generalize z3 : getA xs p2 v2 = q at *
        all_goals obtain ⟨⟨t0, t1, t2, t3, t4, t5, t6, t7⟩, p3, v3⟩ := q
        all_goals try simp only at *
        all_goals first
          | assumption
          | exact ⟨by decide, by decide⟩
          | (simp; done)
          | (intros; first | assumption | trivial | (simp_all; done))
          | (exfalso; simp_all; done)
          | (refine ret_v ?_ rfl
             have hg : getLet xs = (bif (bif decide (w3 = 0) then !ok else false) then (zeroL, 4) else bif !decide (endR xs p3 v3 = 0) then (zeroL, endR xs p3 v3) else bif !rightL (⟨k, s, d, i1, i2, 0, 0, c0, c1, c2, c3, c4, c5, c6, t0, t1, t2, t3, t4, t5, t6, t7, 0, 0, 0, 0, 0, 0, 0, 0, none8, none8, none8, none8, 0, 0, 0, 0, 0, 0, 0, 0, false, 0, 0, 0, 0, 0, 0, 0, none8⟩ : Letter) then (zeroL, 4) else ((⟨k, s, d, i1, i2, 0, 0, c0, c1, c2, c3, c4, c5, c6, t0, t1, t2, t3, t4, t5, t6, t7, 0, 0, 0, 0, 0, 0, 0, 0, none8, none8, none8, none8, 0, 0, 0, 0, 0, 0, 0, 0, false, 0, 0, 0, 0, 0, 0, 0, none8⟩ : Letter), 0)) := by
               simp only [getLet, g1, g2, g3, hP0, restL, cond_true, cond_false, z0, z1, z2, z3]
               first | done | rfl
             rw [hg, hz]
             first
               | (rw [h]; rfl)
               | (rw [decide_eq_false h]; rfl)
               | (rename_i h9; rw [decide_eq_true h9, h]; rfl)
               | (rename_i h9; rw [h9, h]; rfl))
      · refine callL hX (FnD_cbv (T := fun _ => tabY [5003] [15]) (H := fun _ => []) (tabY_ok _ _) noK_ok follows_mixed Try.func37 rfl Try.ntmps37 (by simp) fun A2 X2 W2 hA2 hX2 hW2 => ?_)
        obtain rfl : A2 = A := hA2.trans hA.symm
        cbv
        repeat' first
          | (refine And.intro ?_ ?_)
          | ((with_reducible refine callB hX2 hB ?_) <;> cbv)
        rotate_right 1
        · refine unrollL (T := fun _ => tabY [5003] [15]) (H := fun _ => []) (tabY_ok _ _) noK_ok follows_mixed hA hX2 1 fun R2 hR2 => ?_
          cbv
          refine hR2 _ _ _ ?_
          cbv
          repeat' first
            | (simp only [l0, l1, l2, l3, l4, l5, l6, l7, b0, b1, b2, b3, b4, b5, b6, o0_0, o0_1, o0_2, o0_3, o0_4, o0_5, o0_6, ott, otf, oft]; cbv)
            | (refine part (fun h => ?_) (fun h => ?_) <;> try cbv)
            | (refine And.intro ?_ ?_)
            | ((with_reducible refine callB hX2 hB ?_) <;> cbv)
            | ((with_reducible refine callB hX hB ?_) <;> cbv)
            | ((with_reducible refine retW2 hW2 ?_) <;> cbv)
            | ((with_reducible refine regionL [36] [0, 0, 0, 0, 0, 0, 0, 1] (T := fun _ => tabY [5003] []) (H := fun _ => []) (B := fun _ => [kb_pRead GFsS, kb_pNum GFsR, kb_pText GFsR, kb_pwrong GFsR, kb_pEnd GFsR, kb_gBal GFsLG, kb_cGet GFsG, kb_dGet GFsDq, kb_gCell GFsLG]) (R := fun _ => []) (A := A2) (tabY_ok _ _) noK_ok hB noR_ok follows_mixed hA hX2 (by kernel_rfl) (by kernel_rfl) (by kernel_rfl) ?_) <;> cbv)
            | (refine hR2 _ _ _ ?_; cbv)
          all_goals clear hR2 hX2 hW2
          all_goals clear hH hB
          all_goals subst hA hX hW hFsL1 hFsL3 hFsS hFsR hFsLG hFsG hFsDq
          all_goals try simp only [A0, nc, FsL10, FsL30, FsS0, FsR0, FsLG0, FsG0, FsDq0, decide_eq_true_eq, decide_eq_false_iff_not, Bool.not_eq_true', Bool.not_eq_false'] at *
          all_goals have y0 := (num_rd h3).1
          all_goals generalize z0 : numR xs a3 w3 = q at *
          all_goals obtain ⟨i1, p0, v0⟩ := q
          all_goals try simp only at *
          all_goals have y1 := (num_rd y0).1
          all_goals generalize z1 : numR xs p0 v0 = q at *
          all_goals obtain ⟨i2, p1, v1⟩ := q
          all_goals try simp only at *
          all_goals have y2 := getBal_rd y1
          all_goals generalize z2 : getBalX xs p1 v1 = q at *
          all_goals obtain ⟨⟨be, br⟩, p2, v2⟩ := q
          all_goals try simp only at *
          all_goals have y3 := getCell_rd y2
          all_goals generalize z3 : getCellX xs p2 v2 = q at *
          all_goals obtain ⟨⟨l0, l1, l2, l3, l4, l5, l6, l7, l8, l9, l10, l11, l12, l13, l14, l15, l16, l17, l18, l19, l20⟩, p3, v3⟩ := q
          all_goals try simp only at *
          all_goals first
            | assumption
            | exact ⟨by decide, by decide⟩
            | (simp; done)
            | (intros; first | assumption | trivial | (simp_all; done))
            | (exfalso; simp_all; done)
            | (refine ret_v ?_ rfl
               have hg : getLet xs = (bif (bif decide (w3 = 0) then !ok else false) then (zeroL, 4) else bif !decide (endR xs p3 v3 = 0) then (zeroL, endR xs p3 v3) else bif !rightL (⟨k, s, d, i1, i2, be, br, 0, 0, 0, none8, none8, none8, none8, 0, 0, 0, 0, 0, 0, 0, 0, l0, l1, l2, l3, l4, l5, l6, l7, l8, l9, l10, l11, l12, l13, l14, l15, l16, l17, l18, l19, l20, 0, 0, 0, 0, 0, 0, 0, none8⟩ : Letter) then (zeroL, 4) else ((⟨k, s, d, i1, i2, be, br, 0, 0, 0, none8, none8, none8, none8, 0, 0, 0, 0, 0, 0, 0, 0, l0, l1, l2, l3, l4, l5, l6, l7, l8, l9, l10, l11, l12, l13, l14, l15, l16, l17, l18, l19, l20, 0, 0, 0, 0, 0, 0, 0, none8⟩ : Letter), 0)) := by
                 simp only [getLet, g1, g2, g3, hP0, restL, cond_true, cond_false, z0, z1, z2, z3]
                 first | done | rfl
               rw [hg, hz]
               first
                 | (rw [h]; rfl)
                 | (rw [decide_eq_false h]; rfl)
                 | (rename_i h9; rw [decide_eq_true h9, h]; rfl)
                 | (rename_i h9; rw [h9, h]; rfl))
        all_goals clear hX2 hW2
        all_goals clear hH hB
        all_goals subst hA hX hW hFsL1 hFsL3 hFsS hFsR hFsLG hFsG hFsDq
        all_goals try simp only [A0, nc, FsL10, FsL30, FsS0, FsR0, FsLG0, FsG0, FsDq0, decide_eq_true_eq, decide_eq_false_iff_not, Bool.not_eq_true', Bool.not_eq_false'] at *
        all_goals have y0 := (num_rd h3).1
        all_goals generalize z0 : numR xs a3 w3 = q at *
        all_goals obtain ⟨i1, p0, v0⟩ := q
        all_goals try simp only at *
        all_goals have y1 := (num_rd y0).1
        all_goals generalize z1 : numR xs p0 v0 = q at *
        all_goals obtain ⟨i2, p1, v1⟩ := q
        all_goals try simp only at *
        all_goals have y2 := getBal_rd y1
        all_goals generalize z2 : getBalX xs p1 v1 = q at *
        all_goals obtain ⟨⟨be, br⟩, p2, v2⟩ := q
        all_goals try simp only at *
        all_goals have y3 := getCell_rd y2
        all_goals generalize z3 : getCellX xs p2 v2 = q at *
        all_goals obtain ⟨⟨l0, l1, l2, l3, l4, l5, l6, l7, l8, l9, l10, l11, l12, l13, l14, l15, l16, l17, l18, l19, l20⟩, p3, v3⟩ := q
        all_goals try simp only at *
        all_goals first
          | assumption
          | exact ⟨by decide, by decide⟩
          | (simp; done)
          | (intros; first | assumption | trivial | (simp_all; done))
          | (exfalso; simp_all; done)
          | (refine ret_v ?_ rfl
             have hg : getLet xs = (bif (bif decide (w3 = 0) then !ok else false) then (zeroL, 4) else bif !decide (endR xs p3 v3 = 0) then (zeroL, endR xs p3 v3) else bif !rightL (⟨k, s, d, i1, i2, be, br, 0, 0, 0, none8, none8, none8, none8, 0, 0, 0, 0, 0, 0, 0, 0, l0, l1, l2, l3, l4, l5, l6, l7, l8, l9, l10, l11, l12, l13, l14, l15, l16, l17, l18, l19, l20, 0, 0, 0, 0, 0, 0, 0, none8⟩ : Letter) then (zeroL, 4) else ((⟨k, s, d, i1, i2, be, br, 0, 0, 0, none8, none8, none8, none8, 0, 0, 0, 0, 0, 0, 0, 0, l0, l1, l2, l3, l4, l5, l6, l7, l8, l9, l10, l11, l12, l13, l14, l15, l16, l17, l18, l19, l20, 0, 0, 0, 0, 0, 0, 0, none8⟩ : Letter), 0)) := by
               simp only [getLet, g1, g2, g3, hP0, restL, cond_true, cond_false, z0, z1, z2, z3]
               first | done | rfl
             rw [hg, hz]
             first
               | (rw [h]; rfl)
               | (rw [decide_eq_false h]; rfl)
               | (rename_i h9; rw [decide_eq_true h9, h]; rfl)
               | (rename_i h9; rw [h9, h]; rfl))
      · refine callL hX (FnD_cbv (T := fun _ => tabY [5003] [15]) (H := fun _ => []) (tabY_ok _ _) noK_ok follows_mixed Try.func37 rfl Try.ntmps37 (by simp) fun A2 X2 W2 hA2 hX2 hW2 => ?_)
        obtain rfl : A2 = A := hA2.trans hA.symm
        cbv
        repeat' first
          | (refine And.intro ?_ ?_)
          | ((with_reducible refine callB hX2 hB ?_) <;> cbv)
        rotate_right 1
        · refine unrollL (T := fun _ => tabY [5003] [15]) (H := fun _ => []) (tabY_ok _ _) noK_ok follows_mixed hA hX2 9 fun R2 hR2 => ?_
          cbv
          refine hR2 _ _ _ ?_
          cbv
          repeat' first
            | (simp only [l0, l1, l2, l3, l4, l5, l6, l7, b0, b1, b2, b3, b4, b5, b6, o0_0, o0_1, o0_2, o0_3, o0_4, o0_5, o0_6, ott, otf, oft]; cbv)
            | (refine part (fun h => ?_) (fun h => ?_) <;> try cbv)
            | (refine And.intro ?_ ?_)
            | ((with_reducible refine callB hX2 hB ?_) <;> cbv)
            | ((with_reducible refine callB hX hB ?_) <;> cbv)
            | ((with_reducible refine retW2 hW2 ?_) <;> cbv)
            | ((with_reducible refine regionL [36] [0, 0, 0, 0, 0, 0, 0, 1] (T := fun _ => tabY [5003] []) (H := fun _ => []) (B := fun _ => [kb_pRead GFsS, kb_pNum GFsR, kb_pText GFsR, kb_pwrong GFsR, kb_pEnd GFsR, kb_gBal GFsLG, kb_cGet GFsG, kb_dGet GFsDq, kb_gCell GFsLG]) (R := fun _ => []) (A := A2) (tabY_ok _ _) noK_ok hB noR_ok follows_mixed hA hX2 (by kernel_rfl) (by kernel_rfl) (by kernel_rfl) ?_) <;> cbv)
            | (refine hR2 _ _ _ ?_; cbv)
          all_goals clear hR2 hX2 hW2
          all_goals clear hH hB
          all_goals subst hA hX hW hFsL1 hFsL3 hFsS hFsR hFsLG hFsG hFsDq
          all_goals try simp only [A0, nc, FsL10, FsL30, FsS0, FsR0, FsLG0, FsG0, FsDq0, decide_eq_true_eq, decide_eq_false_iff_not, Bool.not_eq_true', Bool.not_eq_false'] at *
          all_goals have y0 := (num_rd h3).1
          all_goals generalize z0 : numR xs a3 w3 = q at *
          all_goals obtain ⟨f0, p0, v0⟩ := q
          all_goals try simp only at *
          all_goals have y1 := (num_rd y0).1
          all_goals generalize z1 : numR xs p0 v0 = q at *
          all_goals obtain ⟨f1, p1, v1⟩ := q
          all_goals try simp only at *
          all_goals have y2 := (num_rd y1).1
          all_goals generalize z2 : numR xs p1 v1 = q at *
          all_goals obtain ⟨f2, p2, v2⟩ := q
          all_goals try simp only at *
          all_goals have y3 := (num_rd y2).1
          all_goals generalize z3 : numR xs p2 v2 = q at *
          all_goals obtain ⟨f3, p3, v3⟩ := q
          all_goals try simp only at *
          all_goals have y4 := (num_rd y3).1
          all_goals generalize z4 : numR xs p3 v3 = q at *
          all_goals obtain ⟨f4, p4, v4⟩ := q
          all_goals try simp only at *
          all_goals have y5 := (num_rd y4).1
          all_goals generalize z5 : numR xs p4 v4 = q at *
          all_goals obtain ⟨f5, p5, v5⟩ := q
          all_goals try simp only at *
          all_goals have y6 := (num_rd y5).1
          all_goals generalize z6 : numR xs p5 v5 = q at *
          all_goals obtain ⟨f6, p6, v6⟩ := q
          all_goals try simp only at *
          all_goals first
            | assumption
            | exact ⟨by decide, by decide⟩
            | (simp; done)
            | (intros; first | assumption | trivial | (simp_all; done))
            | (exfalso; simp_all; done)
            | (refine ret_v ?_ rfl
               have hg : getLet xs = (bif (bif decide (w3 = 0) then !ok else false) then (zeroL, 4) else bif !decide (endR xs p6 v6 = 0) then (zeroL, endR xs p6 v6) else bif !rightL (⟨k, s, d, 0, 0, 0, 0, 0, 0, 0, none8, none8, none8, none8, 0, 0, 0, 0, 0, 0, 0, 0, 0, 0, 0, 0, 0, 0, 0, 0, none8, none8, none8, none8, 0, 0, 0, 0, 0, 0, 0, 0, false, f0, f1, f2, f3, f4, f5, f6, none8⟩ : Letter) then (zeroL, 4) else ((⟨k, s, d, 0, 0, 0, 0, 0, 0, 0, none8, none8, none8, none8, 0, 0, 0, 0, 0, 0, 0, 0, 0, 0, 0, 0, 0, 0, 0, 0, none8, none8, none8, none8, 0, 0, 0, 0, 0, 0, 0, 0, false, f0, f1, f2, f3, f4, f5, f6, none8⟩ : Letter), 0)) := by
                 simp only [getLet, g1, g2, g3, hP0, restL, cond_true, cond_false, z0, z1, z2, z3, z4, z5, z6]
                 first | done | rfl
               rw [hg, hz]
               first
                 | (rw [h]; rfl)
                 | (rw [decide_eq_false h]; rfl)
                 | (rename_i h9; rw [decide_eq_true h9, h]; rfl)
                 | (rename_i h9; rw [h9, h]; rfl))
        all_goals clear hX2 hW2
        all_goals clear hH hB
        all_goals subst hA hX hW hFsL1 hFsL3 hFsS hFsR hFsLG hFsG hFsDq
        all_goals try simp only [A0, nc, FsL10, FsL30, FsS0, FsR0, FsLG0, FsG0, FsDq0, decide_eq_true_eq, decide_eq_false_iff_not, Bool.not_eq_true', Bool.not_eq_false'] at *
        all_goals have y0 := (num_rd h3).1
        all_goals generalize z0 : numR xs a3 w3 = q at *
        all_goals obtain ⟨f0, p0, v0⟩ := q
        all_goals try simp only at *
        all_goals have y1 := (num_rd y0).1
        all_goals generalize z1 : numR xs p0 v0 = q at *
        all_goals obtain ⟨f1, p1, v1⟩ := q
        all_goals try simp only at *
        all_goals have y2 := (num_rd y1).1
        all_goals generalize z2 : numR xs p1 v1 = q at *
        all_goals obtain ⟨f2, p2, v2⟩ := q
        all_goals try simp only at *
        all_goals have y3 := (num_rd y2).1
        all_goals generalize z3 : numR xs p2 v2 = q at *
        all_goals obtain ⟨f3, p3, v3⟩ := q
        all_goals try simp only at *
        all_goals have y4 := (num_rd y3).1
        all_goals generalize z4 : numR xs p3 v3 = q at *
        all_goals obtain ⟨f4, p4, v4⟩ := q
        all_goals try simp only at *
        all_goals have y5 := (num_rd y4).1
        all_goals generalize z5 : numR xs p4 v4 = q at *
        all_goals obtain ⟨f5, p5, v5⟩ := q
        all_goals try simp only at *
        all_goals have y6 := (num_rd y5).1
        all_goals generalize z6 : numR xs p5 v5 = q at *
        all_goals obtain ⟨f6, p6, v6⟩ := q
        all_goals try simp only at *
        all_goals first
          | assumption
          | exact ⟨by decide, by decide⟩
          | (simp; done)
          | (intros; first | assumption | trivial | (simp_all; done))
          | (exfalso; simp_all; done)
          | (refine ret_v ?_ rfl
             have hg : getLet xs = (bif (bif decide (w3 = 0) then !ok else false) then (zeroL, 4) else bif !decide (endR xs p6 v6 = 0) then (zeroL, endR xs p6 v6) else bif !rightL (⟨k, s, d, 0, 0, 0, 0, 0, 0, 0, none8, none8, none8, none8, 0, 0, 0, 0, 0, 0, 0, 0, 0, 0, 0, 0, 0, 0, 0, 0, none8, none8, none8, none8, 0, 0, 0, 0, 0, 0, 0, 0, false, f0, f1, f2, f3, f4, f5, f6, none8⟩ : Letter) then (zeroL, 4) else ((⟨k, s, d, 0, 0, 0, 0, 0, 0, 0, none8, none8, none8, none8, 0, 0, 0, 0, 0, 0, 0, 0, 0, 0, 0, 0, 0, 0, 0, 0, none8, none8, none8, none8, 0, 0, 0, 0, 0, 0, 0, 0, false, f0, f1, f2, f3, f4, f5, f6, none8⟩ : Letter), 0)) := by
               simp only [getLet, g1, g2, g3, hP0, restL, cond_true, cond_false, z0, z1, z2, z3, z4, z5, z6]
               first | done | rfl
             rw [hg, hz]
             first
               | (rw [h]; rfl)
               | (rw [decide_eq_false h]; rfl)
               | (rename_i h9; rw [decide_eq_true h9, h]; rfl)
               | (rename_i h9; rw [h9, h]; rfl))
      · refine callL hX (FnD_cbv (T := fun _ => tabY [5003] [15]) (H := fun _ => []) (tabY_ok _ _) noK_ok follows_mixed Try.func37 rfl Try.ntmps37 (by simp) fun A2 X2 W2 hA2 hX2 hW2 => ?_)
        obtain rfl : A2 = A := hA2.trans hA.symm
        cbv
        repeat' first
          | (refine And.intro ?_ ?_)
          | ((with_reducible refine callB hX2 hB ?_) <;> cbv)
        rotate_right 1
        · refine unrollL (T := fun _ => tabY [5003] [15]) (H := fun _ => []) (tabY_ok _ _) noK_ok follows_mixed hA hX2 1 fun R2 hR2 => ?_
          cbv
          refine hR2 _ _ _ ?_
          cbv
          repeat' first
            | (simp only [l0, l1, l2, l3, l4, l5, l6, l7, b0, b1, b2, b3, b4, b5, b6, o0_0, o0_1, o0_2, o0_3, o0_4, o0_5, o0_6, ott, otf, oft]; cbv)
            | (refine part (fun h => ?_) (fun h => ?_) <;> try cbv)
            | (refine And.intro ?_ ?_)
            | ((with_reducible refine callB hX2 hB ?_) <;> cbv)
            | ((with_reducible refine callB hX hB ?_) <;> cbv)
            | ((with_reducible refine retW2 hW2 ?_) <;> cbv)
            | ((with_reducible refine regionL [36] [0, 0, 0, 0, 0, 0, 0, 1] (T := fun _ => tabY [5003] []) (H := fun _ => []) (B := fun _ => [kb_pRead GFsS, kb_pNum GFsR, kb_pText GFsR, kb_pwrong GFsR, kb_pEnd GFsR, kb_gBal GFsLG, kb_cGet GFsG, kb_dGet GFsDq, kb_gCell GFsLG]) (R := fun _ => []) (A := A2) (tabY_ok _ _) noK_ok hB noR_ok follows_mixed hA hX2 (by kernel_rfl) (by kernel_rfl) (by kernel_rfl) ?_) <;> cbv)
            | (refine hR2 _ _ _ ?_; cbv)
          all_goals clear hR2 hX2 hW2
          all_goals clear hH hB
          all_goals subst hA hX hW hFsL1 hFsL3 hFsS hFsR hFsLG hFsG hFsDq
          all_goals try simp only [A0, nc, FsL10, FsL30, FsS0, FsR0, FsLG0, FsG0, FsDq0, decide_eq_true_eq, decide_eq_false_iff_not, Bool.not_eq_true', Bool.not_eq_false'] at *
          all_goals have y0 := text_rd 16384 h3
          all_goals generalize z0 : textR xs a3 w3 16384 = q at *
          all_goals obtain ⟨x0, p0, v0⟩ := q
          all_goals try simp only at *
          all_goals first
            | assumption
            | exact ⟨by decide, by decide⟩
            | (simp; done)
            | (intros; first | assumption | trivial | (simp_all; done))
            | (exfalso; simp_all; done)
            | (refine ret_v ?_ rfl
               have hg : getLet xs = (bif (bif decide (w3 = 0) then !ok else false) then (zeroL, 4) else bif !decide (endR xs p0 v0 = 0) then (zeroL, endR xs p0 v0) else bif !rightL (⟨k, s, d, 0, 0, 0, 0, 0, 0, 0, none8, none8, none8, none8, 0, 0, 0, 0, 0, 0, 0, 0, 0, 0, 0, 0, 0, 0, 0, 0, none8, none8, none8, none8, 0, 0, 0, 0, 0, 0, 0, 0, false, 0, 0, 0, 0, 0, 0, 0, x0⟩ : Letter) then (zeroL, 4) else ((⟨k, s, d, 0, 0, 0, 0, 0, 0, 0, none8, none8, none8, none8, 0, 0, 0, 0, 0, 0, 0, 0, 0, 0, 0, 0, 0, 0, 0, 0, none8, none8, none8, none8, 0, 0, 0, 0, 0, 0, 0, 0, false, 0, 0, 0, 0, 0, 0, 0, x0⟩ : Letter), 0)) := by
                 simp only [getLet, g1, g2, g3, hP0, restL, cond_true, cond_false, z0]
                 first | done | rfl
               rw [hg, hz]
               first
                 | (rw [h]; rfl)
                 | (rw [decide_eq_false h]; rfl)
                 | (rename_i h9; rw [decide_eq_true h9, h]; rfl)
                 | (rename_i h9; rw [h9, h]; rfl))
        all_goals clear hX2 hW2
        all_goals clear hH hB
        all_goals subst hA hX hW hFsL1 hFsL3 hFsS hFsR hFsLG hFsG hFsDq
        all_goals try simp only [A0, nc, FsL10, FsL30, FsS0, FsR0, FsLG0, FsG0, FsDq0, decide_eq_true_eq, decide_eq_false_iff_not, Bool.not_eq_true', Bool.not_eq_false'] at *
        all_goals have y0 := text_rd 16384 h3
        all_goals generalize z0 : textR xs a3 w3 16384 = q at *
        all_goals obtain ⟨x0, p0, v0⟩ := q
        all_goals try simp only at *
        all_goals first
          | assumption
          | exact ⟨by decide, by decide⟩
          | (simp; done)
          | (intros; first | assumption | trivial | (simp_all; done))
          | (exfalso; simp_all; done)
          | (refine ret_v ?_ rfl
             have hg : getLet xs = (bif (bif decide (w3 = 0) then !ok else false) then (zeroL, 4) else bif !decide (endR xs p0 v0 = 0) then (zeroL, endR xs p0 v0) else bif !rightL (⟨k, s, d, 0, 0, 0, 0, 0, 0, 0, none8, none8, none8, none8, 0, 0, 0, 0, 0, 0, 0, 0, 0, 0, 0, 0, 0, 0, 0, 0, none8, none8, none8, none8, 0, 0, 0, 0, 0, 0, 0, 0, false, 0, 0, 0, 0, 0, 0, 0, x0⟩ : Letter) then (zeroL, 4) else ((⟨k, s, d, 0, 0, 0, 0, 0, 0, 0, none8, none8, none8, none8, 0, 0, 0, 0, 0, 0, 0, 0, 0, 0, 0, 0, 0, 0, 0, 0, none8, none8, none8, none8, 0, 0, 0, 0, 0, 0, 0, 0, false, 0, 0, 0, 0, 0, 0, 0, x0⟩ : Letter), 0)) := by
               simp only [getLet, g1, g2, g3, hP0, restL, cond_true, cond_false, z0]
               first | done | rfl
             rw [hg, hz]
             first
               | (rw [h]; rfl)
               | (rw [decide_eq_false h]; rfl)
               | (rename_i h9; rw [decide_eq_true h9, h]; rfl)
               | (rename_i h9; rw [h9, h]; rfl))
      · refine callL hX (FnD_cbv (T := fun _ => tabY [5003] [15]) (H := fun _ => []) (tabY_ok _ _) noK_ok follows_mixed Try.func37 rfl Try.ntmps37 (by simp) fun A2 X2 W2 hA2 hX2 hW2 => ?_)
        obtain rfl : A2 = A := hA2.trans hA.symm
        cbv
        repeat' first
          | (refine And.intro ?_ ?_)
          | ((with_reducible refine callB hX2 hB ?_) <;> cbv)
        rotate_right 1
        · refine unrollL (T := fun _ => tabY [5003] [15]) (H := fun _ => []) (tabY_ok _ _) noK_ok follows_mixed hA hX2 1 fun R2 hR2 => ?_
          cbv
          refine hR2 _ _ _ ?_
          cbv
          repeat' first
            | (simp only [l0, l1, l2, l3, l4, l5, l6, l7, b0, b1, b2, b3, b4, b5, b6, o0_0, o0_1, o0_2, o0_3, o0_4, o0_5, o0_6, ott, otf, oft]; cbv)
            | (refine part (fun h => ?_) (fun h => ?_) <;> try cbv)
            | (refine And.intro ?_ ?_)
            | ((with_reducible refine callB hX2 hB ?_) <;> cbv)
            | ((with_reducible refine callB hX hB ?_) <;> cbv)
            | ((with_reducible refine retW2 hW2 ?_) <;> cbv)
            | ((with_reducible refine regionL [36] [0, 0, 0, 0, 0, 0, 0, 1] (T := fun _ => tabY [5003] []) (H := fun _ => []) (B := fun _ => [kb_pRead GFsS, kb_pNum GFsR, kb_pText GFsR, kb_pwrong GFsR, kb_pEnd GFsR, kb_gBal GFsLG, kb_cGet GFsG, kb_dGet GFsDq, kb_gCell GFsLG]) (R := fun _ => []) (A := A2) (tabY_ok _ _) noK_ok hB noR_ok follows_mixed hA hX2 (by kernel_rfl) (by kernel_rfl) (by kernel_rfl) ?_) <;> cbv)
            | (refine hR2 _ _ _ ?_; cbv)
          all_goals clear hR2 hX2 hW2
          all_goals clear hH hB
          all_goals subst hA hX hW hFsL1 hFsL3 hFsS hFsR hFsLG hFsG hFsDq
          all_goals try simp only [A0, nc, FsL10, FsL30, FsS0, FsR0, FsLG0, FsG0, FsDq0, decide_eq_true_eq, decide_eq_false_iff_not, Bool.not_eq_true', Bool.not_eq_false'] at *
          all_goals first
            | assumption
            | exact ⟨by decide, by decide⟩
            | (simp; done)
            | (intros; first | assumption | trivial | (simp_all; done))
            | (exfalso; simp_all; done)
            | (refine ret_v ?_ rfl
               have hg : getLet xs = (bif (bif decide (w3 = 0) then !ok else false) then (zeroL, 4) else bif !decide (endR xs a3 w3 = 0) then (zeroL, endR xs a3 w3) else bif !rightL (⟨k, s, d, 0, 0, 0, 0, 0, 0, 0, none8, none8, none8, none8, 0, 0, 0, 0, 0, 0, 0, 0, 0, 0, 0, 0, 0, 0, 0, 0, none8, none8, none8, none8, 0, 0, 0, 0, 0, 0, 0, 0, false, 0, 0, 0, 0, 0, 0, 0, none8⟩ : Letter) then (zeroL, 4) else ((⟨k, s, d, 0, 0, 0, 0, 0, 0, 0, none8, none8, none8, none8, 0, 0, 0, 0, 0, 0, 0, 0, 0, 0, 0, 0, 0, 0, 0, 0, none8, none8, none8, none8, 0, 0, 0, 0, 0, 0, 0, 0, false, 0, 0, 0, 0, 0, 0, 0, none8⟩ : Letter), 0)) := by
                 simp only [getLet, g1, g2, g3, hP0, restL, cond_true, cond_false, cond_true]
                 first | done | rfl
               rw [hg, hz]
               first
                 | (rw [h]; rfl)
                 | (rw [decide_eq_false h]; rfl)
                 | (rename_i h9; rw [decide_eq_true h9, h]; rfl)
                 | (rename_i h9; rw [h9, h]; rfl))
        all_goals clear hX2 hW2
        all_goals clear hH hB
        all_goals subst hA hX hW hFsL1 hFsL3 hFsS hFsR hFsLG hFsG hFsDq
        all_goals try simp only [A0, nc, FsL10, FsL30, FsS0, FsR0, FsLG0, FsG0, FsDq0, decide_eq_true_eq, decide_eq_false_iff_not, Bool.not_eq_true', Bool.not_eq_false'] at *
        all_goals first
          | assumption
          | exact ⟨by decide, by decide⟩
          | (simp; done)
          | (intros; first | assumption | trivial | (simp_all; done))
          | (exfalso; simp_all; done)
          | (refine ret_v ?_ rfl
             have hg : getLet xs = (bif (bif decide (w3 = 0) then !ok else false) then (zeroL, 4) else bif !decide (endR xs a3 w3 = 0) then (zeroL, endR xs a3 w3) else bif !rightL (⟨k, s, d, 0, 0, 0, 0, 0, 0, 0, none8, none8, none8, none8, 0, 0, 0, 0, 0, 0, 0, 0, 0, 0, 0, 0, 0, 0, 0, 0, none8, none8, none8, none8, 0, 0, 0, 0, 0, 0, 0, 0, false, 0, 0, 0, 0, 0, 0, 0, none8⟩ : Letter) then (zeroL, 4) else ((⟨k, s, d, 0, 0, 0, 0, 0, 0, 0, none8, none8, none8, none8, 0, 0, 0, 0, 0, 0, 0, 0, 0, 0, 0, 0, 0, 0, 0, 0, none8, none8, none8, none8, 0, 0, 0, 0, 0, 0, 0, 0, false, 0, 0, 0, 0, 0, 0, 0, none8⟩ : Letter), 0)) := by
               simp only [getLet, g1, g2, g3, hP0, restL, cond_true, cond_false, cond_true]
               first | done | rfl
             rw [hg, hz]
             first
               | (rw [h]; rfl)
               | (rw [decide_eq_false h]; rfl)
               | (rename_i h9; rw [decide_eq_true h9, h]; rfl)
               | (rename_i h9; rw [h9, h]; rfl))
  all_goals subst hA
  all_goals simp only [A0]
  all_goals first
    | (intro hq; rw [hq]; rfl)
    | (intros; first | assumption | trivial | (simp_all; done))
end Go.Proofs.Ytbhapclaochcnaa
namespace Go.Proofs.Ytbhapclaochcnaa
open Go.RowKit
set_option linter.all false
set_option maxHeartbeats 8000000
def kn_putLet (F : FsL5) : FuncId × (List DV → RV) := (9, fun args => match args with
  | [.agg m_cs] => (match decLetter m_cs with | some m => some ([F.okLet m], .d (.slc 1 (F.putLet m))) | none => none)
  | _ => none)
set_option maxRecDepth 100000 in
theorem ok_putLet (args : List DV) (cs : List Prop) (r : DV) (h : (kn_putLet FsL50).2 args = some (cs, r)) (hc : allP cs True) : FnV Try.prog 9 args r ∧ closedL 0 args = true := by
  unfold kn_putLet at h
  simp only at h
  split at h
  · split at h
    · rename_i e0
      cases h
      rw [decLetter_eq e0]
      exact ⟨v_putLet _ hc.1, rfl⟩
    · cases h
  · cases h
structure FsL6 where
  getLet : List (List PD) → Letter × Int
  isB8 : List (List PD) → Prop
def FsL60 : FsL6 where
  getLet := getLet
  isB8 := isB8
def kn_getLet (F : FsL6) : FuncId × (List DV → RV) := (11, fun args => match args with
  | [.d (.slc 1 xs)] => some ([F.isB8 xs], .tup [Letter.D (((F.getLet xs)).1), intD (((F.getLet xs)).2)])
  | [.d (.sc (.slice none 0 0))] => some ([F.isB8 []], .tup [Letter.D (((F.getLet [])).1), intD (((F.getLet [])).2)])
  | _ => none)
theorem ok_getLet (args : List DV) (cs : List Prop) (r : DV) (h : (kn_getLet FsL60).2 args = some (cs, r)) (hc : allP cs True) : FnV Try.prog 11 args r ∧ closedL 0 args = true := by
  unfold kn_getLet at h
  simp only at h
  split at h
  · cases h; exact ⟨v_getLet _ hc.1, rfl⟩
  · cases h; exact ⟨FnP.nils (v_getLet [] hc.1) ⟨.inr ⟨rfl, _, rfl⟩, trivial⟩, rfl⟩
  · cases h
theorem lrun1 : putLet (⟨6, 0, 1, 2, 3, 4, 0, 0, 0, 0, none8, none8, none8, none8, 0, 0, 0, 0, 0, 0, 0, 0, 0, 0, 0, 0, 0, 0, 0, 0, none8, none8, none8, none8, 0, 0, 0, 0, 0, 0, 0, 0, false, 0, 0, 0, 0, 0, 0, 0, none8⟩ : Letter) = [[.sc (.int .u8 12)], [.sc (.int .u8 0)], [.sc (.int .u8 2)], [.sc (.int .u8 4)], [.sc (.int .u8 6)], [.sc (.int .u8 8)], [.sc (.int .u8 0)]] := by kernel_rfl
theorem lrun2 : putLet (⟨9, 0, 1, 0, 0, 0, 0, 0, 0, 0, none8, none8, none8, none8, 0, 0, 0, 0, 0, 0, 0, 0, 0, 0, 0, 0, 0, 0, 0, 0, none8, none8, none8, none8, 0, 0, 0, 0, 0, 0, 0, 0, false, 5, 0, 0, 0, 0, 0, 0, none8⟩ : Letter) = [[.sc (.int .u8 18)], [.sc (.int .u8 0)], [.sc (.int .u8 2)], [.sc (.int .u8 10)], [.sc (.int .u8 0)], [.sc (.int .u8 0)], [.sc (.int .u8 0)], [.sc (.int .u8 0)], [.sc (.int .u8 0)], [.sc (.int .u8 0)]] := by kernel_rfl
theorem lrun3 : getLet [[.sc (.int .u8 12)], [.sc (.int .u8 0)], [.sc (.int .u8 0)], [.sc (.int .u8 4)], [.sc (.int .u8 6)], [.sc (.int .u8 8)], [.sc (.int .u8 0)]] = (zeroL, 4) := by kernel_rfl
theorem lrun4 : getLet [[.sc (.int .u8 32)]] = (zeroL, 3) := by kernel_rfl
theorem lrun5 : getLet [[.sc (.int .u8 12)], [.sc (.int .u8 0)], [.sc (.int .u8 2)], [.sc (.int .u8 4)], [.sc (.int .u8 6)], [.sc (.int .u8 8)]] = (zeroL, 3) := by kernel_rfl
theorem okLet_lit {k s d a b e r f : Int} (h : r64 k ∧ r64 s ∧ r64 d ∧ r64 a ∧ r64 b ∧ r64 e ∧ r64 r ∧ r64 f) : okLet (⟨k, s, d, a, b, e, r, 0, 0, 0, none8, none8, none8, none8, 0, 0, 0, 0, 0, 0, 0, 0, 0, 0, 0, 0, 0, 0, 0, 0, none8, none8, none8, none8, 0, 0, 0, 0, 0, 0, 0, 0, false, f, 0, 0, 0, 0, 0, 0, none8⟩ : Letter) := by
  obtain ⟨h1, h2, h3, h4, h5, h6, h7, h8⟩ := h
  have z : r64 0 := by unfold r64; decide
  have z8 : (none8 : ByteArray).size ≤ 1048576 := by decide
  exact ⟨⟨h1, h2, h3⟩, ⟨h4, h5⟩, ⟨h6, h7⟩, ⟨z, z, z, z8, z8, z8, z8⟩, ⟨z, z, z, z, z, z, z, z⟩, ⟨z, ⟨z, z⟩, ⟨z, z⟩, ⟨z, z, z, z8, z8, z8, z8⟩, ⟨z, z, z, z, z, z, z, z⟩⟩, ⟨h8, z, z, z, z, z, z⟩, z8⟩
theorem sameX_self (xs : List (List PD)) : sameX xs xs = true := by simp [sameX]
theorem isB_lit (bs : List UInt8) (xs : List (List PD)) (h : xs = bytesP bs) (hl : bs.length ≤ 8000000) : isB xs := ⟨bs, h, hl⟩
set_option maxRecDepth 100000 in
theorem v_runs15 : FnV Try.prog 3 [] (boolD true) := by
  obtain ⟨GFsL5, hFsL5⟩ : ∃ F, F = FsL50 := ⟨_, rfl⟩
  obtain ⟨GFsQ, hFsQ⟩ : ∃ F, F = FsQ0 := ⟨_, rfl⟩
  obtain ⟨GFsL6, hFsL6⟩ : ∃ F, F = FsL60 := ⟨_, rfl⟩
  have hH : SoundK Try.prog [kn_putLet GFsL5] := by subst hFsL5 hFsQ hFsL6; exact orK_ok ok_putLet noK_ok
  have hB : SoundB Try.prog [fzB (liftK (kn_same GFsQ)), fzB (liftK (kn_getLet GFsL6))] := by subst hFsL5 hFsQ hFsL6; exact orB_ok (okb_fz (okb_lift ok_same)) (orB_ok (okb_fz (okb_lift ok_getLet)) noB_ok)
  refine FnD_cbv (T := fun _ => tabY [] []) (H := fun _ => [kn_putLet GFsL5]) (tabY_ok _ _) hH follows_mixed Try.func3 rfl Try.ntmps3 (by simp) fun A X W hA hX hW => ?_
  cbv
  have r1 : GFsL5.putLet (⟨6, 0, 1, 2, 3, 4, 0, 0, 0, 0, none8, none8, none8, none8, 0, 0, 0, 0, 0, 0, 0, 0, 0, 0, 0, 0, 0, 0, 0, 0, none8, none8, none8, none8, 0, 0, 0, 0, 0, 0, 0, 0, false, 0, 0, 0, 0, 0, 0, 0, none8⟩ : Letter) = [[.sc (.int .u8 12)], [.sc (.int .u8 0)], [.sc (.int .u8 2)], [.sc (.int .u8 4)], [.sc (.int .u8 6)], [.sc (.int .u8 8)], [.sc (.int .u8 0)]] := by subst hFsL5; exact lrun1
  have r2 : GFsL5.putLet (⟨9, 0, 1, 0, 0, 0, 0, 0, 0, 0, none8, none8, none8, none8, 0, 0, 0, 0, 0, 0, 0, 0, 0, 0, 0, 0, 0, 0, 0, 0, none8, none8, none8, none8, 0, 0, 0, 0, 0, 0, 0, 0, false, 5, 0, 0, 0, 0, 0, 0, none8⟩ : Letter) = [[.sc (.int .u8 18)], [.sc (.int .u8 0)], [.sc (.int .u8 2)], [.sc (.int .u8 10)], [.sc (.int .u8 0)], [.sc (.int .u8 0)], [.sc (.int .u8 0)], [.sc (.int .u8 0)], [.sc (.int .u8 0)], [.sc (.int .u8 0)]] := by subst hFsL5; exact lrun2
  have r3 : GFsL6.getLet [[.sc (.int .u8 12)], [.sc (.int .u8 0)], [.sc (.int .u8 0)], [.sc (.int .u8 4)], [.sc (.int .u8 6)], [.sc (.int .u8 8)], [.sc (.int .u8 0)]] = ((⟨0, 0, 0, 0, 0, 0, 0, 0, 0, 0, none8, none8, none8, none8, 0, 0, 0, 0, 0, 0, 0, 0, 0, 0, 0, 0, 0, 0, 0, 0, none8, none8, none8, none8, 0, 0, 0, 0, 0, 0, 0, 0, false, 0, 0, 0, 0, 0, 0, 0, none8⟩ : Letter), 4) := by subst hFsL6; exact lrun3
  have r4 : GFsL6.getLet [[.sc (.int .u8 32)]] = ((⟨0, 0, 0, 0, 0, 0, 0, 0, 0, 0, none8, none8, none8, none8, 0, 0, 0, 0, 0, 0, 0, 0, 0, 0, 0, 0, 0, 0, 0, 0, none8, none8, none8, none8, 0, 0, 0, 0, 0, 0, 0, 0, false, 0, 0, 0, 0, 0, 0, 0, none8⟩ : Letter), 3) := by subst hFsL6; exact lrun4
  have r5 : GFsL6.getLet [[.sc (.int .u8 12)], [.sc (.int .u8 0)], [.sc (.int .u8 2)], [.sc (.int .u8 4)], [.sc (.int .u8 6)], [.sc (.int .u8 8)]] = ((⟨0, 0, 0, 0, 0, 0, 0, 0, 0, 0, none8, none8, none8, none8, 0, 0, 0, 0, 0, 0, 0, 0, 0, 0, 0, 0, 0, 0, 0, 0, none8, none8, none8, none8, 0, 0, 0, 0, 0, 0, 0, 0, false, 0, 0, 0, 0, 0, 0, 0, none8⟩ : Letter), 3) := by subst hFsL6; exact lrun5
  have s1 : GFsQ.same [[.sc (.int .u8 12)], [.sc (.int .u8 0)], [.sc (.int .u8 2)], [.sc (.int .u8 4)], [.sc (.int .u8 6)], [.sc (.int .u8 8)], [.sc (.int .u8 0)]] [[.sc (.int .u8 12)], [.sc (.int .u8 0)], [.sc (.int .u8 2)], [.sc (.int .u8 4)], [.sc (.int .u8 6)], [.sc (.int .u8 8)], [.sc (.int .u8 0)]] = true := by subst hFsQ; exact sameX_self _
  have s2 : GFsQ.same [[.sc (.int .u8 18)], [.sc (.int .u8 0)], [.sc (.int .u8 2)], [.sc (.int .u8 10)], [.sc (.int .u8 0)], [.sc (.int .u8 0)], [.sc (.int .u8 0)], [.sc (.int .u8 0)], [.sc (.int .u8 0)], [.sc (.int .u8 0)]] [[.sc (.int .u8 18)], [.sc (.int .u8 0)], [.sc (.int .u8 2)], [.sc (.int .u8 10)], [.sc (.int .u8 0)], [.sc (.int .u8 0)], [.sc (.int .u8 0)], [.sc (.int .u8 0)], [.sc (.int .u8 0)], [.sc (.int .u8 0)]] = true := by subst hFsQ; exact sameX_self _
  have n1 : A.not true = false := by subst hA; rfl
  have n2 : A.cond false true false = false := by subst hA; rfl
  have ott : A.cond true true false = true := by subst hA; rfl
  have z44 : A.cmp .eql 4 4 = true := by subst hA; rfl
  have z33 : A.cmp .eql 3 3 = true := by subst hA; rfl
  have e6 : A.sub [[.sc (.int .u8 12)], [.sc (.int .u8 0)], [.sc (.int .u8 2)], [.sc (.int .u8 4)], [.sc (.int .u8 6)], [.sc (.int .u8 8)], [.sc (.int .u8 0)]] 0 6 = [[.sc (.int .u8 12)], [.sc (.int .u8 0)], [.sc (.int .u8 2)], [.sc (.int .u8 4)], [.sc (.int .u8 6)], [.sc (.int .u8 8)]] := by subst hA; rfl
  cbv at r1 r2 r3 r4 r5 s1 s2 n1 n2 ott z44 z33 e6
  repeat' first
    | (simp only [r1, r2, r3, r4, r5, s1, s2, n1, n2, ott, z44, z33, e6]; cbv)
    | (refine part (fun h => ?_) (fun h => ?_) <;> try cbv)
    | (refine And.intro ?_ ?_)
    | ((with_reducible refine callB hX hB ?_) <;> cbv)
  all_goals clear hH hB
  all_goals subst hA hX hW hFsL5 hFsQ hFsL6
  all_goals first
    | (refine okLet_lit ?_; unfold r64; decide)
    | exact isB_lit [12, 0, 2, 4, 6, 8, 0] _ rfl (by decide)
    | exact isB_lit [18, 0, 2, 10, 0, 0, 0, 0, 0, 0] _ rfl (by decide)
    | exact isB_lit [12, 0, 0, 4, 6, 8, 0] _ rfl (by decide)
    | exact isB_lit [32] _ rfl (by decide)
    | exact isB_lit [12, 0, 2, 4, 6, 8] _ rfl (by decide)
    | exact ⟨by decide, by decide, by decide⟩
    | (simp only [A0]; intros; first | assumption | trivial | (simp_all; done))
    | (refine ret_v ?_ rfl; rfl)
    | (simp; done)
end Go.Proofs.Ytbhapclaochcnaa
