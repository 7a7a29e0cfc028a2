/- Cells and letters: which may be. No condition. -/
import Derived.Test.YtbhapclaochcnaaDq15
namespace Go.Proofs.Ytbhapclaochcnaa
open Go.RowKit
set_option linter.all false
set_option maxHeartbeats 4000000

structure Ballot where
  epoch : Int
  replica : Int
  deriving DecidableEq
def Ballot.D (x : Ballot) : DV := .agg [intD x.epoch, intD x.replica]
structure Cell where
  status : Int
  pe : Int
  pr : Int
  ve : Int
  vr : Int
  ckind : Int
  cclient : Int
  cseq : Int
  ckey : ByteArray
  cfin : ByteArray
  cold : ByteArray
  cval : ByteArray
  aseq : Int
  ad0 : Int
  ad1 : Int
  ad2 : Int
  ad3 : Int
  ad4 : Int
  ad5 : Int
  ad6 : Int
  same : Bool
  deriving DecidableEq
def Cell.D (x : Cell) : DV := .agg [intD x.status, intD x.pe, intD x.pr, intD x.ve, intD x.vr, intD x.ckind, intD x.cclient, intD x.cseq, strD x.ckey, strD x.cfin, strD x.cold, strD x.cval, intD x.aseq, intD x.ad0, intD x.ad1, intD x.ad2, intD x.ad3, intD x.ad4, intD x.ad5, intD x.ad6, boolD x.same]
structure Parts where
  inst : Bool
  ballot : Bool
  cmd : Bool
  attr : Bool
  cell : Bool
  deps : Bool
  data : Bool
  deriving DecidableEq
def Parts.D (x : Parts) : DV := .agg [boolD x.inst, boolD x.ballot, boolD x.cmd, boolD x.attr, boolD x.cell, boolD x.deps, boolD x.data]
structure Letter where
  lkind : Int
  src : Int
  dst : Int
  irep : Int
  islot : Int
  be : Int
  br : Int
  mkind : Int
  mclient : Int
  mseq : Int
  mkey : ByteArray
  mfin : ByteArray
  mold : ByteArray
  mval : ByteArray
  tseq : Int
  td0 : Int
  td1 : Int
  td2 : Int
  td3 : Int
  td4 : Int
  td5 : Int
  td6 : Int
  lstatus : Int
  lpe : Int
  lpr : Int
  lve : Int
  lvr : Int
  lckind : Int
  lcclient : Int
  lcseq : Int
  lckey : ByteArray
  lcfin : ByteArray
  lcold : ByteArray
  lcval : ByteArray
  laseq : Int
  lad0 : Int
  lad1 : Int
  lad2 : Int
  lad3 : Int
  lad4 : Int
  lad5 : Int
  lad6 : Int
  lsame : Bool
  fd0 : Int
  fd1 : Int
  fd2 : Int
  fd3 : Int
  fd4 : Int
  fd5 : Int
  fd6 : Int
  data : ByteArray
  deriving DecidableEq
def Letter.D (x : Letter) : DV := .agg ((intD x.lkind) :: (intD x.src) :: (intD x.dst) :: (intD x.irep) :: (intD x.islot) :: (intD x.be) :: (intD x.br) :: (intD x.mkind) :: (intD x.mclient) :: (intD x.mseq) :: (strD x.mkey) :: (strD x.mfin) :: (strD x.mold) :: (strD x.mval) :: (intD x.tseq) :: (intD x.td0) :: (intD x.td1) :: (intD x.td2) :: (intD x.td3) :: (intD x.td4) :: (intD x.td5) :: (intD x.td6) :: (intD x.lstatus) :: (intD x.lpe) :: (intD x.lpr) :: (intD x.lve) :: (intD x.lvr) :: (intD x.lckind) :: (intD x.lcclient) :: (intD x.lcseq) :: (strD x.lckey) :: (strD x.lcfin) :: (strD x.lcold) :: (strD x.lcval) :: (intD x.laseq) :: (intD x.lad0) :: (intD x.lad1) :: (intD x.lad2) :: (intD x.lad3) :: (intD x.lad4) :: (intD x.lad5) :: (intD x.lad6) :: (boolD x.lsame) :: (intD x.fd0) :: (intD x.fd1) :: (intD x.fd2) :: (intD x.fd3) :: (intD x.fd4) :: (intD x.fd5) :: (intD x.fd6) :: (strD x.data) :: [])
def Cell.cmd (c : Cell) : Cmd := ⟨c.ckind, c.cclient, c.cseq, c.ckey, c.cfin, c.cold, c.cval⟩
def Cell.attr (c : Cell) : Attr := ⟨c.aseq, c.ad0, c.ad1, c.ad2, c.ad3, c.ad4, c.ad5, c.ad6⟩
def Cell.prom (c : Cell) : Ballot := ⟨c.pe, c.pr⟩
def Cell.voted (c : Cell) : Ballot := ⟨c.ve, c.vr⟩
def Letter.cmd (m : Letter) : Cmd := ⟨m.mkind, m.mclient, m.mseq, m.mkey, m.mfin, m.mold, m.mval⟩
def Letter.attr (m : Letter) : Attr := ⟨m.tseq, m.td0, m.td1, m.td2, m.td3, m.td4, m.td5, m.td6⟩
def Letter.inst (m : Letter) : Inst := ⟨m.irep, m.islot⟩
def Letter.ballot (m : Letter) : Ballot := ⟨m.be, m.br⟩
def Letter.cell (m : Letter) : Cell := ⟨m.lstatus, m.lpe, m.lpr, m.lve, m.lvr, m.lckind, m.lcclient, m.lcseq, m.lckey, m.lcfin, m.lcold, m.lcval, m.laseq, m.lad0, m.lad1, m.lad2, m.lad3, m.lad4, m.lad5, m.lad6, m.lsame⟩
def Letter.deps (m : Letter) : Deps := ⟨m.fd0, m.fd1, m.fd2, m.fd3, m.fd4, m.fd5, m.fd6⟩
def rightB (b : Ballot) : Bool := decide (0 ≤ b.epoch) && decide (b.epoch ≤ 1073741824) && decide (0 ≤ b.replica) && decide (b.replica < 7)
def belowB (a b : Ballot) : Bool := decide (a.epoch < b.epoch) || (decide (a.epoch = b.epoch) && decide (a.replica < b.replica))
/-- A cell with nothing but what is promised. -/
def promC (s e r : Int) : Cell := ⟨s, e, r, 0, 0, 0, 0, 0, none8, none8, none8, none8, 0, 0, 0, 0, 0, 0, 0, 0, false⟩
def cellOnly (c : Cell) : Bool := decide (c.status = 0) && (decide (c.pe = c.pe) && (decide (c.pr = c.pr) && (decide (c.ve = 0) && (decide (c.vr = 0) && (decide (c.ckind = 0) && (decide (c.cclient = 0) && (decide (c.cseq = 0) && (decide (c.ckey = none8) && (decide (c.cfin = none8) && (decide (c.cold = none8) && (decide (c.cval = none8) && (decide (c.aseq = 0) && (decide (c.ad0 = 0) && (decide (c.ad1 = 0) && (decide (c.ad2 = 0) && (decide (c.ad3 = 0) && (decide (c.ad4 = 0) && (decide (c.ad5 = 0) && (decide (c.ad6 = 0) && (decide (c.same = false) && true))))))))))))))))))))
def rightCell (c : Cell) : Bool :=
  bif (bif (bif (bif (bif decide (c.status < 0) then true else decide (3 < c.status)) then true else !rightB c.prom) then true else !rightB c.voted) then true else belowB c.prom c.voted) then false else
  bif (bif (bif c.same then (bif !decide (c.status = 1) then true else !(decide (c.ve = 0) && (decide (c.vr = 0) && true))) else false) then true else (bif decide (c.status = 0) then !cellOnly c else false)) then false else
  bif rightC c.cmd then rightA c.attr else false
def namedP (k : Int) : Parts × Bool :=
  if k = 1 ∨ k = 3 then (⟨true, true, true, true, false, false, false⟩, true) else
  if k = 2 then (⟨true, true, false, true, false, false, false⟩, true) else
  if k = 4 ∨ k = 6 ∨ k = 8 then (⟨true, true, false, false, false, false, false⟩, true) else
  if k = 5 then (⟨true, false, true, true, false, false, false⟩, true) else
  if k = 7 then (⟨true, true, false, false, true, false, false⟩, true) else
  if k = 9 ∨ k = 11 then (⟨false, false, false, false, false, true, false⟩, true) else
  if k = 10 then (⟨false, false, false, false, false, false, true⟩, true) else
  (⟨false, false, false, false, false, false, false⟩, false)
def placeR (r : Int) : Bool := decide (0 ≤ r) && decide (r < 7)

structure FsL1 where
  rightB : Ballot → Bool
  below : Ballot → Ballot → Bool
  rightCell : Cell → Bool
  named : Int → Parts × Bool
  place : Int → Bool
def FsL10 : FsL1 where
  rightB := rightB
  below := belowB
  rightCell := rightCell
  named := namedP
  place := placeR
set_option maxRecDepth 100000 in
theorem v_rightB (b : Ballot) : FnV Try.prog 47 [Ballot.D b] (boolD ((rightB b))) := by
  obtain ⟨b_epoch, b_replica⟩ := b
  refine FnD_cbv (T := fun _ => tabY [] []) (H := fun _ => []) (tabY_ok _ _) noK_ok follows_mixed Try.func47 rfl Try.ntmps47 (by simp) fun A X W hA hX hW => ?_
  cbv
  repeat' first
    | (refine part (fun h => ?_) (fun h => ?_) <;> try cbv)
    | (refine And.intro ?_ ?_)
  all_goals subst hA hX hW
  all_goals try (show Region.lexB _ _ = true; kernel_rfl)
  all_goals try (show turnsB _ = true; kernel_rfl)
  all_goals simp only [A0, FsL10, decide_eq_true_eq, decide_eq_false_iff_not, Bool.not_eq_true', Bool.not_eq_false'] at *
  all_goals first
    | (refine ret_v ?_ rfl
       first
         | rfl
         | (simp_all [rightB, Ballot.D, boolD, intD, strD]; done)
         | (simp_all [rightB, Ballot.D, boolD, intD, strD]; rfl)
         | (simp only [rightB, Ballot.D, boolD, intD, strD] at *; congr 3; grind)
         | (simp only [rightB, Ballot.D, boolD, intD, strD] at *; grind))
    | (intros; simp_all [bytes1, maxLen]; done)
    | (intros; simp only [bytes1, maxLen] at *; omega)
    | grind
def kn_rightB (F : FsL1) : FuncId × (List DV → RV) := (47, fun args => match args with
  | [.agg [.d (.sc (.int .i64 b_epoch)), .d (.sc (.int .i64 b_replica))]] => some ([], boolD ((F.rightB ⟨b_epoch, b_replica⟩)))
  | _ => none)
theorem ok_rightB (args : List DV) (cs : List Prop) (r : DV) (h : (kn_rightB FsL10).2 args = some (cs, r)) (hc : allP cs True) : FnV Try.prog 47 args r ∧ closedL 0 args = true := by
  unfold kn_rightB at h
  simp only at h
  split at h
  · cases h; exact ⟨v_rightB ⟨_, _⟩, rfl⟩
  · cases h
set_option maxRecDepth 100000 in
theorem v_below (a : Ballot) (b : Ballot) : FnV Try.prog 48 [Ballot.D a, Ballot.D b] (boolD ((belowB a b))) := by
  obtain ⟨a_epoch, a_replica⟩ := a
  obtain ⟨b_epoch, b_replica⟩ := b
  refine FnD_cbv (T := fun _ => tabY [] []) (H := fun _ => []) (tabY_ok _ _) noK_ok follows_mixed Try.func48 rfl Try.ntmps48 (by simp) fun A X W hA hX hW => ?_
  cbv
  repeat' first
    | (refine part (fun h => ?_) (fun h => ?_) <;> try cbv)
    | (refine And.intro ?_ ?_)
  all_goals subst hA hX hW
  all_goals try (show Region.lexB _ _ = true; kernel_rfl)
  all_goals try (show turnsB _ = true; kernel_rfl)
  all_goals simp only [A0, FsL10, decide_eq_true_eq, decide_eq_false_iff_not, Bool.not_eq_true', Bool.not_eq_false'] at *
  all_goals first
    | (refine ret_v ?_ rfl
       first
         | rfl
         | (simp_all [belowB, Ballot.D, boolD, intD, strD]; done)
         | (simp_all [belowB, Ballot.D, boolD, intD, strD]; rfl)
         | (simp only [belowB, Ballot.D, boolD, intD, strD] at *; congr 3; grind)
         | (simp only [belowB, Ballot.D, boolD, intD, strD] at *; grind))
    | (intros; simp_all [bytes1, maxLen]; done)
    | (intros; simp only [bytes1, maxLen] at *; omega)
    | grind
def kn_below (F : FsL1) : FuncId × (List DV → RV) := (48, fun args => match args with
  | [.agg [.d (.sc (.int .i64 a_epoch)), .d (.sc (.int .i64 a_replica))], .agg [.d (.sc (.int .i64 b_epoch)), .d (.sc (.int .i64 b_replica))]] => some ([], boolD ((F.below ⟨a_epoch, a_replica⟩ ⟨b_epoch, b_replica⟩)))
  | _ => none)
theorem ok_below (args : List DV) (cs : List Prop) (r : DV) (h : (kn_below FsL10).2 args = some (cs, r)) (hc : allP cs True) : FnV Try.prog 48 args r ∧ closedL 0 args = true := by
  unfold kn_below at h
  simp only at h
  split at h
  · cases h; exact ⟨v_below ⟨_, _⟩ ⟨_, _⟩, rfl⟩
  · cases h
set_option maxRecDepth 100000 in
theorem v_place (r : Int) : FnV Try.prog 51 [intD r] (boolD ((placeR r))) := by
  refine FnD_cbv (T := fun _ => tabY [] []) (H := fun _ => []) (tabY_ok _ _) noK_ok follows_mixed Try.func51 rfl Try.ntmps51 (by simp) fun A X W hA hX hW => ?_
  cbv
  repeat' first
    | (refine part (fun h => ?_) (fun h => ?_) <;> try cbv)
    | (refine And.intro ?_ ?_)
  all_goals subst hA hX hW
  all_goals try (show Region.lexB _ _ = true; kernel_rfl)
  all_goals try (show turnsB _ = true; kernel_rfl)
  all_goals simp only [A0, FsL10, decide_eq_true_eq, decide_eq_false_iff_not, Bool.not_eq_true', Bool.not_eq_false'] at *
  all_goals first
    | (refine ret_v ?_ rfl
       first
         | rfl
         | (simp_all [placeR, boolD, intD, strD]; done)
         | (simp_all [placeR, boolD, intD, strD]; rfl)
         | (simp only [placeR, boolD, intD, strD] at *; congr 3; grind)
         | (simp only [placeR, boolD, intD, strD] at *; grind))
    | (intros; simp_all [bytes1, maxLen]; done)
    | (intros; simp only [bytes1, maxLen] at *; omega)
    | grind
def kn_place (F : FsL1) : FuncId × (List DV → RV) := (51, fun args => match args with
  | [.d (.sc (.int .i64 r))] => some ([], boolD ((F.place r)))
  | _ => none)
theorem ok_place (args : List DV) (cs : List Prop) (r : DV) (h : (kn_place FsL10).2 args = some (cs, r)) (hc : allP cs True) : FnV Try.prog 51 args r ∧ closedL 0 args = true := by
  unfold kn_place at h
  simp only at h
  split at h
  · cases h; exact ⟨v_place _, rfl⟩
  · cases h
set_option maxRecDepth 100000 in
theorem v_named (k : Int) : FnV Try.prog 30 [intD k] (.tup [Parts.D (((namedP k)).1), boolD (((namedP k)).2)]) := by
  refine FnD_cbv (T := fun _ => tabY [] []) (H := fun _ => []) (tabY_ok _ _) noK_ok follows_mixed Try.func30 rfl Try.ntmps30 (by simp) fun A X W hA hX hW => ?_
  cbv
  repeat' first
    | (refine part (fun h => ?_) (fun h => ?_) <;> try cbv)
    | (refine And.intro ?_ ?_)
  all_goals subst hA hX hW
  all_goals try (show Region.lexB _ _ = true; kernel_rfl)
  all_goals try (show turnsB _ = true; kernel_rfl)
  all_goals simp only [A0, FsL10, decide_eq_true_eq, decide_eq_false_iff_not, Bool.not_eq_true', Bool.not_eq_false'] at *
  all_goals first
    | (refine ret_v ?_ rfl
       first
         | rfl
         | (simp_all [namedP, boolD, intD, strD]; done)
         | (simp_all [namedP, boolD, intD, strD]; rfl)
         | (simp only [namedP, boolD, intD, strD] at *; congr 3; grind)
         | (simp only [namedP, boolD, intD, strD] at *; grind))
    | (intros; simp_all [bytes1, maxLen]; done)
    | (intros; simp only [bytes1, maxLen] at *; omega)
    | grind
def kn_named (F : FsL1) : FuncId × (List DV → RV) := (30, fun args => match args with
  | [.d (.sc (.int .i64 k))] => some ([], .tup [Parts.D (((F.named k)).1), boolD (((F.named k)).2)])
  | _ => none)
theorem ok_named (args : List DV) (cs : List Prop) (r : DV) (h : (kn_named FsL10).2 args = some (cs, r)) (hc : allP cs True) : FnV Try.prog 30 args r ∧ closedL 0 args = true := by
  unfold kn_named at h
  simp only at h
  split at h
  · cases h; exact ⟨v_named _, rfl⟩
  · cases h
set_option maxRecDepth 100000 in
theorem v_rightCell (c : Cell) : FnV Try.prog 15 [Cell.D c] (boolD ((rightCell c))) := by
  obtain ⟨c_status, c_pe, c_pr, c_ve, c_vr, c_ckind, c_cclient, c_cseq, c_ckey, c_cfin, c_cold, c_cval, c_aseq, c_ad0, c_ad1, c_ad2, c_ad3, c_ad4, c_ad5, c_ad6, c_same⟩ := c
  obtain ⟨F, hF⟩ : ∃ F, F = FsL10 := ⟨_, rfl⟩
  obtain ⟨GFs5, hGFs5⟩ : ∃ F, F = Fs50 := ⟨_, rfl⟩
  obtain ⟨GFsA, hGFsA⟩ : ∃ F, F = FsA0 := ⟨_, rfl⟩
  have hH : SoundK Try.prog [kn_rightB F, kn_below F, kn_right GFs5, kn_rightA GFsA] := by subst hF hGFs5 hGFsA; exact orK_ok ok_rightB (orK_ok ok_below (orK_ok ok_right (orK_ok ok_rightA noK_ok)))
  refine FnD_cbv (T := fun _ => tabY [] []) (H := fun _ => [kn_rightB F, kn_below F, kn_right GFs5, kn_rightA GFsA]) (tabY_ok _ _) hH follows_mixed Try.func15 rfl Try.ntmps15 (by simp) fun A X W hA hX hW => ?_
  cbv
  repeat' first
    | (refine part (fun h => ?_) (fun h => ?_) <;> try cbv)
    | (refine And.intro ?_ ?_)
  all_goals subst hA hX hW hF hGFs5 hGFsA
  all_goals clear hH
  all_goals first
    | (show Region.lexB _ _ = true; kernel_rfl)
    | (simp only [A0]; intros; first | assumption | trivial | (simp_all; done))
    | (simp only [A0]; intro hq; simpa using hq)
    | skip
  all_goals try simp only [A0, nc, FsL10, Fs50, FsA0] at *
  all_goals first
    | (refine ret_v ?_ rfl; simp only [rightCell, cellOnly, Cell.prom, Cell.voted, Cell.cmd, Cell.attr, boolD, *]; rfl)
def kn_rightCell (F : FsL1) : FuncId × (List DV → RV) := (15, fun args => match args with
  | [.agg [.d (.sc (.int .i64 c_status)), .d (.sc (.int .i64 c_pe)), .d (.sc (.int .i64 c_pr)), .d (.sc (.int .i64 c_ve)), .d (.sc (.int .i64 c_vr)), .d (.sc (.int .i64 c_ckind)), .d (.sc (.int .i64 c_cclient)), .d (.sc (.int .i64 c_cseq)), .d (.sc (.string c_ckey)), .d (.sc (.string c_cfin)), .d (.sc (.string c_cold)), .d (.sc (.string c_cval)), .d (.sc (.int .i64 c_aseq)), .d (.sc (.int .i64 c_ad0)), .d (.sc (.int .i64 c_ad1)), .d (.sc (.int .i64 c_ad2)), .d (.sc (.int .i64 c_ad3)), .d (.sc (.int .i64 c_ad4)), .d (.sc (.int .i64 c_ad5)), .d (.sc (.int .i64 c_ad6)), .d (.sc (.bool c_same))]] => some ([], boolD ((F.rightCell ⟨c_status, c_pe, c_pr, c_ve, c_vr, c_ckind, c_cclient, c_cseq, c_ckey, c_cfin, c_cold, c_cval, c_aseq, c_ad0, c_ad1, c_ad2, c_ad3, c_ad4, c_ad5, c_ad6, c_same⟩)))
  | _ => none)
theorem ok_rightCell (args : List DV) (cs : List Prop) (r : DV) (h : (kn_rightCell FsL10).2 args = some (cs, r)) (hc : allP cs True) : FnV Try.prog 15 args r ∧ closedL 0 args = true := by
  unfold kn_rightCell at h
  simp only at h
  split at h
  · cases h; exact ⟨v_rightCell ⟨_, _, _, _, _, _, _, _, _, _, _, _, _, _, _, _, _, _, _, _, _⟩, rfl⟩
  · cases h
def bareL (m : Letter) (p : Parts) : Letter := ⟨m.lkind, m.src, m.dst, (bif p.inst then m.irep else 0), (bif p.inst then m.islot else 0), (bif p.ballot then m.be else 0), (bif p.ballot then m.br else 0), (bif p.cmd then m.mkind else 0), (bif p.cmd then m.mclient else 0), (bif p.cmd then m.mseq else 0), (bif p.cmd then m.mkey else none8), (bif p.cmd then m.mfin else none8), (bif p.cmd then m.mold else none8), (bif p.cmd then m.mval else none8), (bif p.attr then m.tseq else 0), (bif p.attr then m.td0 else 0), (bif p.attr then m.td1 else 0), (bif p.attr then m.td2 else 0), (bif p.attr then m.td3 else 0), (bif p.attr then m.td4 else 0), (bif p.attr then m.td5 else 0), (bif p.attr then m.td6 else 0), (bif p.cell then m.lstatus else 0), (bif p.cell then m.lpe else 0), (bif p.cell then m.lpr else 0), (bif p.cell then m.lve else 0), (bif p.cell then m.lvr else 0), (bif p.cell then m.lckind else 0), (bif p.cell then m.lcclient else 0), (bif p.cell then m.lcseq else 0), (bif p.cell then m.lckey else none8), (bif p.cell then m.lcfin else none8), (bif p.cell then m.lcold else none8), (bif p.cell then m.lcval else none8), (bif p.cell then m.laseq else 0), (bif p.cell then m.lad0 else 0), (bif p.cell then m.lad1 else 0), (bif p.cell then m.lad2 else 0), (bif p.cell then m.lad3 else 0), (bif p.cell then m.lad4 else 0), (bif p.cell then m.lad5 else 0), (bif p.cell then m.lad6 else 0), (bif p.cell then m.lsame else false), (bif p.deps then m.fd0 else 0), (bif p.deps then m.fd1 else 0), (bif p.deps then m.fd2 else 0), (bif p.deps then m.fd3 else 0), (bif p.deps then m.fd4 else 0), (bif p.deps then m.fd5 else 0), (bif p.deps then m.fd6 else 0), (bif p.data then m.data else none8)⟩
def eqLet (a b : Letter) : Bool := decide (a.lkind = b.lkind) && (decide (a.src = b.src) && (decide (a.dst = b.dst) && (decide (a.irep = b.irep) && (decide (a.islot = b.islot) && (decide (a.be = b.be) && (decide (a.br = b.br) && (decide (a.mkind = b.mkind) && (decide (a.mclient = b.mclient) && (decide (a.mseq = b.mseq) && (decide (a.mkey = b.mkey) && (decide (a.mfin = b.mfin) && (decide (a.mold = b.mold) && (decide (a.mval = b.mval) && (decide (a.tseq = b.tseq) && (decide (a.td0 = b.td0) && (decide (a.td1 = b.td1) && (decide (a.td2 = b.td2) && (decide (a.td3 = b.td3) && (decide (a.td4 = b.td4) && (decide (a.td5 = b.td5) && (decide (a.td6 = b.td6) && (decide (a.lstatus = b.lstatus) && (decide (a.lpe = b.lpe) && (decide (a.lpr = b.lpr) && (decide (a.lve = b.lve) && (decide (a.lvr = b.lvr) && (decide (a.lckind = b.lckind) && (decide (a.lcclient = b.lcclient) && (decide (a.lcseq = b.lcseq) && (decide (a.lckey = b.lckey) && (decide (a.lcfin = b.lcfin) && (decide (a.lcold = b.lcold) && (decide (a.lcval = b.lcval) && (decide (a.laseq = b.laseq) && (decide (a.lad0 = b.lad0) && (decide (a.lad1 = b.lad1) && (decide (a.lad2 = b.lad2) && (decide (a.lad3 = b.lad3) && (decide (a.lad4 = b.lad4) && (decide (a.lad5 = b.lad5) && (decide (a.lad6 = b.lad6) && (decide (a.lsame = b.lsame) && (decide (a.fd0 = b.fd0) && (decide (a.fd1 = b.fd1) && (decide (a.fd2 = b.fd2) && (decide (a.fd3 = b.fd3) && (decide (a.fd4 = b.fd4) && (decide (a.fd5 = b.fd5) && (decide (a.fd6 = b.fd6) && (decide (a.data = b.data) && true))))))))))))))))))))))))))))))))))))))))))))))))))
def isParts (p : Parts) : Prop := p = ⟨true, true, true, true, false, false, false⟩ ∨ p = ⟨true, true, false, true, false, false, false⟩ ∨ p = ⟨true, true, false, false, false, false, false⟩ ∨ p = ⟨true, false, true, true, false, false, false⟩ ∨ p = ⟨true, true, false, false, true, false, false⟩ ∨ p = ⟨false, false, false, false, false, true, false⟩ ∨ p = ⟨false, false, false, false, false, false, true⟩ ∨ p = ⟨false, false, false, false, false, false, false⟩
theorem named_parts (k : Int) : isParts (namedP k).1 := by
  unfold namedP isParts
  repeat' split
  all_goals simp
def badL1 (m : Letter) : Bool := bif (bif (bif (bif !(namedP m.lkind).2 then true else !placeR m.src) then true else !placeR m.dst) then true else decide (m.src = m.dst)) then true else !eqLet m (bareL m (namedP m.lkind).1)
def badL2 (m : Letter) : Bool := bif (bif (bif (bif (bif (namedP m.lkind).1.inst then !rightI m.inst else false) then true else !rightB m.ballot) then true else !rightC m.cmd) then true else !rightA m.attr) then true else !rightCell m.cell
def lastL (m : Letter) : Bool := bif rightA ⟨0, m.fd0, m.fd1, m.fd2, m.fd3, m.fd4, m.fd5, m.fd6⟩ then decide ((m.data.size : Int) ≤ 16384) else false
def rightL (m : Letter) : Bool := bif badL1 m then false else bif badL2 m then false else lastL m
def dl_i : List DV → Option (Int × List DV)
  | .d (.sc (.int .i64 n)) :: r => some (n, r)
  | _ => none
def dl_s : List DV → Option (ByteArray × List DV)
  | .d (.sc (.string n)) :: r => some (n, r)
  | _ => none
def dl_b : List DV → Option (Bool × List DV)
  | .d (.sc (.bool n)) :: r => some (n, r)
  | _ => none
theorem dl_i_eq {cs : List DV} {n : Int} {r : List DV} (h : dl_i cs = some (n, r)) : cs = .d (.sc (.int .i64 n)) :: r := by
  unfold dl_i at h
  split at h
  · cases h; rfl
  · cases h
theorem dl_s_eq {cs : List DV} {n : ByteArray} {r : List DV} (h : dl_s cs = some (n, r)) : cs = .d (.sc (.string n)) :: r := by
  unfold dl_s at h
  split at h
  · cases h; rfl
  · cases h
theorem dl_b_eq {cs : List DV} {n : Bool} {r : List DV} (h : dl_b cs = some (n, r)) : cs = .d (.sc (.bool n)) :: r := by
  unfold dl_b at h
  split at h
  · cases h; rfl
  · cases h
def decLetter (r0 : List DV) : Option Letter := (dl_i r0).bind fun q0 => (fun x0 r1 => (dl_i r1).bind fun q1 => (fun x1 r2 => (dl_i r2).bind fun q2 => (fun x2 r3 => (dl_i r3).bind fun q3 => (fun x3 r4 => (dl_i r4).bind fun q4 => (fun x4 r5 => (dl_i r5).bind fun q5 => (fun x5 r6 => (dl_i r6).bind fun q6 => (fun x6 r7 => (dl_i r7).bind fun q7 => (fun x7 r8 => (dl_i r8).bind fun q8 => (fun x8 r9 => (dl_i r9).bind fun q9 => (fun x9 r10 => (dl_s r10).bind fun q10 => (fun x10 r11 => (dl_s r11).bind fun q11 => (fun x11 r12 => (dl_s r12).bind fun q12 => (fun x12 r13 => (dl_s r13).bind fun q13 => (fun x13 r14 => (dl_i r14).bind fun q14 => (fun x14 r15 => (dl_i r15).bind fun q15 => (fun x15 r16 => (dl_i r16).bind fun q16 => (fun x16 r17 => (dl_i r17).bind fun q17 => (fun x17 r18 => (dl_i r18).bind fun q18 => (fun x18 r19 => (dl_i r19).bind fun q19 => (fun x19 r20 => (dl_i r20).bind fun q20 => (fun x20 r21 => (dl_i r21).bind fun q21 => (fun x21 r22 => (dl_i r22).bind fun q22 => (fun x22 r23 => (dl_i r23).bind fun q23 => (fun x23 r24 => (dl_i r24).bind fun q24 => (fun x24 r25 => (dl_i r25).bind fun q25 => (fun x25 r26 => (dl_i r26).bind fun q26 => (fun x26 r27 => (dl_i r27).bind fun q27 => (fun x27 r28 => (dl_i r28).bind fun q28 => (fun x28 r29 => (dl_i r29).bind fun q29 => (fun x29 r30 => (dl_s r30).bind fun q30 => (fun x30 r31 => (dl_s r31).bind fun q31 => (fun x31 r32 => (dl_s r32).bind fun q32 => (fun x32 r33 => (dl_s r33).bind fun q33 => (fun x33 r34 => (dl_i r34).bind fun q34 => (fun x34 r35 => (dl_i r35).bind fun q35 => (fun x35 r36 => (dl_i r36).bind fun q36 => (fun x36 r37 => (dl_i r37).bind fun q37 => (fun x37 r38 => (dl_i r38).bind fun q38 => (fun x38 r39 => (dl_i r39).bind fun q39 => (fun x39 r40 => (dl_i r40).bind fun q40 => (fun x40 r41 => (dl_i r41).bind fun q41 => (fun x41 r42 => (dl_b r42).bind fun q42 => (fun x42 r43 => (dl_i r43).bind fun q43 => (fun x43 r44 => (dl_i r44).bind fun q44 => (fun x44 r45 => (dl_i r45).bind fun q45 => (fun x45 r46 => (dl_i r46).bind fun q46 => (fun x46 r47 => (dl_i r47).bind fun q47 => (fun x47 r48 => (dl_i r48).bind fun q48 => (fun x48 r49 => (dl_i r49).bind fun q49 => (fun x49 r50 => (dl_s r50).bind fun q50 => (fun x50 r51 => (match r51 with | [] => some ⟨x0, x1, x2, x3, x4, x5, x6, x7, x8, x9, x10, x11, x12, x13, x14, x15, x16, x17, x18, x19, x20, x21, x22, x23, x24, x25, x26, x27, x28, x29, x30, x31, x32, x33, x34, x35, x36, x37, x38, x39, x40, x41, x42, x43, x44, x45, x46, x47, x48, x49, x50⟩ | _ :: _ => none)) q50.1 q50.2) q49.1 q49.2) q48.1 q48.2) q47.1 q47.2) q46.1 q46.2) q45.1 q45.2) q44.1 q44.2) q43.1 q43.2) q42.1 q42.2) q41.1 q41.2) q40.1 q40.2) q39.1 q39.2) q38.1 q38.2) q37.1 q37.2) q36.1 q36.2) q35.1 q35.2) q34.1 q34.2) q33.1 q33.2) q32.1 q32.2) q31.1 q31.2) q30.1 q30.2) q29.1 q29.2) q28.1 q28.2) q27.1 q27.2) q26.1 q26.2) q25.1 q25.2) q24.1 q24.2) q23.1 q23.2) q22.1 q22.2) q21.1 q21.2) q20.1 q20.2) q19.1 q19.2) q18.1 q18.2) q17.1 q17.2) q16.1 q16.2) q15.1 q15.2) q14.1 q14.2) q13.1 q13.2) q12.1 q12.2) q11.1 q11.2) q10.1 q10.2) q9.1 q9.2) q8.1 q8.2) q7.1 q7.2) q6.1 q6.2) q5.1 q5.2) q4.1 q4.2) q3.1 q3.2) q2.1 q2.2) q1.1 q1.2) q0.1 q0.2
set_option maxRecDepth 100000 in
theorem decLetter_eq {r0 : List DV} {m : Letter} (h : decLetter r0 = some m) : DV.agg r0 = m.D := by
  unfold decLetter at h
  rw [Option.bind_eq_some_iff] at h
  obtain ⟨⟨x0, r1⟩, h0, h⟩ := h
  rw [Option.bind_eq_some_iff] at h
  obtain ⟨⟨x1, r2⟩, h1, h⟩ := h
  rw [Option.bind_eq_some_iff] at h
  obtain ⟨⟨x2, r3⟩, h2, h⟩ := h
  rw [Option.bind_eq_some_iff] at h
  obtain ⟨⟨x3, r4⟩, h3, h⟩ := h
  rw [Option.bind_eq_some_iff] at h
  obtain ⟨⟨x4, r5⟩, h4, h⟩ := h
  rw [Option.bind_eq_some_iff] at h
  obtain ⟨⟨x5, r6⟩, h5, h⟩ := h
  rw [Option.bind_eq_some_iff] at h
  obtain ⟨⟨x6, r7⟩, h6, h⟩ := h
  rw [Option.bind_eq_some_iff] at h
  obtain ⟨⟨x7, r8⟩, h7, h⟩ := h
  rw [Option.bind_eq_some_iff] at h
  obtain ⟨⟨x8, r9⟩, h8, h⟩ := h
  rw [Option.bind_eq_some_iff] at h
  obtain ⟨⟨x9, r10⟩, h9, h⟩ := h
  rw [Option.bind_eq_some_iff] at h
  obtain ⟨⟨x10, r11⟩, h10, h⟩ := h
  rw [Option.bind_eq_some_iff] at h
  obtain ⟨⟨x11, r12⟩, h11, h⟩ := h
  rw [Option.bind_eq_some_iff] at h
  obtain ⟨⟨x12, r13⟩, h12, h⟩ := h
  rw [Option.bind_eq_some_iff] at h
  obtain ⟨⟨x13, r14⟩, h13, h⟩ := h
  rw [Option.bind_eq_some_iff] at h
  obtain ⟨⟨x14, r15⟩, h14, h⟩ := h
  rw [Option.bind_eq_some_iff] at h
  obtain ⟨⟨x15, r16⟩, h15, h⟩ := h
  rw [Option.bind_eq_some_iff] at h
  obtain ⟨⟨x16, r17⟩, h16, h⟩ := h
  rw [Option.bind_eq_some_iff] at h
  obtain ⟨⟨x17, r18⟩, h17, h⟩ := h
  rw [Option.bind_eq_some_iff] at h
  obtain ⟨⟨x18, r19⟩, h18, h⟩ := h
  rw [Option.bind_eq_some_iff] at h
  obtain ⟨⟨x19, r20⟩, h19, h⟩ := h
  rw [Option.bind_eq_some_iff] at h
  obtain ⟨⟨x20, r21⟩, h20, h⟩ := h
  rw [Option.bind_eq_some_iff] at h
  obtain ⟨⟨x21, r22⟩, h21, h⟩ := h
  rw [Option.bind_eq_some_iff] at h
  obtain ⟨⟨x22, r23⟩, h22, h⟩ := h
  rw [Option.bind_eq_some_iff] at h
  obtain ⟨⟨x23, r24⟩, h23, h⟩ := h
  rw [Option.bind_eq_some_iff] at h
  obtain ⟨⟨x24, r25⟩, h24, h⟩ := h
  rw [Option.bind_eq_some_iff] at h
  obtain ⟨⟨x25, r26⟩, h25, h⟩ := h
  rw [Option.bind_eq_some_iff] at h
  obtain ⟨⟨x26, r27⟩, h26, h⟩ := h
  rw [Option.bind_eq_some_iff] at h
  obtain ⟨⟨x27, r28⟩, h27, h⟩ := h
  rw [Option.bind_eq_some_iff] at h
  obtain ⟨⟨x28, r29⟩, h28, h⟩ := h
  rw [Option.bind_eq_some_iff] at h
  obtain ⟨⟨x29, r30⟩, h29, h⟩ := h
  rw [Option.bind_eq_some_iff] at h
  obtain ⟨⟨x30, r31⟩, h30, h⟩ := h
  rw [Option.bind_eq_some_iff] at h
  obtain ⟨⟨x31, r32⟩, h31, h⟩ := h
  rw [Option.bind_eq_some_iff] at h
  obtain ⟨⟨x32, r33⟩, h32, h⟩ := h
  rw [Option.bind_eq_some_iff] at h
  obtain ⟨⟨x33, r34⟩, h33, h⟩ := h
  rw [Option.bind_eq_some_iff] at h
  obtain ⟨⟨x34, r35⟩, h34, h⟩ := h
  rw [Option.bind_eq_some_iff] at h
  obtain ⟨⟨x35, r36⟩, h35, h⟩ := h
  rw [Option.bind_eq_some_iff] at h
  obtain ⟨⟨x36, r37⟩, h36, h⟩ := h
  rw [Option.bind_eq_some_iff] at h
  obtain ⟨⟨x37, r38⟩, h37, h⟩ := h
  rw [Option.bind_eq_some_iff] at h
  obtain ⟨⟨x38, r39⟩, h38, h⟩ := h
  rw [Option.bind_eq_some_iff] at h
  obtain ⟨⟨x39, r40⟩, h39, h⟩ := h
  rw [Option.bind_eq_some_iff] at h
  obtain ⟨⟨x40, r41⟩, h40, h⟩ := h
  rw [Option.bind_eq_some_iff] at h
  obtain ⟨⟨x41, r42⟩, h41, h⟩ := h
  rw [Option.bind_eq_some_iff] at h
  obtain ⟨⟨x42, r43⟩, h42, h⟩ := h
  rw [Option.bind_eq_some_iff] at h
  obtain ⟨⟨x43, r44⟩, h43, h⟩ := h
  rw [Option.bind_eq_some_iff] at h
  obtain ⟨⟨x44, r45⟩, h44, h⟩ := h
  rw [Option.bind_eq_some_iff] at h
  obtain ⟨⟨x45, r46⟩, h45, h⟩ := h
  rw [Option.bind_eq_some_iff] at h
  obtain ⟨⟨x46, r47⟩, h46, h⟩ := h
  rw [Option.bind_eq_some_iff] at h
  obtain ⟨⟨x47, r48⟩, h47, h⟩ := h
  rw [Option.bind_eq_some_iff] at h
  obtain ⟨⟨x48, r49⟩, h48, h⟩ := h
  rw [Option.bind_eq_some_iff] at h
  obtain ⟨⟨x49, r50⟩, h49, h⟩ := h
  rw [Option.bind_eq_some_iff] at h
  obtain ⟨⟨x50, r51⟩, h50, h⟩ := h
  dsimp only at *
  split at h
  · cases h
    rw [dl_i_eq h0, dl_i_eq h1, dl_i_eq h2, dl_i_eq h3, dl_i_eq h4, dl_i_eq h5, dl_i_eq h6, dl_i_eq h7, dl_i_eq h8, dl_i_eq h9, dl_s_eq h10, dl_s_eq h11, dl_s_eq h12, dl_s_eq h13, dl_i_eq h14, dl_i_eq h15, dl_i_eq h16, dl_i_eq h17, dl_i_eq h18, dl_i_eq h19, dl_i_eq h20, dl_i_eq h21, dl_i_eq h22, dl_i_eq h23, dl_i_eq h24, dl_i_eq h25, dl_i_eq h26, dl_i_eq h27, dl_i_eq h28, dl_i_eq h29, dl_s_eq h30, dl_s_eq h31, dl_s_eq h32, dl_s_eq h33, dl_i_eq h34, dl_i_eq h35, dl_i_eq h36, dl_i_eq h37, dl_i_eq h38, dl_i_eq h39, dl_i_eq h40, dl_i_eq h41, dl_b_eq h42, dl_i_eq h43, dl_i_eq h44, dl_i_eq h45, dl_i_eq h46, dl_i_eq h47, dl_i_eq h48, dl_i_eq h49, dl_s_eq h50]
    rfl
  · cases h
structure FsL2 where
  bareL : Letter → Parts → Letter
  isParts : Parts → Prop
  rightL : Letter → Bool
def FsL20 : FsL2 where
  bareL := bareL
  isParts := isParts
  rightL := rightL
set_option maxRecDepth 100000 in
theorem v_bareL (m : Letter) (p : Parts) (hp0 : FsL20.isParts p) : FnV Try.prog 52 [Letter.D m, Parts.D p] (Letter.D ((bareL m p))) := by
  obtain ⟨m_lkind, m_src, m_dst, m_irep, m_islot, m_be, m_br, m_mkind, m_mclient, m_mseq, m_mkey, m_mfin, m_mold, m_mval, m_tseq, m_td0, m_td1, m_td2, m_td3, m_td4, m_td5, m_td6, m_lstatus, m_lpe, m_lpr, m_lve, m_lvr, m_lckind, m_lcclient, m_lcseq, m_lckey, m_lcfin, m_lcold, m_lcval, m_laseq, m_lad0, m_lad1, m_lad2, m_lad3, m_lad4, m_lad5, m_lad6, m_lsame, m_fd0, m_fd1, m_fd2, m_fd3, m_fd4, m_fd5, m_fd6, m_data⟩ := m
  obtain ⟨p_inst, p_ballot, p_cmd, p_attr, p_cell, p_deps, p_data⟩ := p
  refine FnD_cbv (T := fun _ => tabY [] []) (H := fun _ => []) (tabY_ok _ _) noK_ok follows_mixed Try.func52 rfl Try.ntmps52 (by simp) fun A X W hA hX hW => ?_
  cbv
  rcases (hp0 : isParts _) with h | h | h | h | h | h | h | h
  all_goals simp only [Parts.mk.injEq] at h
  all_goals obtain ⟨rfl, rfl, rfl, rfl, rfl, rfl, rfl⟩ := h
  all_goals cbv
  all_goals subst hW
  all_goals first
    | (refine ret_v ?_ rfl; rfl)
def kn_bareL (F : FsL2) : FuncId × (List DV → RV) := (52, fun args => match args with
  | [.agg m_cs, .agg [.d (.sc (.bool p_inst)), .d (.sc (.bool p_ballot)), .d (.sc (.bool p_cmd)), .d (.sc (.bool p_attr)), .d (.sc (.bool p_cell)), .d (.sc (.bool p_deps)), .d (.sc (.bool p_data))]] => (match decLetter m_cs with | some m => some ([F.isParts ⟨p_inst, p_ballot, p_cmd, p_attr, p_cell, p_deps, p_data⟩], Letter.D ((F.bareL m ⟨p_inst, p_ballot, p_cmd, p_attr, p_cell, p_deps, p_data⟩))) | none => none)
  | _ => none)
set_option maxRecDepth 100000 in
theorem ok_bareL (args : List DV) (cs : List Prop) (r : DV) (h : (kn_bareL FsL20).2 args = some (cs, r)) (hc : allP cs True) : FnV Try.prog 52 args r ∧ closedL 0 args = true := by
  unfold kn_bareL at h
  simp only at h
  split at h
  · split at h
    · rename_i e0
      cases h
      rw [decLetter_eq e0]
      exact ⟨v_bareL _ ⟨_, _, _, _, _, _, _⟩ hc.1, rfl⟩
    · cases h
  · cases h
end Go.Proofs.Ytbhapclaochcnaa
