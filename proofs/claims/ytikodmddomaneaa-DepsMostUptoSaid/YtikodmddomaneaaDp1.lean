/- Attributes and rows of slots: what the small functions give. No condition. -/
import Derived.Test.YtikodmddomaneaaBook7
import Derived.Test.YtikodmddomaneaaAm40
namespace Go.Proofs.Ytikodmddomaneaa
open Go.RowKit
set_option linter.all false
set_option maxHeartbeats 4000000

structure Attr where
  seq : Int
  d0 : Int
  d1 : Int
  d2 : Int
  d3 : Int
  d4 : Int
  d5 : Int
  d6 : Int
  deriving DecidableEq
def Attr.D (x : Attr) : DV := .agg [intD x.seq, intD x.d0, intD x.d1, intD x.d2, intD x.d3, intD x.d4, intD x.d5, intD x.d6]
structure Deps where
  d0 : Int
  d1 : Int
  d2 : Int
  d3 : Int
  d4 : Int
  d5 : Int
  d6 : Int
  deriving DecidableEq
def Deps.D (x : Deps) : DV := .agg [intD x.d0, intD x.d1, intD x.d2, intD x.d3, intD x.d4, intD x.d5, intD x.d6]
structure Inst where
  replica : Int
  slot : Int
  deriving DecidableEq
def Inst.D (x : Inst) : DV := .agg [intD x.replica, intD x.slot]
def rightI (i : Inst) : Bool := decide (0 ≤ i.replica) && decide (i.replica < 7) && decide (1 ≤ i.slot) && decide (i.slot ≤ 1073741824)
def okK (k : Int) : Bool := decide (0 ≤ k) && decide (k ≤ 1073741824)
def rightDs (d : Deps) : Bool := okK d.d0 && okK d.d1 && okK d.d2 && okK d.d3 && okK d.d4 && okK d.d5 && okK d.d6
def Attr.deps (a : Attr) : Deps := ⟨a.d0, a.d1, a.d2, a.d3, a.d4, a.d5, a.d6⟩
def rightA (a : Attr) : Bool := decide (0 ≤ a.seq) && decide (a.seq ≤ 1099511627776) && rightDs a.deps
def coversD (a b : Deps) : Bool := decide (b.d0 ≤ a.d0) && decide (b.d1 ≤ a.d1) && decide (b.d2 ≤ a.d2) && decide (b.d3 ≤ a.d3) && decide (b.d4 ≤ a.d4) && decide (b.d5 ≤ a.d5) && decide (b.d6 ≤ a.d6)
def Deps.at (d : Deps) (r : Int) : Int := if r = 0 then d.d0 else if r = 1 then d.d1 else if r = 2 then d.d2 else if r = 3 then d.d3 else if r = 4 then d.d4 else if r = 5 then d.d5 else d.d6
def reachD (d : Deps) (i : Inst) : Bool := rightI i && decide (i.slot ≤ d.at i.replica)
def lessI (a b : Inst) : Bool := decide (a.replica < b.replica) || (decide (a.replica = b.replica) && decide (a.slot < b.slot))
def joinA (a b : Attr) : Attr := ⟨max a.seq b.seq, max a.d0 b.d0, max a.d1 b.d1, max a.d2 b.d2, max a.d3 b.d3, max a.d4 b.d4, max a.d5 b.d5, max a.d6 b.d6⟩

structure FsA where
  rightI : Inst → Bool
  rightD : Deps → Bool
  rightA : Attr → Bool
  rightAR : Attr → Bool
  covers : Deps → Deps → Bool
  reach : Deps → Inst → Bool
  less : Inst → Inst → Bool
  join2 : Attr → Attr → Attr
def FsA0 : FsA where
  rightI := rightI
  rightD := rightDs
  rightA := rightA
  rightAR := rightA
  covers := coversD
  reach := reachD
  less := lessI
  join2 := joinA
set_option maxRecDepth 100000 in
theorem v_rightI (i : Inst) : FnV Try.prog 31 [Inst.D i] (boolD ((rightI i))) := by
  obtain ⟨i_replica, i_slot⟩ := i
  refine FnD_cbv (T := fun _ => tabY [] []) (H := fun _ => []) (tabY_ok _ _) noK_ok follows_mixed Try.func31 rfl Try.ntmps31 (by simp) fun A X W hA hX hW => ?_
  cbv
  repeat' first
    | (refine part (fun h => ?_) (fun h => ?_) <;> try cbv)
    | (refine And.intro ?_ ?_)
  all_goals subst hA hX hW
  all_goals try (show Region.lexB _ _ = true; kernel_rfl)
  all_goals try (show turnsB _ = true; kernel_rfl)
  all_goals simp only [A0, FsA0, decide_eq_true_eq, decide_eq_false_iff_not, Bool.not_eq_true', Bool.not_eq_false'] at *
  all_goals first
    | (refine ret_v ?_ rfl
       first
         | rfl
         | (simp_all [rightI, Inst.D, boolD, intD, strD]; done)
         | (simp_all [rightI, Inst.D, boolD, intD, strD]; rfl)
         | (simp only [rightI, Inst.D, boolD, intD, strD] at *; congr 3; grind)
         | (simp only [rightI, Inst.D, boolD, intD, strD] at *; grind))
    | (intros; simp_all [bytes1, maxLen]; done)
    | (intros; simp only [bytes1, maxLen] at *; omega)
    | grind
def kn_rightI (F : FsA) : FuncId × (List DV → RV) := (31, fun args => match args with
  | [.agg [.d (.sc (.int .i64 i_replica)), .d (.sc (.int .i64 i_slot))]] => some ([], boolD ((F.rightI ⟨i_replica, i_slot⟩)))
  | _ => none)
theorem ok_rightI (args : List DV) (cs : List Prop) (r : DV) (h : (kn_rightI FsA0).2 args = some (cs, r)) (hc : allP cs True) : FnV Try.prog 31 args r ∧ closedL 0 args = true := by
  unfold kn_rightI at h
  simp only at h
  split at h
  · cases h; exact ⟨v_rightI ⟨_, _⟩, rfl⟩
  · cases h
set_option maxRecDepth 100000 in
theorem v_less (a : Inst) (b : Inst) : FnV Try.prog 17 [Inst.D a, Inst.D b] (boolD ((lessI a b))) := by
  obtain ⟨a_replica, a_slot⟩ := a
  obtain ⟨b_replica, b_slot⟩ := b
  refine FnD_cbv (T := fun _ => tabY [] []) (H := fun _ => []) (tabY_ok _ _) noK_ok follows_mixed Try.func17 rfl Try.ntmps17 (by simp) fun A X W hA hX hW => ?_
  cbv
  repeat' first
    | (refine part (fun h => ?_) (fun h => ?_) <;> try cbv)
    | (refine And.intro ?_ ?_)
  all_goals subst hA hX hW
  all_goals try (show Region.lexB _ _ = true; kernel_rfl)
  all_goals try (show turnsB _ = true; kernel_rfl)
  all_goals simp only [A0, FsA0, decide_eq_true_eq, decide_eq_false_iff_not, Bool.not_eq_true', Bool.not_eq_false'] at *
  all_goals first
    | (refine ret_v ?_ rfl
       first
         | rfl
         | (simp_all [lessI, Inst.D, boolD, intD, strD]; done)
         | (simp_all [lessI, Inst.D, boolD, intD, strD]; rfl)
         | (simp only [lessI, Inst.D, boolD, intD, strD] at *; congr 3; grind)
         | (simp only [lessI, Inst.D, boolD, intD, strD] at *; grind))
    | (intros; simp_all [bytes1, maxLen]; done)
    | (intros; simp only [bytes1, maxLen] at *; omega)
    | grind
def kn_less (F : FsA) : FuncId × (List DV → RV) := (17, fun args => match args with
  | [.agg [.d (.sc (.int .i64 a_replica)), .d (.sc (.int .i64 a_slot))], .agg [.d (.sc (.int .i64 b_replica)), .d (.sc (.int .i64 b_slot))]] => some ([], boolD ((F.less ⟨a_replica, a_slot⟩ ⟨b_replica, b_slot⟩)))
  | _ => none)
theorem ok_less (args : List DV) (cs : List Prop) (r : DV) (h : (kn_less FsA0).2 args = some (cs, r)) (hc : allP cs True) : FnV Try.prog 17 args r ∧ closedL 0 args = true := by
  unfold kn_less at h
  simp only at h
  split at h
  · cases h; exact ⟨v_less ⟨_, _⟩ ⟨_, _⟩, rfl⟩
  · cases h
set_option maxRecDepth 100000 in
theorem v_rightD (d : Deps) : FnV Try.prog 32 [Deps.D d] (boolD ((rightDs d))) := by
  obtain ⟨d_d0, d_d1, d_d2, d_d3, d_d4, d_d5, d_d6⟩ := d
  refine FnD_cbv (T := fun _ => tabY [5003] []) (H := fun _ => []) (tabY_ok _ _) noK_ok follows_mixed Try.func32 rfl Try.ntmps32 (by simp) fun A X W hA hX hW => ?_
  cbv
  have l0 : A.cmp .lss 0 7 = true := by subst hA; rfl
  cbv at l0
  have l1 : A.cmp .lss 1 7 = true := by subst hA; rfl
  cbv at l1
  have l2 : A.cmp .lss 2 7 = true := by subst hA; rfl
  cbv at l2
  have l3 : A.cmp .lss 3 7 = true := by subst hA; rfl
  cbv at l3
  have l4 : A.cmp .lss 4 7 = true := by subst hA; rfl
  cbv at l4
  have l5 : A.cmp .lss 5 7 = true := by subst hA; rfl
  cbv at l5
  have l6 : A.cmp .lss 6 7 = true := by subst hA; rfl
  cbv at l6
  have l7 : A.cmp .lss 7 7 = false := by subst hA; rfl
  cbv at l7
  have b0 : A.bin .add .i64 0 1 = 1 := by subst hA; rfl
  cbv at b0
  have b1 : A.bin .add .i64 1 1 = 2 := by subst hA; rfl
  cbv at b1
  have b2 : A.bin .add .i64 2 1 = 3 := by subst hA; rfl
  cbv at b2
  have b3 : A.bin .add .i64 3 1 = 4 := by subst hA; rfl
  cbv at b3
  have b4 : A.bin .add .i64 4 1 = 5 := by subst hA; rfl
  cbv at b4
  have b5 : A.bin .add .i64 5 1 = 6 := by subst hA; rfl
  cbv at b5
  have b6 : A.bin .add .i64 6 1 = 7 := by subst hA; rfl
  cbv at b6
  refine unrollL (T := fun _ => tabY [5003] []) (H := fun _ => []) (tabY_ok _ _) noK_ok follows_mixed hA hX 8 fun R hR => ?_
  repeat' first
    | (simp only [l0, l1, l2, l3, l4, l5, l6, l7, b0, b1, b2, b3, b4, b5, b6, decide_true]; cbv)
    | (refine part (fun h => ?_) (fun h => ?_) <;> try cbv)
    | (refine And.intro ?_ ?_)
    | (refine hR _ _ _ ?_; cbv)
  all_goals clear l0 l1 l2 l3 l4 l5 l6 l7 b0 b1 b2 b3 b4 b5 b6
  all_goals try clear hR
  all_goals subst hA hX hW
  all_goals simp only [A0, nc, FsA0, decide_eq_true_eq, decide_eq_false_iff_not, Bool.not_eq_true', Bool.not_eq_false'] at *
  all_goals first
    | (show Region.lexB _ _ = true; kernel_rfl)
    | (show turnsB _ = true; kernel_rfl)
    | (intros; first | assumption | trivial | omega | (simp_all; done))
    | (refine ret_v ?_ rfl; first | rfl | (simp_all [boolD, rightDs, okK]; done) | (simp_all [boolD, rightDs, okK]; omega) | (simp_all [boolD, rightDs, okK]; grind))
def kn_rightD (F : FsA) : FuncId × (List DV → RV) := (32, fun args => match args with
  | [.agg [.d (.sc (.int .i64 d_d0)), .d (.sc (.int .i64 d_d1)), .d (.sc (.int .i64 d_d2)), .d (.sc (.int .i64 d_d3)), .d (.sc (.int .i64 d_d4)), .d (.sc (.int .i64 d_d5)), .d (.sc (.int .i64 d_d6))]] => some ([], boolD ((F.rightD ⟨d_d0, d_d1, d_d2, d_d3, d_d4, d_d5, d_d6⟩)))
  | _ => none)
theorem ok_rightD (args : List DV) (cs : List Prop) (r : DV) (h : (kn_rightD FsA0).2 args = some (cs, r)) (hc : allP cs True) : FnV Try.prog 32 args r ∧ closedL 0 args = true := by
  unfold kn_rightD at h
  simp only at h
  split at h
  · cases h; exact ⟨v_rightD ⟨_, _, _, _, _, _, _⟩, rfl⟩
  · cases h
set_option maxRecDepth 100000 in
theorem v_rightAR (a : Attr) : FnV Try.prog 22 [Attr.D a] (boolD ((rightA a))) := by
  obtain ⟨a_seq, a_d0, a_d1, a_d2, a_d3, a_d4, a_d5, a_d6⟩ := a
  obtain ⟨F, hF⟩ : ∃ F, F = FsA0 := ⟨_, rfl⟩
  have hH : SoundK Try.prog [kn_rightD F] := by subst hF; exact orK_ok ok_rightD noK_ok
  refine FnD_cbv (T := fun _ => tabY [] []) (H := fun _ => [kn_rightD F]) (tabY_ok _ _) hH follows_mixed Try.func22 rfl Try.ntmps22 (by simp) fun A X W hA hX hW => ?_
  clear hH
  cbv
  repeat' first
    | (refine part (fun h => ?_) (fun h => ?_) <;> try cbv)
    | (refine And.intro ?_ ?_)
  all_goals subst hA hX hW hF
  all_goals try (show Region.lexB _ _ = true; kernel_rfl)
  all_goals try (show turnsB _ = true; kernel_rfl)
  all_goals simp only [A0, FsA0, decide_eq_true_eq, decide_eq_false_iff_not, Bool.not_eq_true', Bool.not_eq_false'] at *
  all_goals first
    | (refine ret_v ?_ rfl
       first
         | rfl
         | (simp_all [rightA, Attr.deps, FsA0, Attr.D, boolD, intD, strD]; done)
         | (simp_all [rightA, Attr.deps, FsA0, Attr.D, boolD, intD, strD]; rfl)
         | (simp only [rightA, Attr.deps, FsA0, Attr.D, boolD, intD, strD] at *; congr 3; grind)
         | (simp only [rightA, Attr.deps, FsA0, Attr.D, boolD, intD, strD] at *; grind))
    | (intros; simp_all [bytes1, maxLen]; done)
    | (intros; simp only [bytes1, maxLen] at *; omega)
    | grind
def kn_rightAR (F : FsA) : FuncId × (List DV → RV) := (22, fun args => match args with
  | [.agg [.d (.sc (.int .i64 a_seq)), .d (.sc (.int .i64 a_d0)), .d (.sc (.int .i64 a_d1)), .d (.sc (.int .i64 a_d2)), .d (.sc (.int .i64 a_d3)), .d (.sc (.int .i64 a_d4)), .d (.sc (.int .i64 a_d5)), .d (.sc (.int .i64 a_d6))]] => some ([], boolD ((F.rightAR ⟨a_seq, a_d0, a_d1, a_d2, a_d3, a_d4, a_d5, a_d6⟩)))
  | _ => none)
theorem ok_rightAR (args : List DV) (cs : List Prop) (r : DV) (h : (kn_rightAR FsA0).2 args = some (cs, r)) (hc : allP cs True) : FnV Try.prog 22 args r ∧ closedL 0 args = true := by
  unfold kn_rightAR at h
  simp only at h
  split at h
  · cases h; exact ⟨v_rightAR ⟨_, _, _, _, _, _, _, _⟩, rfl⟩
  · cases h
set_option maxRecDepth 100000 in
theorem v_rightA (a : Attr) : FnV Try.prog 21 [Attr.D a] (boolD ((rightA a))) := by
  obtain ⟨a_seq, a_d0, a_d1, a_d2, a_d3, a_d4, a_d5, a_d6⟩ := a
  refine FnD_cbv (T := fun _ => tabY [5003] []) (H := fun _ => []) (tabY_ok _ _) noK_ok follows_mixed Try.func21 rfl Try.ntmps21 (by simp) fun A X W hA hX hW => ?_
  cbv
  have l0 : A.cmp .lss 0 7 = true := by subst hA; rfl
  cbv at l0
  have l1 : A.cmp .lss 1 7 = true := by subst hA; rfl
  cbv at l1
  have l2 : A.cmp .lss 2 7 = true := by subst hA; rfl
  cbv at l2
  have l3 : A.cmp .lss 3 7 = true := by subst hA; rfl
  cbv at l3
  have l4 : A.cmp .lss 4 7 = true := by subst hA; rfl
  cbv at l4
  have l5 : A.cmp .lss 5 7 = true := by subst hA; rfl
  cbv at l5
  have l6 : A.cmp .lss 6 7 = true := by subst hA; rfl
  cbv at l6
  have l7 : A.cmp .lss 7 7 = false := by subst hA; rfl
  cbv at l7
  have b0 : A.bin .add .i64 0 1 = 1 := by subst hA; rfl
  cbv at b0
  have b1 : A.bin .add .i64 1 1 = 2 := by subst hA; rfl
  cbv at b1
  have b2 : A.bin .add .i64 2 1 = 3 := by subst hA; rfl
  cbv at b2
  have b3 : A.bin .add .i64 3 1 = 4 := by subst hA; rfl
  cbv at b3
  have b4 : A.bin .add .i64 4 1 = 5 := by subst hA; rfl
  cbv at b4
  have b5 : A.bin .add .i64 5 1 = 6 := by subst hA; rfl
  cbv at b5
  have b6 : A.bin .add .i64 6 1 = 7 := by subst hA; rfl
  cbv at b6
  refine unrollL (T := fun _ => tabY [5003] []) (H := fun _ => []) (tabY_ok _ _) noK_ok follows_mixed hA hX 8 fun R hR => ?_
  repeat' first
    | (simp only [l0, l1, l2, l3, l4, l5, l6, l7, b0, b1, b2, b3, b4, b5, b6, decide_true]; cbv)
    | (refine part (fun h => ?_) (fun h => ?_) <;> try cbv)
    | (refine And.intro ?_ ?_)
    | (refine hR _ _ _ ?_; cbv)
  all_goals clear l0 l1 l2 l3 l4 l5 l6 l7 b0 b1 b2 b3 b4 b5 b6
  all_goals try clear hR
  all_goals subst hA hX hW
  all_goals simp only [A0, nc, FsA0, decide_eq_true_eq, decide_eq_false_iff_not, Bool.not_eq_true', Bool.not_eq_false'] at *
  all_goals first
    | (show Region.lexB _ _ = true; kernel_rfl)
    | (show turnsB _ = true; kernel_rfl)
    | (intros; first | assumption | trivial | omega | (simp_all; done))
    | (refine ret_v ?_ rfl; first | rfl | (simp_all [boolD, rightA, rightDs, okK, Attr.deps]; done) | (simp_all [boolD, rightA, rightDs, okK, Attr.deps]; omega) | (simp_all [boolD, rightA, rightDs, okK, Attr.deps]; grind))
def kn_rightA (F : FsA) : FuncId × (List DV → RV) := (21, fun args => match args with
  | [.agg [.d (.sc (.int .i64 a_seq)), .d (.sc (.int .i64 a_d0)), .d (.sc (.int .i64 a_d1)), .d (.sc (.int .i64 a_d2)), .d (.sc (.int .i64 a_d3)), .d (.sc (.int .i64 a_d4)), .d (.sc (.int .i64 a_d5)), .d (.sc (.int .i64 a_d6))]] => some ([], boolD ((F.rightA ⟨a_seq, a_d0, a_d1, a_d2, a_d3, a_d4, a_d5, a_d6⟩)))
  | _ => none)
theorem ok_rightA (args : List DV) (cs : List Prop) (r : DV) (h : (kn_rightA FsA0).2 args = some (cs, r)) (hc : allP cs True) : FnV Try.prog 21 args r ∧ closedL 0 args = true := by
  unfold kn_rightA at h
  simp only at h
  split at h
  · cases h; exact ⟨v_rightA ⟨_, _, _, _, _, _, _, _⟩, rfl⟩
  · cases h
set_option maxRecDepth 100000 in
theorem v_covers (a : Deps) (b : Deps) : FnV Try.prog 18 [Deps.D a, Deps.D b] (boolD ((coversD a b))) := by
  obtain ⟨a_d0, a_d1, a_d2, a_d3, a_d4, a_d5, a_d6⟩ := a
  obtain ⟨b_d0, b_d1, b_d2, b_d3, b_d4, b_d5, b_d6⟩ := b
  refine FnD_cbv (T := fun _ => tabY [5003] []) (H := fun _ => []) (tabY_ok _ _) noK_ok follows_mixed Try.func18 rfl Try.ntmps18 (by simp) fun A X W hA hX hW => ?_
  cbv
  have l0 : A.cmp .lss 0 7 = true := by subst hA; rfl
  cbv at l0
  have l1 : A.cmp .lss 1 7 = true := by subst hA; rfl
  cbv at l1
  have l2 : A.cmp .lss 2 7 = true := by subst hA; rfl
  cbv at l2
  have l3 : A.cmp .lss 3 7 = true := by subst hA; rfl
  cbv at l3
  have l4 : A.cmp .lss 4 7 = true := by subst hA; rfl
  cbv at l4
  have l5 : A.cmp .lss 5 7 = true := by subst hA; rfl
  cbv at l5
  have l6 : A.cmp .lss 6 7 = true := by subst hA; rfl
  cbv at l6
  have l7 : A.cmp .lss 7 7 = false := by subst hA; rfl
  cbv at l7
  have b0 : A.bin .add .i64 0 1 = 1 := by subst hA; rfl
  cbv at b0
  have b1 : A.bin .add .i64 1 1 = 2 := by subst hA; rfl
  cbv at b1
  have b2 : A.bin .add .i64 2 1 = 3 := by subst hA; rfl
  cbv at b2
  have b3 : A.bin .add .i64 3 1 = 4 := by subst hA; rfl
  cbv at b3
  have b4 : A.bin .add .i64 4 1 = 5 := by subst hA; rfl
  cbv at b4
  have b5 : A.bin .add .i64 5 1 = 6 := by subst hA; rfl
  cbv at b5
  have b6 : A.bin .add .i64 6 1 = 7 := by subst hA; rfl
  cbv at b6
  refine unrollL (T := fun _ => tabY [5003] []) (H := fun _ => []) (tabY_ok _ _) noK_ok follows_mixed hA hX 8 fun R hR => ?_
  repeat' first
    | (simp only [l0, l1, l2, l3, l4, l5, l6, l7, b0, b1, b2, b3, b4, b5, b6, decide_true]; cbv)
    | (refine part (fun h => ?_) (fun h => ?_) <;> try cbv)
    | (refine And.intro ?_ ?_)
    | (refine hR _ _ _ ?_; cbv)
  all_goals clear l0 l1 l2 l3 l4 l5 l6 l7 b0 b1 b2 b3 b4 b5 b6
  all_goals try clear hR
  all_goals subst hA hX hW
  all_goals simp only [A0, nc, FsA0, decide_eq_true_eq, decide_eq_false_iff_not, Bool.not_eq_true', Bool.not_eq_false'] at *
  all_goals first
    | (show Region.lexB _ _ = true; kernel_rfl)
    | (show turnsB _ = true; kernel_rfl)
    | (intros; first | assumption | trivial | omega | (simp_all; done))
    | (refine ret_v ?_ rfl; first | rfl | (simp_all [boolD, coversD]; done) | (simp_all [boolD, coversD]; omega) | (simp_all [boolD, coversD]; grind))
def kn_covers (F : FsA) : FuncId × (List DV → RV) := (18, fun args => match args with
  | [.agg [.d (.sc (.int .i64 a_d0)), .d (.sc (.int .i64 a_d1)), .d (.sc (.int .i64 a_d2)), .d (.sc (.int .i64 a_d3)), .d (.sc (.int .i64 a_d4)), .d (.sc (.int .i64 a_d5)), .d (.sc (.int .i64 a_d6))], .agg [.d (.sc (.int .i64 b_d0)), .d (.sc (.int .i64 b_d1)), .d (.sc (.int .i64 b_d2)), .d (.sc (.int .i64 b_d3)), .d (.sc (.int .i64 b_d4)), .d (.sc (.int .i64 b_d5)), .d (.sc (.int .i64 b_d6))]] => some ([], boolD ((F.covers ⟨a_d0, a_d1, a_d2, a_d3, a_d4, a_d5, a_d6⟩ ⟨b_d0, b_d1, b_d2, b_d3, b_d4, b_d5, b_d6⟩)))
  | _ => none)
theorem ok_covers (args : List DV) (cs : List Prop) (r : DV) (h : (kn_covers FsA0).2 args = some (cs, r)) (hc : allP cs True) : FnV Try.prog 18 args r ∧ closedL 0 args = true := by
  unfold kn_covers at h
  simp only at h
  split at h
  · cases h; exact ⟨v_covers ⟨_, _, _, _, _, _, _⟩ ⟨_, _, _, _, _, _, _⟩, rfl⟩
  · cases h
set_option maxRecDepth 100000 in
theorem v_join2 (a : Attr) (b : Attr) : FnV Try.prog 20 [Attr.D a, Attr.D b] (Attr.D ((joinA a b))) := by
  obtain ⟨a_seq, a_d0, a_d1, a_d2, a_d3, a_d4, a_d5, a_d6⟩ := a
  obtain ⟨b_seq, b_d0, b_d1, b_d2, b_d3, b_d4, b_d5, b_d6⟩ := b
  refine FnD_cbv (T := fun _ => tabY [5003] [5]) (H := fun _ => []) (tabY_ok _ _) noK_ok follows_mixed Try.func20 rfl Try.ntmps20 (by simp) fun A X W hA hX hW => ?_
  cbv
  have l0 : A.cmp .lss 0 7 = true := by subst hA; rfl
  cbv at l0
  have l1 : A.cmp .lss 1 7 = true := by subst hA; rfl
  cbv at l1
  have l2 : A.cmp .lss 2 7 = true := by subst hA; rfl
  cbv at l2
  have l3 : A.cmp .lss 3 7 = true := by subst hA; rfl
  cbv at l3
  have l4 : A.cmp .lss 4 7 = true := by subst hA; rfl
  cbv at l4
  have l5 : A.cmp .lss 5 7 = true := by subst hA; rfl
  cbv at l5
  have l6 : A.cmp .lss 6 7 = true := by subst hA; rfl
  cbv at l6
  have l7 : A.cmp .lss 7 7 = false := by subst hA; rfl
  cbv at l7
  have b0 : A.bin .add .i64 0 1 = 1 := by subst hA; rfl
  cbv at b0
  have b1 : A.bin .add .i64 1 1 = 2 := by subst hA; rfl
  cbv at b1
  have b2 : A.bin .add .i64 2 1 = 3 := by subst hA; rfl
  cbv at b2
  have b3 : A.bin .add .i64 3 1 = 4 := by subst hA; rfl
  cbv at b3
  have b4 : A.bin .add .i64 4 1 = 5 := by subst hA; rfl
  cbv at b4
  have b5 : A.bin .add .i64 5 1 = 6 := by subst hA; rfl
  cbv at b5
  have b6 : A.bin .add .i64 6 1 = 7 := by subst hA; rfl
  cbv at b6
  refine unrollL (T := fun _ => tabY [5003] [5]) (H := fun _ => []) (tabY_ok _ _) noK_ok follows_mixed hA hX 8 fun R hR => ?_
  repeat' first
    | (simp only [l0, l1, l2, l3, l4, l5, l6, l7, b0, b1, b2, b3, b4, b5, b6, decide_true]; cbv)
    | (refine part (fun h => ?_) (fun h => ?_) <;> try cbv)
    | (refine And.intro ?_ ?_)
    | (refine hR _ _ _ ?_; cbv)
    | ((with_reducible refine regionZ (T := fun _ => tabY [5003] []) (H := fun _ => []) (A := A) (tabY_ok _ _) noK_ok follows_mixed hA hX (by kernel_rfl) ?_) <;> cbv)
  all_goals clear l0 l1 l2 l3 l4 l5 l6 l7 b0 b1 b2 b3 b4 b5 b6
  all_goals try clear hR
  all_goals subst hA hX hW
  all_goals simp only [A0, nc, FsA0, decide_eq_true_eq, decide_eq_false_iff_not, Bool.not_eq_true', Bool.not_eq_false'] at *
  all_goals first
    | (show Region.lexB _ _ = true; kernel_rfl)
    | (show turnsB _ = true; kernel_rfl)
    | (intros; first | assumption | trivial | omega | (simp_all; done))
    | (refine ret_v ?_ rfl; first | rfl | (simp_all [boolD, joinA, Attr.D]; done) | (simp_all [boolD, joinA, Attr.D]; omega) | (simp_all [boolD, joinA, Attr.D]; grind))
def kn_join2 (F : FsA) : FuncId × (List DV → RV) := (20, fun args => match args with
  | [.agg [.d (.sc (.int .i64 a_seq)), .d (.sc (.int .i64 a_d0)), .d (.sc (.int .i64 a_d1)), .d (.sc (.int .i64 a_d2)), .d (.sc (.int .i64 a_d3)), .d (.sc (.int .i64 a_d4)), .d (.sc (.int .i64 a_d5)), .d (.sc (.int .i64 a_d6))], .agg [.d (.sc (.int .i64 b_seq)), .d (.sc (.int .i64 b_d0)), .d (.sc (.int .i64 b_d1)), .d (.sc (.int .i64 b_d2)), .d (.sc (.int .i64 b_d3)), .d (.sc (.int .i64 b_d4)), .d (.sc (.int .i64 b_d5)), .d (.sc (.int .i64 b_d6))]] => some ([], Attr.D ((F.join2 ⟨a_seq, a_d0, a_d1, a_d2, a_d3, a_d4, a_d5, a_d6⟩ ⟨b_seq, b_d0, b_d1, b_d2, b_d3, b_d4, b_d5, b_d6⟩)))
  | _ => none)
theorem ok_join2 (args : List DV) (cs : List Prop) (r : DV) (h : (kn_join2 FsA0).2 args = some (cs, r)) (hc : allP cs True) : FnV Try.prog 20 args r ∧ closedL 0 args = true := by
  unfold kn_join2 at h
  simp only at h
  split at h
  · cases h; exact ⟨v_join2 ⟨_, _, _, _, _, _, _, _⟩ ⟨_, _, _, _, _, _, _, _⟩, rfl⟩
  · cases h
theorem rightI_rep {i : Inst} (h : rightI i = true) : i.replica = 0 ∨ i.replica = 1 ∨ i.replica = 2 ∨ i.replica = 3 ∨ i.replica = 4 ∨ i.replica = 5 ∨ i.replica = 6 := by
  simp only [rightI, Bool.and_eq_true, decide_eq_true_eq] at h
  omega

set_option maxRecDepth 100000 in
theorem v_reach (d : Deps) (i : Inst) : FnV Try.prog 14 [Deps.D d, Inst.D i] (boolD ((reachD d i))) := by
  obtain ⟨d_d0, d_d1, d_d2, d_d3, d_d4, d_d5, d_d6⟩ := d
  obtain ⟨i_replica, i_slot⟩ := i
  obtain ⟨F, hF⟩ : ∃ F, F = FsA0 := ⟨_, rfl⟩
  have hH : SoundK Try.prog [kn_rightI F] := by subst hF; exact orK_ok ok_rightI noK_ok
  refine FnD_cbv (T := fun _ => tabY [10] []) (H := fun _ => [kn_rightI F]) (tabY_ok _ _) hH follows_mixed Try.func14 rfl Try.ntmps14 (by simp) fun A X W hA hX hW => ?_
  clear hH
  cbv
  repeat' first
    | (refine part (fun h => ?_) (fun h => ?_) <;> try cbv)
    | (refine And.intro ?_ ?_)
  all_goals subst hA hX hW hF
  all_goals try (show Region.lexB _ _ = true; kernel_rfl)
  all_goals try (show turnsB _ = true; kernel_rfl)
  all_goals simp only [A0, FsA0, decide_eq_true_eq, decide_eq_false_iff_not, Bool.not_eq_true', Bool.not_eq_false'] at *
  all_goals try simp only [nc, FsA0] at *
  all_goals by_cases hr : rightI ⟨i_replica, i_slot⟩ = true
  all_goals first
    | (intros; first | assumption | trivial | omega | (simp_all; done))
    | (intros; have hk := rightI_rep hr; simp only at hk; rcases hk with rfl | rfl | rfl | rfl | rfl | rfl | rfl <;> first | (simp; done) | (refine ⟨by omega, by omega⟩))
    | (refine ret_v ?_ rfl
       have hk := rightI_rep hr
       simp only at hk
       unfold reachD
       simp only [hr]
       rcases hk with rfl | rfl | rfl | rfl | rfl | rfl | rfl <;> rfl)
    | (refine ret_v ?_ rfl
       unfold reachD
       simp only [hr]
       rfl)
    | (refine ret_v ?_ rfl
       unfold reachD
       simp [hr, boolD])

def kn_reach (F : FsA) : FuncId × (List DV → RV) := (14, fun args => match args with
  | [.agg [.d (.sc (.int .i64 d_d0)), .d (.sc (.int .i64 d_d1)), .d (.sc (.int .i64 d_d2)), .d (.sc (.int .i64 d_d3)), .d (.sc (.int .i64 d_d4)), .d (.sc (.int .i64 d_d5)), .d (.sc (.int .i64 d_d6))], .agg [.d (.sc (.int .i64 i_replica)), .d (.sc (.int .i64 i_slot))]] => some ([], boolD ((F.reach ⟨d_d0, d_d1, d_d2, d_d3, d_d4, d_d5, d_d6⟩ ⟨i_replica, i_slot⟩)))
  | _ => none)
theorem ok_reach (args : List DV) (cs : List Prop) (r : DV) (h : (kn_reach FsA0).2 args = some (cs, r)) (hc : allP cs True) : FnV Try.prog 14 args r ∧ closedL 0 args = true := by
  unfold kn_reach at h
  simp only at h
  split at h
  · cases h; exact ⟨v_reach ⟨_, _, _, _, _, _, _⟩ ⟨_, _⟩, rfl⟩
  · cases h
end Go.Proofs.Ytikodmddomaneaa
