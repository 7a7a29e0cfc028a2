/- Commands and spans: what the functions give. No condition. -/
import Derived.Test.YtbhapclaochcnaaAm30
import Derived.Test.YtbhapclaochcnaaTy
namespace Go.Proofs.Ytbhapclaochcnaa
open Go.RowKit
set_option linter.all false

structure Cmd where
  kind : Int
  client : Int
  seq : Int
  key : ByteArray
  fin : ByteArray
  old : ByteArray
  val : ByteArray
  deriving DecidableEq
def Cmd.D (x : Cmd) : DV := .agg [intD x.kind, intD x.client, intD x.seq, strD x.key, strD x.fin, strD x.old, strD x.val]
structure Span where
  lo : ByteArray
  hi : ByteArray
  deriving DecidableEq
def Span.D (x : Span) : DV := .agg [strD x.lo, strD x.hi]

abbrev none8 : ByteArray := { data := #[] }
def within (n m : Int) : Bool := decide (1 ≤ n) && decide (n ≤ m)
def under (k h : ByteArray) : Bool := decide (h = none8) || ltb k h
def emptyS (s : Span) : Bool := !under s.lo s.hi
theorem bytes1 : ({ data := { toList := [0] } } : ByteArray).size = 1 := rfl
def bare (c : Cmd) : Cmd := { kind := c.kind, client := c.client, seq := c.seq, key := c.key, fin := if c.kind = 5 then c.fin else none8, old := if c.kind = 4 then c.old else none8, val := if c.kind = 2 ∨ c.kind = 4 then c.val else none8 }
def emptyR (s : Span) : Bool := !decide (s.hi = none8) && (ltb s.hi s.lo || decide (s.hi = s.lo))
def meets (a b : Span) : Bool := !emptyS a && !emptyS b && under a.lo b.hi && under b.lo a.hi
def meetsR (a b : Span) : Bool := !emptyR a && !emptyR b && (decide (a.hi = none8) || ltb b.lo a.hi) && (decide (b.hi = none8) || ltb a.lo b.hi)
def spanOf (k : ByteArray) : Span := ⟨k, k ++ { data := #[0] }⟩
def Cmd.zero : Cmd := ⟨0, 0, 0, none8, none8, none8, none8⟩
def rightC (c : Cmd) : Bool := decide (c = .zero) || (within c.kind 5 && within c.client 8 && within c.seq 1099511627776 && decide (c = bare c) && decide (c.key.size ≤ 16) && decide (c.fin.size ≤ 16) && decide (c.old.size ≤ 64) && decide (c.val.size ≤ 64) && (!decide (c.key = none8) || decide (c.kind = 5)))
def rightCR (c : Cmd) : Bool := decide (c = .zero) || (decide (1 ≤ c.kind) && decide (c.kind ≤ 5) && decide (1 ≤ c.client) && decide (c.client ≤ 8) && decide (1 ≤ c.seq) && decide (c.seq ≤ 1099511627776) && decide (c.key.size ≤ 16) && decide (c.fin.size ≤ 16) && decide (c.old.size ≤ 64) && decide (c.val.size ≤ 64) && decide (c = bare c) && (decide (c.kind = 5) || !decide (c.key = none8)))
def keysC (c : Cmd) : Span × Bool := if c.kind = 1 ∨ c.kind = 2 ∨ c.kind = 3 ∨ c.kind = 4 then (spanOf c.key, true) else if c.kind = 5 then (⟨c.key, c.fin⟩, true) else (⟨none8, none8⟩, false)
def writesC (c : Cmd) : Bool := decide (c.kind = 2) || decide (c.kind = 3) || decide (c.kind = 4)
def clashC (a b : Cmd) : Bool := (keysC a).2 && (keysC b).2 && (decide (a.client = b.client) || (writesC a || writesC b) && meets (keysC a).1 (keysC b).1)
def clashR (a b : Cmd) : Bool := (keysC a).2 && (keysC b).2 && (decide (a.client = b.client) || (writesC a || writesC b) && meetsR (keysC a).1 (keysC b).1)

structure Fs5 where
  within : Int → Int → Bool
  under : ByteArray → ByteArray → Bool
  empty : Span → Bool
  emptyR : Span → Bool
  bare : Cmd → Cmd
  meets : Span → Span → Bool
  meetsR : Span → Span → Bool
  spanOf : ByteArray → Span
  right : Cmd → Bool
  rightR : Cmd → Bool
  keys : Cmd → Span × Bool
  writes : Cmd → Bool
  keysR : Cmd → Span × Bool
  writesR : Cmd → Bool
  clash : Cmd → Cmd → Bool
  clashR : Cmd → Cmd → Bool
  sz : ByteArray → Prop
def Fs50 : Fs5 where
  within := within
  under := under
  empty := emptyS
  emptyR := emptyR
  bare := bare
  meets := meets
  meetsR := meetsR
  spanOf := spanOf
  right := rightC
  rightR := rightCR
  keys := keysC
  writes := writesC
  keysR := keysC
  writesR := writesC
  clash := clashC
  clashR := clashR
  sz := fun b => b.size ≤ 4194304
set_option maxRecDepth 100000 in
theorem v_within (n : Int) (m : Int) : FnV Try.prog 78 [intD n, intD m] (boolD ((within n m))) := by
  refine FnD_cbv (T := fun _ => tabY [] []) (H := fun _ => []) (tabY_ok _ _) noK_ok follows_mixed Try.func78 rfl Try.ntmps78 (by simp) fun A X W hA hX hW => ?_
  cbv
  repeat' first
    | (refine part (fun h => ?_) (fun h => ?_) <;> try cbv)
    | (refine And.intro ?_ ?_)
  all_goals subst hA hX hW
  all_goals try (show Region.lexB _ _ = true; kernel_rfl)
  all_goals try (show turnsB _ = true; kernel_rfl)
  all_goals simp only [A0, Fs50, decide_eq_true_eq, decide_eq_false_iff_not, Bool.not_eq_true', Bool.not_eq_false'] at *
  all_goals first
    | (refine ret_v ?_ rfl
       first
         | rfl
         | (simp_all [within, boolD, intD, strD]; done)
         | (simp_all [within, boolD, intD, strD]; rfl)
         | (simp only [within, boolD, intD, strD] at *; congr 3; grind)
         | (simp only [within, boolD, intD, strD] at *; grind))
    | (intros; simp_all [bytes1, maxLen]; done)
    | (intros; simp only [bytes1, maxLen] at *; omega)
    | grind
def kn_within (F : Fs5) : FuncId × (List DV → RV) := (78, fun args => match args with
  | [.d (.sc (.int .i64 n)), .d (.sc (.int .i64 m))] => some ([], boolD ((F.within n m)))
  | _ => none)
theorem ok_within (args : List DV) (cs : List Prop) (r : DV) (h : (kn_within Fs50).2 args = some (cs, r)) (hc : allP cs True) : FnV Try.prog 78 args r ∧ closedL 0 args = true := by
  unfold kn_within at h
  simp only at h
  split at h
  · cases h; exact ⟨v_within _ _, rfl⟩
  · cases h
set_option maxRecDepth 100000 in
theorem v_bare (c : Cmd) : FnV Try.prog 79 [Cmd.D c] (Cmd.D ((bare c))) := by
  obtain ⟨c_kind, c_client, c_seq, c_key, c_fin, c_old, c_val⟩ := c
  refine FnD_cbv (T := fun _ => tabY [] []) (H := fun _ => []) (tabY_ok _ _) noK_ok follows_mixed Try.func79 rfl Try.ntmps79 (by simp) fun A X W hA hX hW => ?_
  cbv
  repeat' first
    | (refine part (fun h => ?_) (fun h => ?_) <;> try cbv)
    | (refine And.intro ?_ ?_)
  all_goals subst hA hX hW
  all_goals try (show Region.lexB _ _ = true; kernel_rfl)
  all_goals try (show turnsB _ = true; kernel_rfl)
  all_goals simp only [A0, Fs50, decide_eq_true_eq, decide_eq_false_iff_not, Bool.not_eq_true', Bool.not_eq_false'] at *
  all_goals first
    | (refine ret_v ?_ rfl
       first
         | rfl
         | (simp_all [bare, Cmd.D, boolD, intD, strD]; done)
         | (simp_all [bare, Cmd.D, boolD, intD, strD]; rfl)
         | (simp only [bare, Cmd.D, boolD, intD, strD] at *; congr 3; grind)
         | (simp only [bare, Cmd.D, boolD, intD, strD] at *; grind))
    | (intros; simp_all [bytes1, maxLen]; done)
    | (intros; simp only [bytes1, maxLen] at *; omega)
    | grind
def kn_bare (F : Fs5) : FuncId × (List DV → RV) := (79, fun args => match args with
  | [.agg [.d (.sc (.int .i64 c_kind)), .d (.sc (.int .i64 c_client)), .d (.sc (.int .i64 c_seq)), .d (.sc (.string c_key)), .d (.sc (.string c_fin)), .d (.sc (.string c_old)), .d (.sc (.string c_val))]] => some ([], Cmd.D ((F.bare ⟨c_kind, c_client, c_seq, c_key, c_fin, c_old, c_val⟩)))
  | _ => none)
theorem ok_bare (args : List DV) (cs : List Prop) (r : DV) (h : (kn_bare Fs50).2 args = some (cs, r)) (hc : allP cs True) : FnV Try.prog 79 args r ∧ closedL 0 args = true := by
  unfold kn_bare at h
  simp only at h
  split at h
  · cases h; exact ⟨v_bare ⟨_, _, _, _, _, _, _⟩, rfl⟩
  · cases h
set_option maxRecDepth 100000 in
theorem v_right (c : Cmd) : FnV Try.prog 49 [Cmd.D c] (boolD ((rightC c))) := by
  obtain ⟨c_kind, c_client, c_seq, c_key, c_fin, c_old, c_val⟩ := c
  obtain ⟨F, hF⟩ : ∃ F, F = Fs50 := ⟨_, rfl⟩
  have hH : SoundK Try.prog [kn_within F, kn_bare F] := by subst hF; exact orK_ok ok_within (orK_ok ok_bare noK_ok)
  refine FnD_cbv (T := fun _ => tabY [] []) (H := fun _ => [kn_within F, kn_bare F]) (tabY_ok _ _) hH follows_mixed Try.func49 rfl Try.ntmps49 (by simp) fun A X W hA hX hW => ?_
  clear hH
  cbv
  repeat' first
    | (refine part (fun h => ?_) (fun h => ?_) <;> try cbv)
    | (refine And.intro ?_ ?_)
  all_goals subst hA hX hW hF
  all_goals try (show Region.lexB _ _ = true; kernel_rfl)
  all_goals try (show turnsB _ = true; kernel_rfl)
  all_goals simp only [A0, Fs50, decide_eq_true_eq, decide_eq_false_iff_not, Bool.not_eq_true', Bool.not_eq_false'] at *
  all_goals first
    | (refine ret_v ?_ rfl
       simp only [rightC, Cmd.zero, bare, within, Cmd.mk.injEq, boolD, Bool.cond_true_left, Bool.cond_false_left, Bool.cond_true_right, Bool.cond_false_right, Bool.or_eq_false_iff, Bool.and_eq_false_imp, Bool.or_eq_true, Bool.and_eq_true, decide_eq_true_eq, decide_eq_false_iff_not, decide_true, Bool.true_and, Bool.and_true] at *
       congr 3
       rw [Bool.eq_iff_iff]
       simp only [Bool.or_eq_true, Bool.and_eq_true, decide_eq_true_eq, Bool.not_eq_true', decide_eq_false_iff_not, Bool.false_eq_true, Bool.true_eq_false] at *
       grind)
    | (intro hq; exact hq)
    | (intro hq; simpa using hq)
    | grind
def kn_right (F : Fs5) : FuncId × (List DV → RV) := (49, fun args => match args with
  | [.agg [.d (.sc (.int .i64 c_kind)), .d (.sc (.int .i64 c_client)), .d (.sc (.int .i64 c_seq)), .d (.sc (.string c_key)), .d (.sc (.string c_fin)), .d (.sc (.string c_old)), .d (.sc (.string c_val))]] => some ([], boolD ((F.right ⟨c_kind, c_client, c_seq, c_key, c_fin, c_old, c_val⟩)))
  | _ => none)
theorem ok_right (args : List DV) (cs : List Prop) (r : DV) (h : (kn_right Fs50).2 args = some (cs, r)) (hc : allP cs True) : FnV Try.prog 49 args r ∧ closedL 0 args = true := by
  unfold kn_right at h
  simp only at h
  split at h
  · cases h; exact ⟨v_right ⟨_, _, _, _, _, _, _⟩, rfl⟩
  · cases h
set_option maxRecDepth 100000 in
theorem v_rightR (c : Cmd) : FnV Try.prog 39 [Cmd.D c] (boolD ((rightCR c))) := by
  obtain ⟨c_kind, c_client, c_seq, c_key, c_fin, c_old, c_val⟩ := c
  refine FnD_cbv (T := fun _ => tabY [] []) (H := fun _ => []) (tabY_ok _ _) noK_ok follows_mixed Try.func39 rfl Try.ntmps39 (by simp) fun A X W hA hX hW => ?_
  cbv
  repeat' first
    | (refine part (fun h => ?_) (fun h => ?_) <;> try cbv)
    | (refine And.intro ?_ ?_)
  all_goals subst hA hX hW
  all_goals try (show Region.lexB _ _ = true; kernel_rfl)
  all_goals try (show turnsB _ = true; kernel_rfl)
  all_goals simp only [A0, Fs50, decide_eq_true_eq, decide_eq_false_iff_not, Bool.not_eq_true', Bool.not_eq_false'] at *
  all_goals first
    | (refine ret_v ?_ rfl
       simp only [rightCR, Cmd.zero, bare, within, Cmd.mk.injEq, boolD, Bool.cond_true_left, Bool.cond_false_left, Bool.cond_true_right, Bool.cond_false_right, Bool.or_eq_false_iff, Bool.and_eq_false_imp, Bool.or_eq_true, Bool.and_eq_true, decide_eq_true_eq, decide_eq_false_iff_not, decide_true, Bool.true_and, Bool.and_true] at *
       congr 3
       rw [Bool.eq_iff_iff]
       simp only [Bool.or_eq_true, Bool.and_eq_true, decide_eq_true_eq, Bool.not_eq_true', decide_eq_false_iff_not, Bool.false_eq_true, Bool.true_eq_false] at *
       grind)
    | (intro hq; exact hq)
    | (intro hq; simpa using hq)
    | grind
def kn_rightR (F : Fs5) : FuncId × (List DV → RV) := (39, fun args => match args with
  | [.agg [.d (.sc (.int .i64 c_kind)), .d (.sc (.int .i64 c_client)), .d (.sc (.int .i64 c_seq)), .d (.sc (.string c_key)), .d (.sc (.string c_fin)), .d (.sc (.string c_old)), .d (.sc (.string c_val))]] => some ([], boolD ((F.rightR ⟨c_kind, c_client, c_seq, c_key, c_fin, c_old, c_val⟩)))
  | _ => none)
theorem ok_rightR (args : List DV) (cs : List Prop) (r : DV) (h : (kn_rightR Fs50).2 args = some (cs, r)) (hc : allP cs True) : FnV Try.prog 39 args r ∧ closedL 0 args = true := by
  unfold kn_rightR at h
  simp only at h
  split at h
  · cases h; exact ⟨v_rightR ⟨_, _, _, _, _, _, _⟩, rfl⟩
  · cases h
end Go.Proofs.Ytbhapclaochcnaa
