/- Commands and spans: what the functions give. No condition. -/
import Derived.Test.YtdcelfgdnepghaaAm30
import Derived.Test.YtdcelfgdnepghaaTy
namespace Go.Proofs.Ytdcelfgdnepghaa
open Go.RowKit
set_option linter.all false

structure Cmd where
  kind : Int
  client : Int
  seq : Int
  key : ByteArray
  fin : ByteArray
  old : ByteArray
  val : ByteArray
  deriving DecidableEq
def Cmd.D (x : Cmd) : DV := .agg [intD x.kind, intD x.client, intD x.seq, strD x.key, strD x.fin, strD x.old, strD x.val]
structure Span where
  lo : ByteArray
  hi : ByteArray
  deriving DecidableEq
def Span.D (x : Span) : DV := .agg [strD x.lo, strD x.hi]

abbrev none8 : ByteArray := { data := #[] }
def within (n m : Int) : Bool := decide (1 ≤ n) && decide (n ≤ m)
def under (k h : ByteArray) : Bool := decide (h = none8) || ltb k h
def emptyS (s : Span) : Bool := !under s.lo s.hi
theorem bytes1 : ({ data := { toList := [0] } } : ByteArray).size = 1 := rfl
def bare (c : Cmd) : Cmd := { kind := c.kind, client := c.client, seq := c.seq, key := c.key, fin := if c.kind = 5 then c.fin else none8, old := if c.kind = 4 then c.old else none8, val := if c.kind = 2 ∨ c.kind = 4 then c.val else none8 }
def emptyR (s : Span) : Bool := !decide (s.hi = none8) && (ltb s.hi s.lo || decide (s.hi = s.lo))
def meets (a b : Span) : Bool := !emptyS a && !emptyS b && under a.lo b.hi && under b.lo a.hi
def meetsR (a b : Span) : Bool := !emptyR a && !emptyR b && (decide (a.hi = none8) || ltb b.lo a.hi) && (decide (b.hi = none8) || ltb a.lo b.hi)
def spanOf (k : ByteArray) : Span := ⟨k, k ++ { data := #[0] }⟩
def Cmd.zero : Cmd := ⟨0, 0, 0, none8, none8, none8, none8⟩
def rightC (c : Cmd) : Bool := decide (c = .zero) || (within c.kind 5 && within c.client 8 && within c.seq 1099511627776 && decide (c = bare c) && decide (c.key.size ≤ 16) && decide (c.fin.size ≤ 16) && decide (c.old.size ≤ 64) && decide (c.val.size ≤ 64) && (!decide (c.key = none8) || decide (c.kind = 5)))
def rightCR (c : Cmd) : Bool := decide (c = .zero) || (decide (1 ≤ c.kind) && decide (c.kind ≤ 5) && decide (1 ≤ c.client) && decide (c.client ≤ 8) && decide (1 ≤ c.seq) && decide (c.seq ≤ 1099511627776) && decide (c.key.size ≤ 16) && decide (c.fin.size ≤ 16) && decide (c.old.size ≤ 64) && decide (c.val.size ≤ 64) && decide (c = bare c) && (decide (c.kind = 5) || !decide (c.key = none8)))
def keysC (c : Cmd) : Span × Bool := if c.kind = 1 ∨ c.kind = 2 ∨ c.kind = 3 ∨ c.kind = 4 then (spanOf c.key, true) else if c.kind = 5 then (⟨c.key, c.fin⟩, true) else (⟨none8, none8⟩, false)
def writesC (c : Cmd) : Bool := decide (c.kind = 2) || decide (c.kind = 3) || decide (c.kind = 4)
def clashC (a b : Cmd) : Bool := (keysC a).2 && (keysC b).2 && (decide (a.client = b.client) || (writesC a || writesC b) && meets (keysC a).1 (keysC b).1)
def clashR (a b : Cmd) : Bool := (keysC a).2 && (keysC b).2 && (decide (a.client = b.client) || (writesC a || writesC b) && meetsR (keysC a).1 (keysC b).1)

structure Fs5 where
  within : Int → Int → Bool
  under : ByteArray → ByteArray → Bool
  empty : Span → Bool
  emptyR : Span → Bool
  bare : Cmd → Cmd
  meets : Span → Span → Bool
  meetsR : Span → Span → Bool
  spanOf : ByteArray → Span
  right : Cmd → Bool
  rightR : Cmd → Bool
  keys : Cmd → Span × Bool
  writes : Cmd → Bool
  keysR : Cmd → Span × Bool
  writesR : Cmd → Bool
  clash : Cmd → Cmd → Bool
  clashR : Cmd → Cmd → Bool
  sz : ByteArray → Prop
def Fs50 : Fs5 where
  within := within
  under := under
  empty := emptyS
  emptyR := emptyR
  bare := bare
  meets := meets
  meetsR := meetsR
  spanOf := spanOf
  right := rightC
  rightR := rightCR
  keys := keysC
  writes := writesC
  keysR := keysC
  writesR := writesC
  clash := clashC
  clashR := clashR
  sz := fun b => b.size ≤ 4194304
set_option maxRecDepth 100000 in
theorem v_within (n : Int) (m : Int) : FnV Try.prog 31 [intD n, intD m] (boolD ((within n m))) := by
  refine FnD_cbv (T := fun _ => tabY [] []) (H := fun _ => []) (tabY_ok _ _) noK_ok follows_mixed Try.func31 rfl Try.ntmps31 (by simp) fun A X W hA hX hW => ?_
  cbv
  repeat' first
    | (refine part (fun h => ?_) (fun h => ?_) <;> try cbv)
    | (refine And.intro ?_ ?_)
  all_goals subst hA hX hW
  all_goals try (show Region.lexB _ _ = true; kernel_rfl)
  all_goals try (show turnsB _ = true; kernel_rfl)
  all_goals simp only [A0, Fs50, decide_eq_true_eq, decide_eq_false_iff_not, Bool.not_eq_true', Bool.not_eq_false'] at *
  all_goals first
    | (refine ret_v ?_ rfl
       first
         | rfl
         | (simp_all [within, boolD, intD, strD]; done)
         | (simp_all [within, boolD, intD, strD]; rfl)
         | (simp only [within, boolD, intD, strD] at *; congr 3; grind)
         | (simp only [within, boolD, intD, strD] at *; grind))
    | (intros; simp_all [bytes1, maxLen]; done)
    | (intros; simp only [bytes1, maxLen] at *; omega)
    | grind
def kn_within (F : Fs5) : FuncId × (List DV → RV) := (31, fun args => match args with
  | [.d (.sc (.int .i64 n)), .d (.sc (.int .i64 m))] => some ([], boolD ((F.within n m)))
  | _ => none)
theorem ok_within (args : List DV) (cs : List Prop) (r : DV) (h : (kn_within Fs50).2 args = some (cs, r)) (hc : allP cs True) : FnV Try.prog 31 args r ∧ closedL 0 args = true := by
  unfold kn_within at h
  simp only at h
  split at h
  · cases h; exact ⟨v_within _ _, rfl⟩
  · cases h
set_option maxRecDepth 100000 in
theorem v_under (k : ByteArray) (h : ByteArray) : FnV Try.prog 41 [strD k, strD h] (boolD ((under k h))) := by
  refine FnD_cbv (T := fun _ => tabY [] []) (H := fun _ => []) (tabY_ok _ _) noK_ok follows_mixed Try.func41 rfl Try.ntmps41 (by simp) fun A X W hA hX hW => ?_
  cbv
  repeat' first
    | (refine part (fun h => ?_) (fun h => ?_) <;> try cbv)
    | (refine And.intro ?_ ?_)
  all_goals subst hA hX hW
  all_goals try (show Region.lexB _ _ = true; kernel_rfl)
  all_goals try (show turnsB _ = true; kernel_rfl)
  all_goals simp only [A0, Fs50, decide_eq_true_eq, decide_eq_false_iff_not, Bool.not_eq_true', Bool.not_eq_false'] at *
  all_goals first
    | (refine ret_v ?_ rfl
       first
         | rfl
         | (simp_all [under, boolD, intD, strD]; done)
         | (simp_all [under, boolD, intD, strD]; rfl)
         | (simp only [under, boolD, intD, strD] at *; congr 3; grind)
         | (simp only [under, boolD, intD, strD] at *; grind))
    | (intros; simp_all [bytes1, maxLen]; done)
    | (intros; simp only [bytes1, maxLen] at *; omega)
    | grind
def kn_under (F : Fs5) : FuncId × (List DV → RV) := (41, fun args => match args with
  | [.d (.sc (.string k)), .d (.sc (.string h))] => some ([], boolD ((F.under k h)))
  | _ => none)
theorem ok_under (args : List DV) (cs : List Prop) (r : DV) (h : (kn_under Fs50).2 args = some (cs, r)) (hc : allP cs True) : FnV Try.prog 41 args r ∧ closedL 0 args = true := by
  unfold kn_under at h
  simp only at h
  split at h
  · cases h; exact ⟨v_under _ _, rfl⟩
  · cases h
set_option maxRecDepth 100000 in
theorem v_empty (s : Span) : FnV Try.prog 40 [Span.D s] (boolD ((emptyS s))) := by
  obtain ⟨s_lo, s_hi⟩ := s
  obtain ⟨F, hF⟩ : ∃ F, F = Fs50 := ⟨_, rfl⟩
  have hH : SoundK Try.prog [kn_under F] := by subst hF; exact orK_ok ok_under noK_ok
  refine FnD_cbv (T := fun _ => tabY [] []) (H := fun _ => [kn_under F]) (tabY_ok _ _) hH follows_mixed Try.func40 rfl Try.ntmps40 (by simp) fun A X W hA hX hW => ?_
  clear hH
  cbv
  repeat' first
    | (refine part (fun h => ?_) (fun h => ?_) <;> try cbv)
    | (refine And.intro ?_ ?_)
  all_goals subst hA hX hW hF
  all_goals try (show Region.lexB _ _ = true; kernel_rfl)
  all_goals try (show turnsB _ = true; kernel_rfl)
  all_goals simp only [A0, Fs50, decide_eq_true_eq, decide_eq_false_iff_not, Bool.not_eq_true', Bool.not_eq_false'] at *
  all_goals first
    | (refine ret_v ?_ rfl
       first
         | rfl
         | (simp_all [emptyS, Span.D, boolD, intD, strD]; done)
         | (simp_all [emptyS, Span.D, boolD, intD, strD]; rfl)
         | (simp only [emptyS, Span.D, boolD, intD, strD] at *; congr 3; grind)
         | (simp only [emptyS, Span.D, boolD, intD, strD] at *; grind))
    | (intros; simp_all [bytes1, maxLen]; done)
    | (intros; simp only [bytes1, maxLen] at *; omega)
    | grind
def kn_empty (F : Fs5) : FuncId × (List DV → RV) := (40, fun args => match args with
  | [.agg [.d (.sc (.string s_lo)), .d (.sc (.string s_hi))]] => some ([], boolD ((F.empty ⟨s_lo, s_hi⟩)))
  | _ => none)
theorem ok_empty (args : List DV) (cs : List Prop) (r : DV) (h : (kn_empty Fs50).2 args = some (cs, r)) (hc : allP cs True) : FnV Try.prog 40 args r ∧ closedL 0 args = true := by
  unfold kn_empty at h
  simp only at h
  split at h
  · cases h; exact ⟨v_empty ⟨_, _⟩, rfl⟩
  · cases h
set_option maxRecDepth 100000 in
theorem v_bare (c : Cmd) : FnV Try.prog 32 [Cmd.D c] (Cmd.D ((bare c))) := by
  obtain ⟨c_kind, c_client, c_seq, c_key, c_fin, c_old, c_val⟩ := c
  refine FnD_cbv (T := fun _ => tabY [] []) (H := fun _ => []) (tabY_ok _ _) noK_ok follows_mixed Try.func32 rfl Try.ntmps32 (by simp) fun A X W hA hX hW => ?_
  cbv
  repeat' first
    | (refine part (fun h => ?_) (fun h => ?_) <;> try cbv)
    | (refine And.intro ?_ ?_)
  all_goals subst hA hX hW
  all_goals try (show Region.lexB _ _ = true; kernel_rfl)
  all_goals try (show turnsB _ = true; kernel_rfl)
  all_goals simp only [A0, Fs50, decide_eq_true_eq, decide_eq_false_iff_not, Bool.not_eq_true', Bool.not_eq_false'] at *
  all_goals first
    | (refine ret_v ?_ rfl
       first
         | rfl
         | (simp_all [bare, Cmd.D, boolD, intD, strD]; done)
         | (simp_all [bare, Cmd.D, boolD, intD, strD]; rfl)
         | (simp only [bare, Cmd.D, boolD, intD, strD] at *; congr 3; grind)
         | (simp only [bare, Cmd.D, boolD, intD, strD] at *; grind))
    | (intros; simp_all [bytes1, maxLen]; done)
    | (intros; simp only [bytes1, maxLen] at *; omega)
    | grind
def kn_bare (F : Fs5) : FuncId × (List DV → RV) := (32, fun args => match args with
  | [.agg [.d (.sc (.int .i64 c_kind)), .d (.sc (.int .i64 c_client)), .d (.sc (.int .i64 c_seq)), .d (.sc (.string c_key)), .d (.sc (.string c_fin)), .d (.sc (.string c_old)), .d (.sc (.string c_val))]] => some ([], Cmd.D ((F.bare ⟨c_kind, c_client, c_seq, c_key, c_fin, c_old, c_val⟩)))
  | _ => none)
theorem ok_bare (args : List DV) (cs : List Prop) (r : DV) (h : (kn_bare Fs50).2 args = some (cs, r)) (hc : allP cs True) : FnV Try.prog 32 args r ∧ closedL 0 args = true := by
  unfold kn_bare at h
  simp only at h
  split at h
  · cases h; exact ⟨v_bare ⟨_, _, _, _, _, _, _⟩, rfl⟩
  · cases h
set_option maxRecDepth 100000 in
theorem v_emptyR (s : Span) : FnV Try.prog 43 [Span.D s] (boolD ((emptyR s))) := by
  obtain ⟨s_lo, s_hi⟩ := s
  refine FnD_cbv (T := fun _ => tabY [] []) (H := fun _ => []) (tabY_ok _ _) noK_ok follows_mixed Try.func43 rfl Try.ntmps43 (by simp) fun A X W hA hX hW => ?_
  cbv
  repeat' first
    | (refine part (fun h => ?_) (fun h => ?_) <;> try cbv)
    | (refine And.intro ?_ ?_)
  all_goals subst hA hX hW
  all_goals try (show Region.lexB _ _ = true; kernel_rfl)
  all_goals try (show turnsB _ = true; kernel_rfl)
  all_goals simp only [A0, Fs50, decide_eq_true_eq, decide_eq_false_iff_not, Bool.not_eq_true', Bool.not_eq_false'] at *
  all_goals first
    | (refine ret_v ?_ rfl
       first
         | rfl
         | (simp_all [emptyR, Span.D, boolD, intD, strD]; done)
         | (simp_all [emptyR, Span.D, boolD, intD, strD]; rfl)
         | (simp only [emptyR, Span.D, boolD, intD, strD] at *; congr 3; grind)
         | (simp only [emptyR, Span.D, boolD, intD, strD] at *; grind))
    | (intros; simp_all [bytes1, maxLen]; done)
    | (intros; simp only [bytes1, maxLen] at *; omega)
    | grind
def kn_emptyR (F : Fs5) : FuncId × (List DV → RV) := (43, fun args => match args with
  | [.agg [.d (.sc (.string s_lo)), .d (.sc (.string s_hi))]] => some ([], boolD ((F.emptyR ⟨s_lo, s_hi⟩)))
  | _ => none)
theorem ok_emptyR (args : List DV) (cs : List Prop) (r : DV) (h : (kn_emptyR Fs50).2 args = some (cs, r)) (hc : allP cs True) : FnV Try.prog 43 args r ∧ closedL 0 args = true := by
  unfold kn_emptyR at h
  simp only at h
  split at h
  · cases h; exact ⟨v_emptyR ⟨_, _⟩, rfl⟩
  · cases h
set_option maxRecDepth 100000 in
theorem v_meets (a : Span) (b : Span) : FnV Try.prog 27 [Span.D a, Span.D b] (boolD ((meets a b))) := by
  obtain ⟨a_lo, a_hi⟩ := a
  obtain ⟨b_lo, b_hi⟩ := b
  obtain ⟨F, hF⟩ : ∃ F, F = Fs50 := ⟨_, rfl⟩
  have hH : SoundK Try.prog [kn_under F, kn_empty F] := by subst hF; exact orK_ok ok_under (orK_ok ok_empty noK_ok)
  refine FnD_cbv (T := fun _ => tabY [] []) (H := fun _ => [kn_under F, kn_empty F]) (tabY_ok _ _) hH follows_mixed Try.func27 rfl Try.ntmps27 (by simp) fun A X W hA hX hW => ?_
  clear hH
  cbv
  repeat' first
    | (refine part (fun h => ?_) (fun h => ?_) <;> try cbv)
    | (refine And.intro ?_ ?_)
  all_goals subst hA hX hW hF
  all_goals try (show Region.lexB _ _ = true; kernel_rfl)
  all_goals try (show turnsB _ = true; kernel_rfl)
  all_goals simp only [A0, Fs50, decide_eq_true_eq, decide_eq_false_iff_not, Bool.not_eq_true', Bool.not_eq_false'] at *
  all_goals first
    | (refine ret_v ?_ rfl
       first
         | rfl
         | (simp_all [meets, Span.D, boolD, intD, strD]; done)
         | (simp_all [meets, Span.D, boolD, intD, strD]; rfl)
         | (simp only [meets, Span.D, boolD, intD, strD] at *; congr 3; grind)
         | (simp only [meets, Span.D, boolD, intD, strD] at *; grind))
    | (intros; simp_all [bytes1, maxLen]; done)
    | (intros; simp only [bytes1, maxLen] at *; omega)
    | grind
def kn_meets (F : Fs5) : FuncId × (List DV → RV) := (27, fun args => match args with
  | [.agg [.d (.sc (.string a_lo)), .d (.sc (.string a_hi))], .agg [.d (.sc (.string b_lo)), .d (.sc (.string b_hi))]] => some ([], boolD ((F.meets ⟨a_lo, a_hi⟩ ⟨b_lo, b_hi⟩)))
  | _ => none)
theorem ok_meets (args : List DV) (cs : List Prop) (r : DV) (h : (kn_meets Fs50).2 args = some (cs, r)) (hc : allP cs True) : FnV Try.prog 27 args r ∧ closedL 0 args = true := by
  unfold kn_meets at h
  simp only at h
  split at h
  · cases h; exact ⟨v_meets ⟨_, _⟩ ⟨_, _⟩, rfl⟩
  · cases h
set_option maxRecDepth 100000 in
theorem v_meetsR (a : Span) (b : Span) : FnV Try.prog 33 [Span.D a, Span.D b] (boolD ((meetsR a b))) := by
  obtain ⟨a_lo, a_hi⟩ := a
  obtain ⟨b_lo, b_hi⟩ := b
  obtain ⟨F, hF⟩ : ∃ F, F = Fs50 := ⟨_, rfl⟩
  have hH : SoundK Try.prog [kn_emptyR F] := by subst hF; exact orK_ok ok_emptyR noK_ok
  refine FnD_cbv (T := fun _ => tabY [] []) (H := fun _ => [kn_emptyR F]) (tabY_ok _ _) hH follows_mixed Try.func33 rfl Try.ntmps33 (by simp) fun A X W hA hX hW => ?_
  clear hH
  cbv
  repeat' first
    | (refine part (fun h => ?_) (fun h => ?_) <;> try cbv)
    | (refine And.intro ?_ ?_)
  all_goals subst hA hX hW hF
  all_goals try (show Region.lexB _ _ = true; kernel_rfl)
  all_goals try (show turnsB _ = true; kernel_rfl)
  all_goals simp only [A0, Fs50, decide_eq_true_eq, decide_eq_false_iff_not, Bool.not_eq_true', Bool.not_eq_false'] at *
  all_goals first
    | (refine ret_v ?_ rfl
       first
         | rfl
         | (simp_all [meetsR, Span.D, boolD, intD, strD]; done)
         | (simp_all [meetsR, Span.D, boolD, intD, strD]; rfl)
         | (simp only [meetsR, Span.D, boolD, intD, strD] at *; congr 3; grind)
         | (simp only [meetsR, Span.D, boolD, intD, strD] at *; grind))
    | (intros; simp_all [bytes1, maxLen]; done)
    | (intros; simp only [bytes1, maxLen] at *; omega)
    | grind
def kn_meetsR (F : Fs5) : FuncId × (List DV → RV) := (33, fun args => match args with
  | [.agg [.d (.sc (.string a_lo)), .d (.sc (.string a_hi))], .agg [.d (.sc (.string b_lo)), .d (.sc (.string b_hi))]] => some ([], boolD ((F.meetsR ⟨a_lo, a_hi⟩ ⟨b_lo, b_hi⟩)))
  | _ => none)
theorem ok_meetsR (args : List DV) (cs : List Prop) (r : DV) (h : (kn_meetsR Fs50).2 args = some (cs, r)) (hc : allP cs True) : FnV Try.prog 33 args r ∧ closedL 0 args = true := by
  unfold kn_meetsR at h
  simp only at h
  split at h
  · cases h; exact ⟨v_meetsR ⟨_, _⟩ ⟨_, _⟩, rfl⟩
  · cases h
set_option maxRecDepth 100000 in
theorem v_spanOf (k : ByteArray) (hp0 : Fs50.sz k) : FnV Try.prog 30 [strD k] (Span.D ((spanOf k))) := by
  refine FnD_cbv (T := fun _ => tabY [] []) (H := fun _ => []) (tabY_ok _ _) noK_ok follows_mixed Try.func30 rfl Try.ntmps30 (by simp) fun A X W hA hX hW => ?_
  cbv
  repeat' first
    | (refine part (fun h => ?_) (fun h => ?_) <;> try cbv)
    | (refine And.intro ?_ ?_)
  all_goals subst hA hX hW
  all_goals try (show Region.lexB _ _ = true; kernel_rfl)
  all_goals try (show turnsB _ = true; kernel_rfl)
  all_goals simp only [A0, Fs50, decide_eq_true_eq, decide_eq_false_iff_not, Bool.not_eq_true', Bool.not_eq_false'] at *
  all_goals first
    | (refine ret_v ?_ rfl
       first
         | rfl
         | (simp_all [spanOf, Span.D, boolD, intD, strD]; done)
         | (simp_all [spanOf, Span.D, boolD, intD, strD]; rfl)
         | (simp only [spanOf, Span.D, boolD, intD, strD] at *; congr 3; grind)
         | (simp only [spanOf, Span.D, boolD, intD, strD] at *; grind))
    | (intros; simp_all [bytes1, maxLen]; done)
    | (intros; simp only [bytes1, maxLen] at *; omega)
    | grind
def kn_spanOf (F : Fs5) : FuncId × (List DV → RV) := (30, fun args => match args with
  | [.d (.sc (.string k))] => some ([F.sz k], Span.D ((F.spanOf k)))
  | _ => none)
theorem ok_spanOf (args : List DV) (cs : List Prop) (r : DV) (h : (kn_spanOf Fs50).2 args = some (cs, r)) (hc : allP cs True) : FnV Try.prog 30 args r ∧ closedL 0 args = true := by
  unfold kn_spanOf at h
  simp only at h
  split at h
  · cases h; exact ⟨v_spanOf _ hc.1, rfl⟩
  · cases h
set_option maxRecDepth 100000 in
theorem v_right (c : Cmd) : FnV Try.prog 15 [Cmd.D c] (boolD ((rightC c))) := by
  obtain ⟨c_kind, c_client, c_seq, c_key, c_fin, c_old, c_val⟩ := c
  obtain ⟨F, hF⟩ : ∃ F, F = Fs50 := ⟨_, rfl⟩
  have hH : SoundK Try.prog [kn_within F, kn_bare F] := by subst hF; exact orK_ok ok_within (orK_ok ok_bare noK_ok)
  refine FnD_cbv (T := fun _ => tabY [] []) (H := fun _ => [kn_within F, kn_bare F]) (tabY_ok _ _) hH follows_mixed Try.func15 rfl Try.ntmps15 (by simp) fun A X W hA hX hW => ?_
  clear hH
  cbv
  repeat' first
    | (refine part (fun h => ?_) (fun h => ?_) <;> try cbv)
    | (refine And.intro ?_ ?_)
  all_goals subst hA hX hW hF
  all_goals try (show Region.lexB _ _ = true; kernel_rfl)
  all_goals try (show turnsB _ = true; kernel_rfl)
  all_goals simp only [A0, Fs50, decide_eq_true_eq, decide_eq_false_iff_not, Bool.not_eq_true', Bool.not_eq_false'] at *
  all_goals first
    | (refine ret_v ?_ rfl
       simp only [rightC, Cmd.zero, bare, within, Cmd.mk.injEq, boolD, Bool.cond_true_left, Bool.cond_false_left, Bool.cond_true_right, Bool.cond_false_right, Bool.or_eq_false_iff, Bool.and_eq_false_imp, Bool.or_eq_true, Bool.and_eq_true, decide_eq_true_eq, decide_eq_false_iff_not, decide_true, Bool.true_and, Bool.and_true] at *
       congr 3
       rw [Bool.eq_iff_iff]
       simp only [Bool.or_eq_true, Bool.and_eq_true, decide_eq_true_eq, Bool.not_eq_true', decide_eq_false_iff_not, Bool.false_eq_true, Bool.true_eq_false] at *
       grind)
    | (intro hq; exact hq)
    | (intro hq; simpa using hq)
    | grind
def kn_right (F : Fs5) : FuncId × (List DV → RV) := (15, fun args => match args with
  | [.agg [.d (.sc (.int .i64 c_kind)), .d (.sc (.int .i64 c_client)), .d (.sc (.int .i64 c_seq)), .d (.sc (.string c_key)), .d (.sc (.string c_fin)), .d (.sc (.string c_old)), .d (.sc (.string c_val))]] => some ([], boolD ((F.right ⟨c_kind, c_client, c_seq, c_key, c_fin, c_old, c_val⟩)))
  | _ => none)
theorem ok_right (args : List DV) (cs : List Prop) (r : DV) (h : (kn_right Fs50).2 args = some (cs, r)) (hc : allP cs True) : FnV Try.prog 15 args r ∧ closedL 0 args = true := by
  unfold kn_right at h
  simp only at h
  split at h
  · cases h; exact ⟨v_right ⟨_, _, _, _, _, _, _⟩, rfl⟩
  · cases h
set_option maxRecDepth 100000 in
theorem v_rightR (c : Cmd) : FnV Try.prog 16 [Cmd.D c] (boolD ((rightCR c))) := by
  obtain ⟨c_kind, c_client, c_seq, c_key, c_fin, c_old, c_val⟩ := c
  refine FnD_cbv (T := fun _ => tabY [] []) (H := fun _ => []) (tabY_ok _ _) noK_ok follows_mixed Try.func16 rfl Try.ntmps16 (by simp) fun A X W hA hX hW => ?_
  cbv
  repeat' first
    | (refine part (fun h => ?_) (fun h => ?_) <;> try cbv)
    | (refine And.intro ?_ ?_)
  all_goals subst hA hX hW
  all_goals try (show Region.lexB _ _ = true; kernel_rfl)
  all_goals try (show turnsB _ = true; kernel_rfl)
  all_goals simp only [A0, Fs50, decide_eq_true_eq, decide_eq_false_iff_not, Bool.not_eq_true', Bool.not_eq_false'] at *
  all_goals first
    | (refine ret_v ?_ rfl
       simp only [rightCR, Cmd.zero, bare, within, Cmd.mk.injEq, boolD, Bool.cond_true_left, Bool.cond_false_left, Bool.cond_true_right, Bool.cond_false_right, Bool.or_eq_false_iff, Bool.and_eq_false_imp, Bool.or_eq_true, Bool.and_eq_true, decide_eq_true_eq, decide_eq_false_iff_not, decide_true, Bool.true_and, Bool.and_true] at *
       congr 3
       rw [Bool.eq_iff_iff]
       simp only [Bool.or_eq_true, Bool.and_eq_true, decide_eq_true_eq, Bool.not_eq_true', decide_eq_false_iff_not, Bool.false_eq_true, Bool.true_eq_false] at *
       grind)
    | (intro hq; exact hq)
    | (intro hq; simpa using hq)
    | grind
def kn_rightR (F : Fs5) : FuncId × (List DV → RV) := (16, fun args => match args with
  | [.agg [.d (.sc (.int .i64 c_kind)), .d (.sc (.int .i64 c_client)), .d (.sc (.int .i64 c_seq)), .d (.sc (.string c_key)), .d (.sc (.string c_fin)), .d (.sc (.string c_old)), .d (.sc (.string c_val))]] => some ([], boolD ((F.rightR ⟨c_kind, c_client, c_seq, c_key, c_fin, c_old, c_val⟩)))
  | _ => none)
theorem ok_rightR (args : List DV) (cs : List Prop) (r : DV) (h : (kn_rightR Fs50).2 args = some (cs, r)) (hc : allP cs True) : FnV Try.prog 16 args r ∧ closedL 0 args = true := by
  unfold kn_rightR at h
  simp only at h
  split at h
  · cases h; exact ⟨v_rightR ⟨_, _, _, _, _, _, _⟩, rfl⟩
  · cases h
set_option maxRecDepth 100000 in
theorem v_keys (c : Cmd) (hp0 : Fs50.sz c.key) : FnV Try.prog 13 [Cmd.D c] (.tup [Span.D (((keysC c)).1), boolD (((keysC c)).2)]) := by
  obtain ⟨c_kind, c_client, c_seq, c_key, c_fin, c_old, c_val⟩ := c
  obtain ⟨F, hF⟩ : ∃ F, F = Fs50 := ⟨_, rfl⟩
  have hH : SoundK Try.prog [kn_spanOf F] := by subst hF; exact orK_ok ok_spanOf noK_ok
  refine FnD_cbv (T := fun _ => tabY [] []) (H := fun _ => [kn_spanOf F]) (tabY_ok _ _) hH follows_mixed Try.func13 rfl Try.ntmps13 (by simp) fun A X W hA hX hW => ?_
  clear hH
  cbv
  repeat' first
    | (refine part (fun h => ?_) (fun h => ?_) <;> try cbv)
    | (refine And.intro ?_ ?_)
  all_goals subst hA hX hW hF
  all_goals try (show Region.lexB _ _ = true; kernel_rfl)
  all_goals try (show turnsB _ = true; kernel_rfl)
  all_goals simp only [A0, Fs50, decide_eq_true_eq, decide_eq_false_iff_not, Bool.not_eq_true', Bool.not_eq_false'] at *
  all_goals first
    | (refine ret_v ?_ rfl
       first
         | rfl
         | (simp_all [keysC, spanOf, Cmd.D, boolD, intD, strD]; done)
         | (simp_all [keysC, spanOf, Cmd.D, boolD, intD, strD]; rfl)
         | (simp only [keysC, spanOf, Cmd.D, boolD, intD, strD] at *; congr 3; grind)
         | (simp only [keysC, spanOf, Cmd.D, boolD, intD, strD] at *; grind))
    | (intros; simp_all [bytes1, maxLen]; done)
    | (intros; simp only [bytes1, maxLen] at *; omega)
    | grind
def kn_keys (F : Fs5) : FuncId × (List DV → RV) := (13, fun args => match args with
  | [.agg [.d (.sc (.int .i64 c_kind)), .d (.sc (.int .i64 c_client)), .d (.sc (.int .i64 c_seq)), .d (.sc (.string c_key)), .d (.sc (.string c_fin)), .d (.sc (.string c_old)), .d (.sc (.string c_val))]] => some ([F.sz c_key], .tup [Span.D (((F.keys ⟨c_kind, c_client, c_seq, c_key, c_fin, c_old, c_val⟩)).1), boolD (((F.keys ⟨c_kind, c_client, c_seq, c_key, c_fin, c_old, c_val⟩)).2)])
  | _ => none)
theorem ok_keys (args : List DV) (cs : List Prop) (r : DV) (h : (kn_keys Fs50).2 args = some (cs, r)) (hc : allP cs True) : FnV Try.prog 13 args r ∧ closedL 0 args = true := by
  unfold kn_keys at h
  simp only at h
  split at h
  · cases h; exact ⟨v_keys ⟨_, _, _, _, _, _, _⟩ hc.1, rfl⟩
  · cases h
set_option maxRecDepth 100000 in
theorem v_keysR (c : Cmd) (hp0 : Fs50.sz c.key) : FnV Try.prog 14 [Cmd.D c] (.tup [Span.D (((keysC c)).1), boolD (((keysC c)).2)]) := by
  obtain ⟨c_kind, c_client, c_seq, c_key, c_fin, c_old, c_val⟩ := c
  refine FnD_cbv (T := fun _ => tabY [] []) (H := fun _ => []) (tabY_ok _ _) noK_ok follows_mixed Try.func14 rfl Try.ntmps14 (by simp) fun A X W hA hX hW => ?_
  cbv
  repeat' first
    | (refine part (fun h => ?_) (fun h => ?_) <;> try cbv)
    | (refine And.intro ?_ ?_)
  all_goals subst hA hX hW
  all_goals try (show Region.lexB _ _ = true; kernel_rfl)
  all_goals try (show turnsB _ = true; kernel_rfl)
  all_goals simp only [A0, Fs50, decide_eq_true_eq, decide_eq_false_iff_not, Bool.not_eq_true', Bool.not_eq_false'] at *
  all_goals first
    | (refine ret_v ?_ rfl
       first
         | rfl
         | (simp_all [keysC, spanOf, Cmd.D, boolD, intD, strD]; done)
         | (simp_all [keysC, spanOf, Cmd.D, boolD, intD, strD]; rfl)
         | (simp only [keysC, spanOf, Cmd.D, boolD, intD, strD] at *; congr 3; grind)
         | (simp only [keysC, spanOf, Cmd.D, boolD, intD, strD] at *; grind))
    | (intros; simp_all [bytes1, maxLen]; done)
    | (intros; simp only [bytes1, maxLen] at *; omega)
    | grind
def kn_keysR (F : Fs5) : FuncId × (List DV → RV) := (14, fun args => match args with
  | [.agg [.d (.sc (.int .i64 c_kind)), .d (.sc (.int .i64 c_client)), .d (.sc (.int .i64 c_seq)), .d (.sc (.string c_key)), .d (.sc (.string c_fin)), .d (.sc (.string c_old)), .d (.sc (.string c_val))]] => some ([F.sz c_key], .tup [Span.D (((F.keysR ⟨c_kind, c_client, c_seq, c_key, c_fin, c_old, c_val⟩)).1), boolD (((F.keysR ⟨c_kind, c_client, c_seq, c_key, c_fin, c_old, c_val⟩)).2)])
  | _ => none)
theorem ok_keysR (args : List DV) (cs : List Prop) (r : DV) (h : (kn_keysR Fs50).2 args = some (cs, r)) (hc : allP cs True) : FnV Try.prog 14 args r ∧ closedL 0 args = true := by
  unfold kn_keysR at h
  simp only at h
  split at h
  · cases h; exact ⟨v_keysR ⟨_, _, _, _, _, _, _⟩ hc.1, rfl⟩
  · cases h
set_option maxRecDepth 100000 in
theorem v_writes (c : Cmd) : FnV Try.prog 17 [Cmd.D c] (boolD ((writesC c))) := by
  obtain ⟨c_kind, c_client, c_seq, c_key, c_fin, c_old, c_val⟩ := c
  refine FnD_cbv (T := fun _ => tabY [] []) (H := fun _ => []) (tabY_ok _ _) noK_ok follows_mixed Try.func17 rfl Try.ntmps17 (by simp) fun A X W hA hX hW => ?_
  cbv
  repeat' first
    | (refine part (fun h => ?_) (fun h => ?_) <;> try cbv)
    | (refine And.intro ?_ ?_)
  all_goals subst hA hX hW
  all_goals try (show Region.lexB _ _ = true; kernel_rfl)
  all_goals try (show turnsB _ = true; kernel_rfl)
  all_goals simp only [A0, Fs50, decide_eq_true_eq, decide_eq_false_iff_not, Bool.not_eq_true', Bool.not_eq_false'] at *
  all_goals first
    | (refine ret_v ?_ rfl
       first
         | rfl
         | (simp_all [writesC, Cmd.D, boolD, intD, strD]; done)
         | (simp_all [writesC, Cmd.D, boolD, intD, strD]; rfl)
         | (simp only [writesC, Cmd.D, boolD, intD, strD] at *; congr 3; grind)
         | (simp only [writesC, Cmd.D, boolD, intD, strD] at *; grind))
    | (intros; simp_all [bytes1, maxLen]; done)
    | (intros; simp only [bytes1, maxLen] at *; omega)
    | grind
def kn_writes (F : Fs5) : FuncId × (List DV → RV) := (17, fun args => match args with
  | [.agg [.d (.sc (.int .i64 c_kind)), .d (.sc (.int .i64 c_client)), .d (.sc (.int .i64 c_seq)), .d (.sc (.string c_key)), .d (.sc (.string c_fin)), .d (.sc (.string c_old)), .d (.sc (.string c_val))]] => some ([], boolD ((F.writes ⟨c_kind, c_client, c_seq, c_key, c_fin, c_old, c_val⟩)))
  | _ => none)
theorem ok_writes (args : List DV) (cs : List Prop) (r : DV) (h : (kn_writes Fs50).2 args = some (cs, r)) (hc : allP cs True) : FnV Try.prog 17 args r ∧ closedL 0 args = true := by
  unfold kn_writes at h
  simp only at h
  split at h
  · cases h; exact ⟨v_writes ⟨_, _, _, _, _, _, _⟩, rfl⟩
  · cases h
set_option maxRecDepth 100000 in
theorem v_writesR (c : Cmd) : FnV Try.prog 18 [Cmd.D c] (boolD ((writesC c))) := by
  obtain ⟨c_kind, c_client, c_seq, c_key, c_fin, c_old, c_val⟩ := c
  refine FnD_cbv (T := fun _ => tabY [] []) (H := fun _ => []) (tabY_ok _ _) noK_ok follows_mixed Try.func18 rfl Try.ntmps18 (by simp) fun A X W hA hX hW => ?_
  cbv
  repeat' first
    | (refine part (fun h => ?_) (fun h => ?_) <;> try cbv)
    | (refine And.intro ?_ ?_)
  all_goals subst hA hX hW
  all_goals try (show Region.lexB _ _ = true; kernel_rfl)
  all_goals try (show turnsB _ = true; kernel_rfl)
  all_goals simp only [A0, Fs50, decide_eq_true_eq, decide_eq_false_iff_not, Bool.not_eq_true', Bool.not_eq_false'] at *
  all_goals first
    | (refine ret_v ?_ rfl
       first
         | rfl
         | (simp_all [writesC, Cmd.D, boolD, intD, strD]; done)
         | (simp_all [writesC, Cmd.D, boolD, intD, strD]; rfl)
         | (simp only [writesC, Cmd.D, boolD, intD, strD] at *; congr 3; grind)
         | (simp only [writesC, Cmd.D, boolD, intD, strD] at *; grind))
    | (intros; simp_all [bytes1, maxLen]; done)
    | (intros; simp only [bytes1, maxLen] at *; omega)
    | grind
def kn_writesR (F : Fs5) : FuncId × (List DV → RV) := (18, fun args => match args with
  | [.agg [.d (.sc (.int .i64 c_kind)), .d (.sc (.int .i64 c_client)), .d (.sc (.int .i64 c_seq)), .d (.sc (.string c_key)), .d (.sc (.string c_fin)), .d (.sc (.string c_old)), .d (.sc (.string c_val))]] => some ([], boolD ((F.writesR ⟨c_kind, c_client, c_seq, c_key, c_fin, c_old, c_val⟩)))
  | _ => none)
theorem ok_writesR (args : List DV) (cs : List Prop) (r : DV) (h : (kn_writesR Fs50).2 args = some (cs, r)) (hc : allP cs True) : FnV Try.prog 18 args r ∧ closedL 0 args = true := by
  unfold kn_writesR at h
  simp only at h
  split at h
  · cases h; exact ⟨v_writesR ⟨_, _, _, _, _, _, _⟩, rfl⟩
  · cases h
set_option maxRecDepth 100000 in
theorem v_clash (a : Cmd) (b : Cmd) (hp0 : Fs50.sz a.key) (hp1 : Fs50.sz b.key) : FnV Try.prog 10 [Cmd.D a, Cmd.D b] (boolD ((clashC a b))) := by
  obtain ⟨a_kind, a_client, a_seq, a_key, a_fin, a_old, a_val⟩ := a
  obtain ⟨b_kind, b_client, b_seq, b_key, b_fin, b_old, b_val⟩ := b
  obtain ⟨F, hF⟩ : ∃ F, F = Fs50 := ⟨_, rfl⟩
  have hH : SoundK Try.prog [kn_keys F, kn_writes F, kn_meets F] := by subst hF; exact orK_ok ok_keys (orK_ok ok_writes (orK_ok ok_meets noK_ok))
  refine FnD_cbv (T := fun _ => tabY [] []) (H := fun _ => [kn_keys F, kn_writes F, kn_meets F]) (tabY_ok _ _) hH follows_mixed Try.func10 rfl Try.ntmps10 (by simp) fun A X W hA hX hW => ?_
  clear hH
  cbv
  repeat' first
    | (refine part (fun h => ?_) (fun h => ?_) <;> try cbv)
    | (refine And.intro ?_ ?_)
  all_goals subst hA hX hW hF
  all_goals try (show Region.lexB _ _ = true; kernel_rfl)
  all_goals try (show turnsB _ = true; kernel_rfl)
  all_goals simp only [A0, Fs50, decide_eq_true_eq, decide_eq_false_iff_not, Bool.not_eq_true', Bool.not_eq_false'] at *
  all_goals first
    | (refine ret_v ?_ rfl
       first
         | rfl
         | (simp_all [clashC, Cmd.D, boolD, intD, strD]; done)
         | (simp_all [clashC, Cmd.D, boolD, intD, strD]; rfl)
         | (simp only [clashC, Cmd.D, boolD, intD, strD] at *; congr 3; grind)
         | (simp only [clashC, Cmd.D, boolD, intD, strD] at *; grind))
    | (intros; simp_all [bytes1, maxLen]; done)
    | (intros; simp only [bytes1, maxLen] at *; omega)
    | grind
def kn_clash (F : Fs5) : FuncId × (List DV → RV) := (10, fun args => match args with
  | [.agg [.d (.sc (.int .i64 a_kind)), .d (.sc (.int .i64 a_client)), .d (.sc (.int .i64 a_seq)), .d (.sc (.string a_key)), .d (.sc (.string a_fin)), .d (.sc (.string a_old)), .d (.sc (.string a_val))], .agg [.d (.sc (.int .i64 b_kind)), .d (.sc (.int .i64 b_client)), .d (.sc (.int .i64 b_seq)), .d (.sc (.string b_key)), .d (.sc (.string b_fin)), .d (.sc (.string b_old)), .d (.sc (.string b_val))]] => some ([F.sz a_key, F.sz b_key], boolD ((F.clash ⟨a_kind, a_client, a_seq, a_key, a_fin, a_old, a_val⟩ ⟨b_kind, b_client, b_seq, b_key, b_fin, b_old, b_val⟩)))
  | _ => none)
theorem ok_clash (args : List DV) (cs : List Prop) (r : DV) (h : (kn_clash Fs50).2 args = some (cs, r)) (hc : allP cs True) : FnV Try.prog 10 args r ∧ closedL 0 args = true := by
  unfold kn_clash at h
  simp only at h
  split at h
  · cases h; exact ⟨v_clash ⟨_, _, _, _, _, _, _⟩ ⟨_, _, _, _, _, _, _⟩ hc.1 hc.2.1, rfl⟩
  · cases h
set_option maxRecDepth 100000 in
theorem v_clashR (a : Cmd) (b : Cmd) (hp0 : Fs50.sz a.key) (hp1 : Fs50.sz b.key) : FnV Try.prog 19 [Cmd.D a, Cmd.D b] (boolD ((clashR a b))) := by
  obtain ⟨a_kind, a_client, a_seq, a_key, a_fin, a_old, a_val⟩ := a
  obtain ⟨b_kind, b_client, b_seq, b_key, b_fin, b_old, b_val⟩ := b
  obtain ⟨F, hF⟩ : ∃ F, F = Fs50 := ⟨_, rfl⟩
  have hH : SoundK Try.prog [kn_keysR F, kn_writesR F, kn_meetsR F] := by subst hF; exact orK_ok ok_keysR (orK_ok ok_writesR (orK_ok ok_meetsR noK_ok))
  refine FnD_cbv (T := fun _ => tabY [] []) (H := fun _ => [kn_keysR F, kn_writesR F, kn_meetsR F]) (tabY_ok _ _) hH follows_mixed Try.func19 rfl Try.ntmps19 (by simp) fun A X W hA hX hW => ?_
  clear hH
  cbv
  repeat' first
    | (refine part (fun h => ?_) (fun h => ?_) <;> try cbv)
    | (refine And.intro ?_ ?_)
  all_goals subst hA hX hW hF
  all_goals try (show Region.lexB _ _ = true; kernel_rfl)
  all_goals try (show turnsB _ = true; kernel_rfl)
  all_goals simp only [A0, Fs50, decide_eq_true_eq, decide_eq_false_iff_not, Bool.not_eq_true', Bool.not_eq_false'] at *
  all_goals first
    | (refine ret_v ?_ rfl
       first
         | rfl
         | (simp_all [clashR, Cmd.D, boolD, intD, strD]; done)
         | (simp_all [clashR, Cmd.D, boolD, intD, strD]; rfl)
         | (simp only [clashR, Cmd.D, boolD, intD, strD] at *; congr 3; grind)
         | (simp only [clashR, Cmd.D, boolD, intD, strD] at *; grind))
    | (intros; simp_all [bytes1, maxLen]; done)
    | (intros; simp only [bytes1, maxLen] at *; omega)
    | grind
def kn_clashR (F : Fs5) : FuncId × (List DV → RV) := (19, fun args => match args with
  | [.agg [.d (.sc (.int .i64 a_kind)), .d (.sc (.int .i64 a_client)), .d (.sc (.int .i64 a_seq)), .d (.sc (.string a_key)), .d (.sc (.string a_fin)), .d (.sc (.string a_old)), .d (.sc (.string a_val))], .agg [.d (.sc (.int .i64 b_kind)), .d (.sc (.int .i64 b_client)), .d (.sc (.int .i64 b_seq)), .d (.sc (.string b_key)), .d (.sc (.string b_fin)), .d (.sc (.string b_old)), .d (.sc (.string b_val))]] => some ([F.sz a_key, F.sz b_key], boolD ((F.clashR ⟨a_kind, a_client, a_seq, a_key, a_fin, a_old, a_val⟩ ⟨b_kind, b_client, b_seq, b_key, b_fin, b_old, b_val⟩)))
  | _ => none)
theorem ok_clashR (args : List DV) (cs : List Prop) (r : DV) (h : (kn_clashR Fs50).2 args = some (cs, r)) (hc : allP cs True) : FnV Try.prog 19 args r ∧ closedL 0 args = true := by
  unfold kn_clashR at h
  simp only at h
  split at h
  · cases h; exact ⟨v_clashR ⟨_, _, _, _, _, _, _⟩ ⟨_, _, _, _, _, _, _⟩ hc.1 hc.2.1, rfl⟩
  · cases h
end Go.Proofs.Ytdcelfgdnepghaa
