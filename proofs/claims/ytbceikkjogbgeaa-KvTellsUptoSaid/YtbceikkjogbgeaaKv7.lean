/- The pairs that a span has. No condition. -/
import Derived.Test.YtbceikkjogbgeaaKv6
namespace Go.Proofs.Ytbceikkjogbgeaa
open Go.RowKit
set_option linter.all false

def rangeL (s : Span) : List Pair → List Pair → List Pair × Bool
  | [], acc => (acc, false)
  | p :: ps, acc => if hasS s p.key = true then (if acc.length = 8 then (acc, true) else rangeL s ps (acc ++ [p])) else rangeL s ps acc
def rangeX (xs : List (List PD)) (s : Span) : List (List PD) × Bool := (pairsX (rangeL s (pairsOf xs) []).1, (rangeL s (pairsOf xs) []).2)
def rgS (xs : List (List PD)) (n : Int) : Int → Option (List DV × Nat × Nat) → SL
  | i, none => [(3, .ref 0 0 0), (6, .d (.sc (.slice none 0 0))), (9, .d (.slc 3 xs)), (10, .d (.sc (.int .i64 n))), (11, .d (.sc (.int .i64 i)))]
  | i, some (_, v, m) => [(3, .ref 0 0 0), (6, .view 3 1 v 0 m), (9, .d (.slc 3 xs)), (10, .d (.sc (.int .i64 n))), (11, .d (.sc (.int .i64 i)))]
def rgT (s : Span) : Option (List DV × Nat × Nat) → Store
  | none => [⟨35, [.d (.sc (.string s.lo)), .d (.sc (.string s.hi))], false, 0, true⟩]
  | some (cs, v, _) => [⟨35, [.d (.sc (.string s.lo)), .d (.sc (.string s.hi))], false, 0, true⟩, ⟨29, cs, true, v, true⟩]
def rgI (acc : List Pair) : Option (List DV × Nat × Nat) → Prop
  | none => acc = []
  | some (cs, _, m) => cs = rowsD (pairsX acc) ∧ m = acc.length

structure FsR where
  range : List (List PD) → Span → List (List PD) × Bool
  isP : List (List PD) → Prop
def FsR0 : FsR where
  range := rangeX
  isP := isP
set_option maxRecDepth 100000 in
theorem v_range (xs : List (List PD)) (s : Span) (hp0 : FsR0.isP xs) : FnV Try.prog 12 [.d (.slc 3 xs), Span.D s] (.tup [.d (.slc 3 ((rangeX xs s)).1), boolD (((rangeX xs s)).2)]) := by
  obtain ⟨s_lo, s_hi⟩ := s
  obtain ⟨ps, hxs, hl⟩ := hp0
  have hlen : xs.length = ps.length := by rw [hxs]; exact pairsX_length ps
  have hof : pairsOf xs = ps := by rw [hxs]; exact pairsOf_X ps
  obtain ⟨n, hn⟩ : ∃ n : Int, n = ps.length := ⟨_, rfl⟩
  unfold rangeX
  rw [hof]
  obtain ⟨q, hq⟩ : ∃ q, q = rangeL ⟨s_lo, s_hi⟩ ps [] := ⟨_, rfl⟩
  rw [← hq]
  obtain ⟨GFsS, hGFsS⟩ : ∃ F, F = FsS0 := ⟨_, rfl⟩
  have hH : SoundK Try.prog [kn_has GFsS] := by subst hGFsS; exact orK_ok ok_has noK_ok
  refine FnD_cbv (T := fun _ => tabY [13] []) (H := fun _ => [kn_has GFsS]) (tabY_ok _ _) hH follows_mixed Try.func12 rfl Try.ntmps12 (by simp) fun A X W hA hX hW => ?_
  cbv
  replace hn : n = (ps.length : Int) := hn
  refine loopL (T := fun _ => tabY [13] []) (H := fun _ => [kn_has GFsS]) (tabY_ok _ _) hH follows_mixed hA hX (fun x : Int × List Pair × Option (List DV × Nat × Nat) => (0 ≤ x.1 ∧ x.1 ≤ n) ∧ q = rangeL ⟨s_lo, s_hi⟩ (ps.drop x.1.toNat) x.2.1 ∧ x.2.1.length ≤ 8 ∧ rgI x.2.1 x.2.2)
    (fun x => rgS xs n x.1 x.2.2) (fun x => rgT ⟨s_lo, s_hi⟩ x.2.2)
    (fun x => n.toNat - x.1.toNat) (0, [], none) ?_ ?_ ?_
  · exact ⟨⟨by omega, by omega⟩, hq, by simp, rfl⟩
  · subst hA; exact told_less (by simp [toldP, getS, A0, hn, hlen, rgS])
  rintro R ⟨i, acc, o⟩ hR ⟨hi, i2, i3, i4⟩
  replace hi : 0 ≤ i ∧ i ≤ n := hi
  replace i2 : q = rangeL ⟨s_lo, s_hi⟩ (ps.drop i.toNat) acc := i2
  replace i3 : acc.length ≤ 8 := i3
  have i5 : o = none ∧ acc = [] ∨ ∃ cs v m, o = some (cs, v, m) ∧ cs = rowsD (pairsX acc) ∧ m = acc.length := by
    rcases o with _ | ⟨cs, v, m⟩
    · exact .inl ⟨rfl, i4⟩
    · exact .inr ⟨cs, v, m, rfl, i4⟩
  clear i4
  rcases i5 with ⟨rfl, i4⟩ | ⟨cs, v, m, rfl, hcs, hm⟩ <;>
  cbv
  all_goals
    repeat' first
      | (refine part (fun h => ?_) (fun h => ?_) <;> try cbv)
      | (refine And.intro ?_ ?_)
  all_goals subst hA hX hW hR
  all_goals try clear hH
  all_goals simp only [A0, nc, decide_eq_true_eq, decide_eq_false_iff_not, Bool.not_eq_true', Bool.not_eq_false'] at *
  all_goals try replace hi : 0 ≤ i ∧ i ≤ n := hi
  all_goals replace hn : n = (ps.length : Int) := hn
  all_goals have ei : IntKind.wrap .i64 (i + 1) = i + 1 := wrap_i64 (by unfold r64; omega)
  all_goals try
    have hlt : i < ps.length := by omega
    have hrow := prow hxs hi.1 hlt
    have hd := pdrop hi.1 hlt
    generalize ps[i.toNat]'(by omega) = p at hrow hd
    rw [hd] at i2
    simp only [hrow, Pair.row, List.map_cons, List.map_nil, Nat.zero_add, List.getElem?_cons_zero, List.getElem?_cons_succ] at *
  all_goals first
    | rfl
    | (show Region.lexB _ _ = true; kernel_rfl)
    | (show turnsB _ = true; kernel_rfl)
    | omega
    | (refine ⟨by omega, by omega⟩)
    | (simp; done)
    | (intros; first | assumption | trivial | (simp_all; done))
    | (have h4 := ‹GFsS.has ⟨s_lo, s_hi⟩ p.key = false›
       subst hGFsS
       have h5 : hasS ⟨s_lo, s_hi⟩ p.key = false := h4
       rw [rangeL, if_neg (by rw [h5]; simp)] at i2
       first
         | (subst i4
            refine ⟨(i + 1, [], none), ⟨⟨by show (0 : Int) ≤ i + 1; omega, by show i + 1 ≤ n; omega⟩, i2, i3, rfl⟩, by show n.toNat - (i + 1).toNat < n.toNat - i.toNat; omega, told_keep [0] rfl rfl ?_⟩
            simp [toldP, getS, rgS, pullD, ei]
            done)
         | (refine ⟨(i + 1, acc, some (cs, v, m)), ⟨⟨by show (0 : Int) ≤ i + 1; omega, by show i + 1 ≤ n; omega⟩, i2, i3, hcs, hm⟩, by show n.toNat - (i + 1).toNat < n.toNat - i.toNat; omega, told_keep [0, 1] rfl ?_ ?_⟩
            · simp [keepSt, pullBox, pullL_eq, hcs, pull_rows, pullD, rgT]
            · simp [toldP, getS, rgS, pullD, ei]))
    | (have h4 := ‹GFsS.has ⟨s_lo, s_hi⟩ p.key = true›
       subst hGFsS
       have h5 : hasS ⟨s_lo, s_hi⟩ p.key = true := h4
       rw [rangeL, if_pos h5] at i2
       have hr : rowsD (pairsX [p]) = [.d (.sc (.string p.key)), .d (.sc (.string p.value)), .d (.sc (.int .i64 p.version))] := rfl
       first
         | (subst i4
            rw [if_neg (by simp)] at i2
            refine ⟨(i + 1, [p], some (rowsD (pairsX [p]), 0, 1)), ⟨⟨by show (0 : Int) ≤ i + 1; omega, by show i + 1 ≤ n; omega⟩, i2, by simp, rfl, rfl⟩, by show n.toNat - (i + 1).toNat < n.toNat - i.toNat; omega, told_keep [0, 3] rfl ?_ ?_⟩
            · simp [keepSt, pullBox, pullL_eq, pullD, rgT, hr]
            · simp [toldP, getS, rgS, pullD, ei])
         | (have h8 := ‹(m : Int) = 8›
            rw [if_pos (by omega)] at i2
            rw [i2]
            exact ret_slice2 (xs := pairsX acc) rfl rfl rfl (by rw [hm, pairsX_length]) hcs (isP.sz ⟨acc, rfl, by omega⟩) rfl)
         | (have h8 := ‹¬ (m : Int) = 8›
            rw [if_neg (by omega)] at i2
            refine ⟨(i + 1, acc ++ [p], some (cs ++ rowsD (pairsX [p]), v + 1, m + 1)), ⟨⟨by show (0 : Int) ≤ i + 1; omega, by show i + 1 ≤ n; omega⟩, i2, by show (acc ++ [p]).length ≤ 8; rw [List.length_append, List.length_singleton]; omega, by rw [hcs, ← rowsD_append]; simp [pairsX], by rw [hm]; simp⟩, by show n.toNat - (i + 1).toNat < n.toNat - i.toNat; omega, told_keep [0, 1] rfl ?_ ?_⟩
            · simp [keepSt, pullBox, pullL_eq, pullD, rgT, hr, hcs, pull_rows]
            · simp [toldP, getS, rgS, pullD, ei]))
    | (rw [hcs, rowsD_len (isP.sz ⟨acc, rfl, by omega⟩), hm, pairsX_length]
       done)
    | (rw [show i.toNat = ps.length by omega, List.drop_length] at i2
       rw [i2]
       first
         | (subst i4; exact ret_up upd2 rfl)
         | exact ret_slice2 (xs := pairsX acc) rfl rfl rfl (by rw [hm, pairsX_length]) hcs (isP.sz ⟨acc, rfl, by omega⟩) rfl)
    | skip
  · subst i4
    subst hGFsS
    have h5 : hasS ⟨s_lo, s_hi⟩ p.key = true := h
    rw [rangeL, if_pos h5, if_neg (by simp)] at i2
    have hr : rowsD (pairsX [p]) = [.d (.sc (.string p.key)), .d (.sc (.string p.value)), .d (.sc (.int .i64 p.version))] := rfl
    refine ⟨(i + 1, [p], some (rowsD (pairsX [p]), 0, 1)), ⟨⟨by show (0 : Int) ≤ i + 1; omega, by show i + 1 ≤ n; omega⟩, i2, by simp, rfl, rfl⟩, by show n.toNat - (i + 1).toNat < n.toNat - i.toNat; omega, told_keep [0, 3] rfl ?_ ?_⟩
    · simp [keepSt, pullBox, pullL_eq, pullD, rgT, hr]
    · simp [toldP, getS, rgS, pullD, ei]
      exact ⟨rfl, rfl⟩
  · subst hGFsS
    have h5 : hasS ⟨s_lo, s_hi⟩ p.key = false := h
    rw [rangeL, if_neg (by rw [h5]; simp)] at i2
    refine ⟨(i + 1, acc, some (cs, v, m)), ⟨⟨by show (0 : Int) ≤ i + 1; omega, by show i + 1 ≤ n; omega⟩, i2, i3, hcs, hm⟩, by show n.toNat - (i + 1).toNat < n.toNat - i.toNat; omega, told_keep [0, 1] rfl ?_ ?_⟩
    · simp [keepSt, pullBox, pullL_eq, hcs, pull_rows, pullD, rgT]
    · simp [toldP, getS, rgS, pullD, ei]
      exact ⟨rfl, rfl⟩
  · subst hGFsS
    have h5 : hasS ⟨s_lo, s_hi⟩ p.key = true := h
    have h8 := ‹¬ (m : Int) = 8›
    rw [rangeL, if_pos h5, if_neg (by omega)] at i2
    have hr : rowsD (pairsX [p]) = [.d (.sc (.string p.key)), .d (.sc (.string p.value)), .d (.sc (.int .i64 p.version))] := rfl
    refine ⟨(i + 1, acc ++ [p], some (cs ++ rowsD (pairsX [p]), v + 1, m + 1)), ⟨⟨by show (0 : Int) ≤ i + 1; omega, by show i + 1 ≤ n; omega⟩, i2, by show (acc ++ [p]).length ≤ 8; rw [List.length_append, List.length_singleton]; omega, by rw [hcs, ← rowsD_append]; simp [pairsX], by rw [hm]; simp⟩, by show n.toNat - (i + 1).toNat < n.toNat - i.toNat; omega, told_keep [0, 1] rfl ?_ ?_⟩
    · simp [keepSt, pullBox, pullL_eq, pullD, rgT, hr, hcs, pull_rows]
    · simp [toldP, getS, rgS, pullD, ei]
      exact ⟨rfl, rfl⟩
def kn_range (F : FsR) : FuncId × (List DV → RV) := (12, fun args => match args with
  | [.d (.slc 3 xs), .agg [.d (.sc (.string s_lo)), .d (.sc (.string s_hi))]] => some ([F.isP xs], .tup [.d (.slc 3 ((F.range xs ⟨s_lo, s_hi⟩)).1), boolD (((F.range xs ⟨s_lo, s_hi⟩)).2)])
  | [.d (.sc (.slice none 0 0)), .agg [.d (.sc (.string s_lo)), .d (.sc (.string s_hi))]] => some ([F.isP []], .tup [.d (.slc 3 ((F.range [] ⟨s_lo, s_hi⟩)).1), boolD (((F.range [] ⟨s_lo, s_hi⟩)).2)])
  | _ => none)
theorem ok_range (args : List DV) (cs : List Prop) (r : DV) (h : (kn_range FsR0).2 args = some (cs, r)) (hc : allP cs True) : FnV Try.prog 12 args r ∧ closedL 0 args = true := by
  unfold kn_range at h
  simp only at h
  split at h
  · cases h; exact ⟨v_range _ ⟨_, _⟩ hc.1, rfl⟩
  · cases h; exact ⟨FnP.nils (v_range [] ⟨_, _⟩ hc.1) ⟨.inr ⟨rfl, _, rfl⟩, ⟨.inl rfl, trivial⟩⟩, rfl⟩
  · cases h
end Go.Proofs.Ytbceikkjogbgeaa
