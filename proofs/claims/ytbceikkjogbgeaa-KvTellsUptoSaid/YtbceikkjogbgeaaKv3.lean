/- A list of pairs: where a key stands; the pair of a key. No condition. -/
import Derived.Test.YtbceikkjogbgeaaAm35
import Derived.Test.YtbceikkjogbgeaaKv1
namespace Go.Proofs.Ytbceikkjogbgeaa
open Go.RowKit
set_option linter.all false
/-- Where a key stands, or would. -/
def findL (key : ByteArray) : List Pair → Int → Int × Bool
  | [], i => (i, false)
  | p :: ps, i => if ltb p.key key = true then findL key ps (i + 1) else (i, decide (p.key = key))
def findX (xs : List (List PD)) (key : ByteArray) : Int × Bool := findL key (pairsOf xs) 0
theorem findL_range (key : ByteArray) : ∀ (ps : List Pair) (i : Int), i ≤ (findL key ps i).1 ∧ (findL key ps i).1 ≤ i + ps.length ∧ ((findL key ps i).2 = true → (findL key ps i).1 < i + ps.length)
  | [], i => by simp [findL]
  | p :: ps, i => by
      unfold findL
      split
      · obtain ⟨a, b, c⟩ := findL_range key ps (i + 1)
        simp only [List.length_cons]
        exact ⟨by omega, by omega, fun h => by have := c h; omega⟩
      · simp only [List.length_cons]
        exact ⟨by omega, by omega, fun _ => by omega⟩
theorem pairsOf_length (xs : List (List PD)) : (pairsOf xs).length = xs.length := by simp [pairsOf]
theorem findX_range (xs : List (List PD)) (key : ByteArray) : 0 ≤ (findX xs key).1 ∧ (findX xs key).1 ≤ xs.length ∧ ((findX xs key).2 = true → (findX xs key).1 < xs.length) := by
  obtain ⟨a, b, c⟩ := findL_range key (pairsOf xs) 0
  rw [pairsOf_length] at b c
  unfold findX
  exact ⟨a, by omega, fun h => by have := c h; omega⟩
def getX (xs : List (List PD)) (key : ByteArray) : Pair := if (findX xs key).2 = true then rowP (xs.getD (findX xs key).1.toNat []) else ⟨none8, none8, 0⟩
def thereX (xs : List (List PD)) (key : ByteArray) : Bool := (findX xs key).2
def Pair.D (p : Pair) : DV := .agg [.d (.sc (.string p.key)), .d (.sc (.string p.value)), .d (.sc (.int .i64 p.version))]

structure FsP where
  find : List (List PD) → ByteArray → Int × Bool
  findR : List (List PD) → ByteArray → Int × Bool
  get : List (List PD) → ByteArray → Pair
  there : List (List PD) → ByteArray → Bool
  isP : List (List PD) → Prop
def FsP0 : FsP where
  find := findX
  findR := findX
  get := getX
  there := thereX
  isP := isP
set_option maxRecDepth 100000 in
theorem v_find (xs : List (List PD)) (key : ByteArray) (hp0 : FsP0.isP xs) : FnV Try.prog 24 [.d (.slc 3 xs), strD key] (.tup [intD (((findX xs key)).1), boolD (((findX xs key)).2)]) := by
  obtain ⟨ps, hxs, hl⟩ := hp0
  have hlen : xs.length = ps.length := by rw [hxs]; exact pairsX_length ps
  have hof : findX xs key = findL key ps 0 := by rw [findX, hxs, pairsOf_X ps]
  obtain ⟨n, hn⟩ : ∃ n : Int, n = ps.length := ⟨_, rfl⟩
  rw [hof]
  obtain ⟨q, hq⟩ : ∃ q, q = findL key ps 0 := ⟨_, rfl⟩
  rw [← hq]
  refine FnD_cbv (T := fun _ => tabY [13] []) (H := fun _ => []) (tabY_ok _ _) noK_ok follows_mixed Try.func24 rfl Try.ntmps24 (by simp) fun A X W hA hX hW => ?_
  cbv
  replace hn : n = (ps.length : Int) := hn
  refine loopL (T := fun _ => tabY [13] []) (H := fun _ => []) (tabY_ok _ _) noK_ok follows_mixed hA hX (fun x : Int => (0 ≤ x ∧ x ≤ n) ∧ q = findL key (ps.drop x.toNat) x)
    (fun x => [(0, .d (.slc 3 xs)), (1, .d (.sc (.string key))), (8, .d (.slc 3 xs)), (9, .d (.sc (.int .i64 n))), (10, .d (.sc (.int .i64 x)))]) (fun _ => [])
    (fun x => n.toNat - x.toNat) 0 ?_ ?_ ?_
  · exact ⟨⟨by omega, by omega⟩, hq⟩
  · subst hA; exact told_less (by simp [toldP, getS, A0, hn, hlen])
  rintro R i hR ⟨hi, i2⟩
  cbv
  repeat' first
    | (refine part (fun h => ?_) (fun h => ?_) <;> try cbv)
    | (refine And.intro ?_ ?_)
  all_goals subst hA hX hW hR
  all_goals simp only [A0, nc, decide_eq_true_eq, decide_eq_false_iff_not, Bool.not_eq_true', Bool.not_eq_false'] at *
  all_goals try replace hi : 0 ≤ i ∧ i ≤ n := hi
  all_goals replace hn : n = (ps.length : Int) := hn
  all_goals have ei : IntKind.wrap .i64 (i + 1) = i + 1 := wrap_i64 (by unfold r64; omega)
  all_goals try
    have hlt : i < ps.length := by omega
    have hrow := prow hxs hi.1 hlt
    have hd := pdrop hi.1 hlt
    generalize ps[i.toNat]'(by omega) = p at hrow hd
    rw [hd] at i2
    simp only [hrow, Pair.row, List.map_cons, List.map_nil, Nat.zero_add, List.getElem?_cons_zero, List.getElem?_cons_succ] at *
  all_goals first
    | rfl
    | (show Region.lexB _ _ = true; kernel_rfl)
    | (show turnsB _ = true; kernel_rfl)
    | omega
    | (refine ⟨by omega, by omega⟩)
    | (simp; done)
    | (intros; first | assumption | trivial | (simp_all; done))
    | (have hk : ltb p.key key = true := by assumption
       have hk2 : findL key (p :: ps.drop (i + 1).toNat) i = findL key (ps.drop (i + 1).toNat) (i + 1) := by rw [findL, if_pos hk]
       rw [hk2] at i2
       refine ⟨i + 1, ⟨⟨by omega, by omega⟩, i2⟩, by omega, told_keep [] rfl rfl ?_⟩
       simp [toldP, getS, pullD, ei]
       done)
    | (have hk : ltb p.key key = false := by assumption
       have hk2 : findL key (p :: ps.drop (i + 1).toNat) i = (i, decide (p.key = key)) := by rw [findL, if_neg (by simp [hk])]
       rw [hk2] at i2
       refine ret_v ?_ rfl
       rw [i2]
       rfl)
    | (rw [show i.toNat = ps.length by omega, List.drop_length] at i2
       refine ret_v ?_ rfl
       rw [i2]
       simp only [findL, hlen, boolD, intD]
       rw [show i = (ps.length : Int) by omega]
       done)
    | (refine ret_v ?_ rfl
       rw [show i.toNat = ps.length by omega, List.drop_length] at i2
       rw [i2]
       simp only [findL, boolD, intD]
       rw [show i = (xs.length : Int) by omega]
       done)
def kn_find (F : FsP) : FuncId × (List DV → RV) := (24, fun args => match args with
  | [.d (.slc 3 xs), .d (.sc (.string key))] => some ([F.isP xs], .tup [intD (((F.find xs key)).1), boolD (((F.find xs key)).2)])
  | [.d (.sc (.slice none 0 0)), .d (.sc (.string key))] => some ([F.isP []], .tup [intD (((F.find [] key)).1), boolD (((F.find [] key)).2)])
  | _ => none)
theorem ok_find (args : List DV) (cs : List Prop) (r : DV) (h : (kn_find FsP0).2 args = some (cs, r)) (hc : allP cs True) : FnV Try.prog 24 args r ∧ closedL 0 args = true := by
  unfold kn_find at h
  simp only at h
  split at h
  · cases h; exact ⟨v_find _ _ hc.1, rfl⟩
  · cases h; exact ⟨FnP.nils (v_find [] _ hc.1) ⟨.inr ⟨rfl, _, rfl⟩, ⟨.inl rfl, trivial⟩⟩, rfl⟩
  · cases h
end Go.Proofs.Ytbceikkjogbgeaa
