/- Spans; the same pairs; the pairs that a span has. No condition. -/
import Derived.Test.YtbceikkjogbgeaaKv5
namespace Go.Proofs.Ytbceikkjogbgeaa
open Go.RowKit
set_option linter.all false

structure Span where
  lo : ByteArray
  hi : ByteArray
  deriving DecidableEq
def Span.D (x : Span) : DV := .agg [strD x.lo, strD x.hi]
def under (k h : ByteArray) : Bool := decide (h = none8) || ltb k h
def hasS (s : Span) (k : ByteArray) : Bool := !ltb k s.lo && under k s.hi
deriving instance DecidableEq for Pair
def sameX (xs ys : List (List PD)) : Bool := decide (pairsOf xs = pairsOf ys)
theorem pairsX_inj : ∀ {ps qs : List Pair}, pairsX ps = pairsX qs ↔ ps = qs
  | [], [] => by simp [pairsX]
  | [], q :: qs => by simp [pairsX]
  | p :: ps, [] => by simp [pairsX]
  | ⟨a, b, c⟩ :: ps, ⟨d, e, f⟩ :: qs => by
      have := @pairsX_inj ps qs
      simp only [pairsX, List.map_cons, List.cons.injEq, Pair.row, Pair.mk.injEq] at this ⊢
      simp [this, and_assoc]

structure FsS where
  under : ByteArray → ByteArray → Bool
  has : Span → ByteArray → Bool
  same : List (List PD) → List (List PD) → Bool
  isP : List (List PD) → Prop
def FsS0 : FsS where
  under := under
  has := hasS
  same := sameX
  isP := isP
set_option maxRecDepth 100000 in
theorem v_under (k : ByteArray) (h : ByteArray) : FnV Try.prog 28 [strD k, strD h] (boolD ((under k h))) := by
  refine FnD_cbv (T := fun _ => tabY [] []) (H := fun _ => []) (tabY_ok _ _) noK_ok follows_mixed Try.func28 rfl Try.ntmps28 (by simp) fun A X W hA hX hW => ?_
  cbv
  repeat' first
    | (refine part (fun h => ?_) (fun h => ?_) <;> try cbv)
    | (refine And.intro ?_ ?_)
  all_goals subst hA hX hW
  all_goals try (show Region.lexB _ _ = true; kernel_rfl)
  all_goals try (show turnsB _ = true; kernel_rfl)
  all_goals simp only [A0, FsS0, decide_eq_true_eq, decide_eq_false_iff_not, Bool.not_eq_true', Bool.not_eq_false'] at *
  all_goals first
    | (refine ret_v ?_ rfl
       first
         | rfl
         | (simp_all [under, boolD, intD, strD]; done)
         | (simp_all [under, boolD, intD, strD]; rfl)
         | (simp only [under, boolD, intD, strD] at *; congr 3; grind)
         | (simp only [under, boolD, intD, strD] at *; grind))
    | (intros; simp_all [bytes1, maxLen]; done)
    | (intros; simp only [bytes1, maxLen] at *; omega)
    | grind
def kn_under (F : FsS) : FuncId × (List DV → RV) := (28, fun args => match args with
  | [.d (.sc (.string k)), .d (.sc (.string h))] => some ([], boolD ((F.under k h)))
  | _ => none)
theorem ok_under (args : List DV) (cs : List Prop) (r : DV) (h : (kn_under FsS0).2 args = some (cs, r)) (hc : allP cs True) : FnV Try.prog 28 args r ∧ closedL 0 args = true := by
  unfold kn_under at h
  simp only at h
  split at h
  · cases h; exact ⟨v_under _ _, rfl⟩
  · cases h
set_option maxRecDepth 100000 in
theorem v_has (s : Span) (k : ByteArray) : FnV Try.prog 15 [Span.D s, strD k] (boolD ((hasS s k))) := by
  obtain ⟨s_lo, s_hi⟩ := s
  obtain ⟨F, hF⟩ : ∃ F, F = FsS0 := ⟨_, rfl⟩
  have hH : SoundK Try.prog [kn_under F] := by subst hF; exact orK_ok ok_under noK_ok
  refine FnD_cbv (T := fun _ => tabY [] []) (H := fun _ => [kn_under F]) (tabY_ok _ _) hH follows_mixed Try.func15 rfl Try.ntmps15 (by simp) fun A X W hA hX hW => ?_
  clear hH
  cbv
  repeat' first
    | (refine part (fun h => ?_) (fun h => ?_) <;> try cbv)
    | (refine And.intro ?_ ?_)
  all_goals subst hA hX hW hF
  all_goals try (show Region.lexB _ _ = true; kernel_rfl)
  all_goals try (show turnsB _ = true; kernel_rfl)
  all_goals simp only [A0, FsS0, decide_eq_true_eq, decide_eq_false_iff_not, Bool.not_eq_true', Bool.not_eq_false'] at *
  all_goals first
    | (refine ret_v ?_ rfl
       first
         | rfl
         | (simp_all [hasS, Span.D, boolD, intD, strD]; done)
         | (simp_all [hasS, Span.D, boolD, intD, strD]; rfl)
         | (simp only [hasS, Span.D, boolD, intD, strD] at *; congr 3; grind)
         | (simp only [hasS, Span.D, boolD, intD, strD] at *; grind))
    | (intros; simp_all [bytes1, maxLen]; done)
    | (intros; simp only [bytes1, maxLen] at *; omega)
    | grind
def kn_has (F : FsS) : FuncId × (List DV → RV) := (15, fun args => match args with
  | [.agg [.d (.sc (.string s_lo)), .d (.sc (.string s_hi))], .d (.sc (.string k))] => some ([], boolD ((F.has ⟨s_lo, s_hi⟩ k)))
  | _ => none)
theorem ok_has (args : List DV) (cs : List Prop) (r : DV) (h : (kn_has FsS0).2 args = some (cs, r)) (hc : allP cs True) : FnV Try.prog 15 args r ∧ closedL 0 args = true := by
  unfold kn_has at h
  simp only at h
  split at h
  · cases h; exact ⟨v_has ⟨_, _⟩ _, rfl⟩
  · cases h
set_option maxRecDepth 100000 in
theorem v_same (xs : List (List PD)) (ys : List (List PD)) (hp0 : FsS0.isP xs) (hp1 : FsS0.isP ys) : FnV Try.prog 13 [.d (.slc 3 xs), .d (.slc 3 ys)] (boolD ((sameX xs ys))) := by
  obtain ⟨ps, hxs, hb⟩ := hp0
  obtain ⟨qs, hys, hd⟩ := hp1
  have hlx : xs.length = ps.length := by rw [hxs]; exact pairsX_length ps
  have hly : ys.length = qs.length := by rw [hys]; exact pairsX_length qs
  have heq : xs = ys ↔ ps = qs := by rw [hxs, hys]; exact pairsX_inj
  have hsame : sameX xs ys = decide (ps = qs) := by unfold sameX; rw [hxs, hys, pairsOf_X, pairsOf_X]
  rw [hsame]
  obtain ⟨sm, hsm⟩ : ∃ sm, sm = decide (ps = qs) := ⟨_, rfl⟩
  rw [← hsm]
  refine FnD_cbv (T := fun _ => tabY [19, 23] []) (H := fun _ => []) (tabY_ok _ _) noK_ok follows_mixed Try.func13 rfl Try.ntmps13 (by simp) fun A X W hA hX hW => ?_
  cbv
  refine part (fun h => ?_) (fun h => ?_)
  · cbv
    subst hA hX hW
    simp only [A0] at h
    refine ret_v ?_ rfl
    have hne : ¬ ps = qs := by
      intro e
      have e2 := heq.2 e
      subst e2
      simp at h
    subst hsm
    simp [boolD, hne]
  · cbv
    refine loopL (T := fun _ => tabY [19, 23] []) (H := fun _ => []) (tabY_ok _ _) noK_ok follows_mixed hA hX (fun i : Int => 0 ≤ i ∧ i ≤ ps.length ∧ ps.take i.toNat = qs.take i.toNat)
      (fun i => [(0, .d (.slc 3 xs)), (1, .d (.slc 3 ys)), (5, .d (.sc (.int .i64 i)))]) (fun _ => [])
      (fun i => (ps.length : Int).toNat - i.toNat) 0 ?_ ?_ ?_
    · exact ⟨by omega, by omega, by simp⟩
    · exact told_less (by simp [toldP, getS])
    rintro R i hR ⟨i0, i1, i2⟩
    cbv
    have hlen : ps.length = qs.length := by
      subst hA
      simp only [A0] at h
      simp only [Bool.not_eq_false', decide_eq_true_eq] at h
      omega
    repeat' first
      | (refine part (fun h => ?_) (fun h => ?_) <;> try cbv)
      | (refine And.intro ?_ ?_)
    all_goals subst hA hX hW hR
    all_goals simp only [A0, nc, decide_eq_true_eq, decide_eq_false_iff_not, Bool.not_eq_true', Bool.not_eq_false'] at *
    all_goals replace i1 : i ≤ (ps.length : Int) := i1
    all_goals have ei : IntKind.wrap .i64 (i + 1) = i + 1 := wrap_i64 (by unfold r64; omega)
    all_goals try
      have hi : i < ps.length := by omega
      have hj : i.toNat < ps.length := by omega
      have hj2 : i.toNat < qs.length := by omega
      have hrx := prow hxs i0 hi
      have hry := prow hys i0 (by omega)
      have ht1 := List.take_succ_eq_append_getElem hj
      have ht2 := List.take_succ_eq_append_getElem hj2
      have hg1 : ps[i.toNat]? = some (ps[i.toNat]'(by omega)) := List.getElem?_eq_getElem hj
      have hg2 : qs[i.toNat]? = some (qs[i.toNat]'(by omega)) := List.getElem?_eq_getElem hj2
      generalize ps[i.toNat]'(by omega) = p at hrx ht1 hg1
      generalize qs[i.toNat]'(by omega) = q at hry ht2 hg2
      simp only [hrx, hry, Pair.row, List.map_cons, List.map_nil, Nat.zero_add, List.getElem?_cons_zero, List.getElem?_cons_succ] at *
    all_goals first
      | rfl
      | (show Region.lexB _ _ = true; kernel_rfl)
      | (show turnsB _ = true; kernel_rfl)
      | omega
      | (refine ⟨by omega, by omega⟩)
      | (simp; done)
      | (have h4 := ‹(decide (p.key = q.key) && (decide (p.value = q.value) && (decide (p.version = q.version) && true))) = false›
         refine ret_v ?_ rfl
         have hne : ¬ ps = qs := by
           intro e
           subst e
           rw [hg1] at hg2
           cases hg2
           simp at h4
         subst hsm
         simp [boolD, hne]
         done)
      | (have h4 := ‹(decide (p.key = q.key) && (decide (p.value = q.value) && (decide (p.version = q.version) && true))) = true›
         have he : p = q := by
           simp only [Bool.and_true, Bool.and_eq_true, decide_eq_true_eq] at h4
           obtain ⟨a, b, c⟩ := p
           obtain ⟨d, e, f⟩ := q
           simp only at h4
           obtain ⟨rfl, rfl, rfl⟩ := h4
           rfl
         refine ⟨i + 1, ⟨by omega, by omega, ?_⟩, ?_, told_less ?_⟩
         · rw [show (i + 1).toNat = i.toNat + 1 by omega, ht1, ht2, i2, he]
         · simp only [Int.toNat_natCast]
           omega
         · simp [toldP, getS, ei])
      | (replace h : ¬ i < (xs.length : Int) := h
         refine ret_v ?_ rfl
         have hil : i.toNat = ps.length := by omega
         rw [hil, List.take_length] at i2
         have e : ps = qs := by rw [i2, hlen, List.take_length]
         subst hsm
         simp [boolD, e])
def kn_same (F : FsS) : FuncId × (List DV → RV) := (13, fun args => match args with
  | [.d (.slc 3 xs), .d (.slc 3 ys)] => some ([F.isP xs, F.isP ys], boolD ((F.same xs ys)))
  | [.d (.sc (.slice none 0 0)), .d (.slc 3 ys)] => some ([F.isP [], F.isP ys], boolD ((F.same [] ys)))
  | [.d (.slc 3 xs), .d (.sc (.slice none 0 0))] => some ([F.isP xs, F.isP []], boolD ((F.same xs [])))
  | [.d (.sc (.slice none 0 0)), .d (.sc (.slice none 0 0))] => some ([F.isP [], F.isP []], boolD ((F.same [] [])))
  | _ => none)
theorem ok_same (args : List DV) (cs : List Prop) (r : DV) (h : (kn_same FsS0).2 args = some (cs, r)) (hc : allP cs True) : FnV Try.prog 13 args r ∧ closedL 0 args = true := by
  unfold kn_same at h
  simp only at h
  split at h
  · cases h; exact ⟨v_same _ _ hc.1 hc.2.1, rfl⟩
  · cases h; exact ⟨FnP.nils (v_same [] _ hc.1 hc.2.1) ⟨.inr ⟨rfl, _, rfl⟩, ⟨.inl rfl, trivial⟩⟩, rfl⟩
  · cases h; exact ⟨FnP.nils (v_same _ [] hc.1 hc.2.1) ⟨.inl rfl, ⟨.inr ⟨rfl, _, rfl⟩, trivial⟩⟩, rfl⟩
  · cases h; exact ⟨FnP.nils (v_same [] [] hc.1 hc.2.1) ⟨.inr ⟨rfl, _, rfl⟩, ⟨.inr ⟨rfl, _, rfl⟩, trivial⟩⟩, rfl⟩
  · cases h
end Go.Proofs.Ytbceikkjogbgeaa
