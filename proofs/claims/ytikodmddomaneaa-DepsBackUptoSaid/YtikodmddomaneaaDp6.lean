/- The same instances, the same attributes; chapter 7's runs. No condition. -/
import Derived.Test.YtikodmddomaneaaDp5
import Derived.Test.YtikodmddomaneaaRegF
namespace Go.Proofs.Ytikodmddomaneaa
open Go.RowKit
set_option linter.all false
set_option maxHeartbeats 4000000
def rowI : List PD → Inst
  | [.sc (.int _ r), .sc (.int _ s)] => ⟨r, s⟩
  | _ => ⟨0, 0⟩
def instsOf (xs : List (List PD)) : List Inst := xs.map rowI
theorem instsOf_X (l : List Inst) : instsOf (instsX l) = l := by
  induction l with
  | nil => rfl
  | cons a l ih =>
    have : instsOf (instsX (a :: l)) = a :: instsOf (instsX l) := rfl
    rw [this, ih]
theorem instsX_inj {a b : List Inst} : instsX a = instsX b ↔ a = b := ⟨fun h => by rw [← instsOf_X a, h, instsOf_X], fun h => by rw [h]⟩
theorem irow {xs : List (List PD)} {l : List Inst} (hxs : xs = instsX l) {i : Int} (h0 : 0 ≤ i) (h1 : i < l.length) : xs.getD i.toNat [] = (l[i.toNat]'(by omega)).row := by
  subst hxs
  have : i.toNat < l.length := by omega
  simp [instsX, List.getD_eq_getElem?_getD, this]
def sameI (xs ys : List (List PD)) : Bool := decide (instsOf xs = instsOf ys)
theorem attrsX_inj {a b : List Attr} : attrsX a = attrsX b ↔ a = b := ⟨fun h => by rw [← attrsOf_X a, h, attrsOf_X], fun h => by rw [h]⟩
def sameA (xs ys : List (List PD)) : Bool := decide (attrsOf xs = attrsOf ys)

structure FsQ where
  sameI : List (List PD) → List (List PD) → Bool
  sameA : List (List PD) → List (List PD) → Bool
  isIn : List (List PD) → Prop
  isAt : List (List PD) → Prop
def FsQ0 : FsQ where
  sameI := sameI
  sameA := sameA
  isIn := isIn
  isAt := isAt
set_option maxRecDepth 100000 in
theorem v_sameI (xs : List (List PD)) (ys : List (List PD)) (hp0 : FsQ0.isIn xs) (hp1 : FsQ0.isIn ys) : FnV Try.prog 15 [.d (.slc 2 xs), .d (.slc 2 ys)] (boolD ((sameI xs ys))) := by
  obtain ⟨ps, hxs, hb⟩ := hp0
  obtain ⟨qs, hys, hd⟩ := hp1
  have hlx : xs.length = ps.length := by rw [hxs]; exact instsX_length ps
  have hly : ys.length = qs.length := by rw [hys]; exact instsX_length qs
  have heq : xs = ys ↔ ps = qs := by rw [hxs, hys]; exact instsX_inj
  have hsame : sameI xs ys = decide (ps = qs) := by unfold sameI; rw [hxs, hys, instsOf_X, instsOf_X]
  rw [hsame]
  obtain ⟨sm, hsm⟩ : ∃ sm, sm = decide (ps = qs) := ⟨_, rfl⟩
  rw [← hsm]
  refine FnD_cbv (T := fun _ => tabY [19, 23] []) (H := fun _ => []) (tabY_ok _ _) noK_ok follows_mixed Try.func15 rfl Try.ntmps15 (by simp) fun A X W hA hX hW => ?_
  cbv
  refine part (fun h => ?_) (fun h => ?_)
  · cbv
    subst hA hX hW
    simp only [A0] at h
    refine ret_v ?_ rfl
    have hne : ¬ ps = qs := by
      intro e
      have e2 := heq.2 e
      subst e2
      simp at h
    subst hsm
    simp [boolD, hne]
  · cbv
    refine loopL (T := fun _ => tabY [19, 23] []) (H := fun _ => []) (tabY_ok _ _) noK_ok follows_mixed hA hX (fun i : Int => 0 ≤ i ∧ i ≤ ps.length ∧ ps.take i.toNat = qs.take i.toNat)
      (fun i => [(0, .d (.slc 2 xs)), (1, .d (.slc 2 ys)), (5, .d (.sc (.int .i64 i)))]) (fun _ => [])
      (fun i => (ps.length : Int).toNat - i.toNat) 0 ?_ ?_ ?_
    · exact ⟨by omega, by omega, by simp⟩
    · exact told_less (by simp [toldP, getS])
    rintro R i hR ⟨i0, i1, i2⟩
    cbv
    have hlen : ps.length = qs.length := by
      subst hA
      simp only [A0] at h
      simp only [Bool.not_eq_false', decide_eq_true_eq] at h
      omega
    repeat' first
      | (refine part (fun h => ?_) (fun h => ?_) <;> try cbv)
      | (refine And.intro ?_ ?_)
    all_goals subst hA hX hW hR
    all_goals simp only [A0, nc, decide_eq_true_eq, decide_eq_false_iff_not, Bool.not_eq_true', Bool.not_eq_false'] at *
    all_goals replace i1 : i ≤ (ps.length : Int) := i1
    all_goals replace hb : ps.length ≤ 4194304 := by first | exact hb | exact hb.1
    all_goals have ei : IntKind.wrap .i64 (i + 1) = i + 1 := wrap_i64 (by unfold r64; omega)
    all_goals try
      have hi : i < ps.length := by omega
      have hj : i.toNat < ps.length := by omega
      have hj2 : i.toNat < qs.length := by omega
      have hrx := irow hxs i0 hi
      have hry := irow hys i0 (by omega)
      have ht1 := List.take_succ_eq_append_getElem hj
      have ht2 := List.take_succ_eq_append_getElem hj2
      have hg1 : ps[i.toNat]? = some (ps[i.toNat]'(by omega)) := List.getElem?_eq_getElem hj
      have hg2 : qs[i.toNat]? = some (qs[i.toNat]'(by omega)) := List.getElem?_eq_getElem hj2
      generalize ps[i.toNat]'(by omega) = p at hrx ht1 hg1
      generalize qs[i.toNat]'(by omega) = q at hry ht2 hg2
      simp only [hrx, hry, Inst.row, List.map_cons, List.map_nil, Nat.zero_add, List.getElem?_cons_zero, List.getElem?_cons_succ] at *
    all_goals first
      | rfl
      | (show Region.lexB _ _ = true; kernel_rfl)
      | (show turnsB _ = true; kernel_rfl)
      | omega
      | (refine ⟨by omega, by omega⟩)
      | (simp; done)
      | (have h4 := ‹(decide (p.replica = q.replica) && (decide (p.slot = q.slot) && true)) = false›
         refine ret_v ?_ rfl
         have hne : ¬ ps = qs := by
           intro e
           subst e
           rw [hg1] at hg2
           cases hg2
           simp at h4
         subst hsm
         simp [boolD, hne]
         done)
      | (have h4 := ‹(decide (p.replica = q.replica) && (decide (p.slot = q.slot) && true)) = true›
         have he : p = q := by
           simp only [Bool.and_true, Bool.and_eq_true, decide_eq_true_eq] at h4
           obtain ⟨a0, a1⟩ := p
           obtain ⟨c0, c1⟩ := q
           simp only at h4
           simp [h4]
         refine ⟨i + 1, ⟨by omega, by omega, ?_⟩, ?_, told_less ?_⟩
         · rw [show (i + 1).toNat = i.toNat + 1 by omega, ht1, ht2, i2, he]
         · simp only [Int.toNat_natCast]
           omega
         · simp [toldP, getS, ei])
      | (replace h : ¬ i < (xs.length : Int) := h
         refine ret_v ?_ rfl
         have hil : i.toNat = ps.length := by omega
         rw [hil, List.take_length] at i2
         have e : ps = qs := by rw [i2, hlen, List.take_length]
         subst hsm
         simp [boolD, e])
def kn_sameI (F : FsQ) : FuncId × (List DV → RV) := (15, fun args => match args with
  | [.d (.slc 2 xs), .d (.slc 2 ys)] => some ([F.isIn xs, F.isIn ys], boolD ((F.sameI xs ys)))
  | [.d (.sc (.slice none 0 0)), .d (.slc 2 ys)] => some ([F.isIn [], F.isIn ys], boolD ((F.sameI [] ys)))
  | [.d (.slc 2 xs), .d (.sc (.slice none 0 0))] => some ([F.isIn xs, F.isIn []], boolD ((F.sameI xs [])))
  | [.d (.sc (.slice none 0 0)), .d (.sc (.slice none 0 0))] => some ([F.isIn [], F.isIn []], boolD ((F.sameI [] [])))
  | _ => none)
theorem ok_sameI (args : List DV) (cs : List Prop) (r : DV) (h : (kn_sameI FsQ0).2 args = some (cs, r)) (hc : allP cs True) : FnV Try.prog 15 args r ∧ closedL 0 args = true := by
  unfold kn_sameI at h
  simp only at h
  split at h
  · cases h; exact ⟨v_sameI _ _ hc.1 hc.2.1, rfl⟩
  · cases h; exact ⟨FnP.nils (v_sameI [] _ hc.1 hc.2.1) ⟨.inr ⟨rfl, _, rfl⟩, ⟨.inl rfl, trivial⟩⟩, rfl⟩
  · cases h; exact ⟨FnP.nils (v_sameI _ [] hc.1 hc.2.1) ⟨.inl rfl, ⟨.inr ⟨rfl, _, rfl⟩, trivial⟩⟩, rfl⟩
  · cases h; exact ⟨FnP.nils (v_sameI [] [] hc.1 hc.2.1) ⟨.inr ⟨rfl, _, rfl⟩, ⟨.inr ⟨rfl, _, rfl⟩, trivial⟩⟩, rfl⟩
  · cases h
set_option maxRecDepth 100000 in
theorem v_sameA (xs : List (List PD)) (ys : List (List PD)) (hp0 : FsQ0.isAt xs) (hp1 : FsQ0.isAt ys) : FnV Try.prog 33 [.d (.slc 8 xs), .d (.slc 8 ys)] (boolD ((sameA xs ys))) := by
  obtain ⟨ps, hxs, hb⟩ := hp0
  obtain ⟨qs, hys, hd⟩ := hp1
  have hlx : xs.length = ps.length := by rw [hxs]; exact attrsX_length ps
  have hly : ys.length = qs.length := by rw [hys]; exact attrsX_length qs
  have heq : xs = ys ↔ ps = qs := by rw [hxs, hys]; exact attrsX_inj
  have hsame : sameA xs ys = decide (ps = qs) := by unfold sameA; rw [hxs, hys, attrsOf_X, attrsOf_X]
  rw [hsame]
  obtain ⟨sm, hsm⟩ : ∃ sm, sm = decide (ps = qs) := ⟨_, rfl⟩
  rw [← hsm]
  refine FnD_cbv (T := fun _ => tabY [19, 23] []) (H := fun _ => []) (tabY_ok _ _) noK_ok follows_mixed Try.func33 rfl Try.ntmps33 (by simp) fun A X W hA hX hW => ?_
  cbv
  refine part (fun h => ?_) (fun h => ?_)
  · cbv
    subst hA hX hW
    simp only [A0] at h
    refine ret_v ?_ rfl
    have hne : ¬ ps = qs := by
      intro e
      have e2 := heq.2 e
      subst e2
      simp at h
    subst hsm
    simp [boolD, hne]
  · cbv
    refine loopL (T := fun _ => tabY [19, 23] []) (H := fun _ => []) (tabY_ok _ _) noK_ok follows_mixed hA hX (fun i : Int => 0 ≤ i ∧ i ≤ ps.length ∧ ps.take i.toNat = qs.take i.toNat)
      (fun i => [(0, .d (.slc 8 xs)), (1, .d (.slc 8 ys)), (5, .d (.sc (.int .i64 i)))]) (fun _ => [])
      (fun i => (ps.length : Int).toNat - i.toNat) 0 ?_ ?_ ?_
    · exact ⟨by omega, by omega, by simp⟩
    · exact told_less (by simp [toldP, getS])
    rintro R i hR ⟨i0, i1, i2⟩
    cbv
    have hlen : ps.length = qs.length := by
      subst hA
      simp only [A0] at h
      simp only [Bool.not_eq_false', decide_eq_true_eq] at h
      omega
    repeat' first
      | (refine part (fun h => ?_) (fun h => ?_) <;> try cbv)
      | (refine And.intro ?_ ?_)
    all_goals subst hA hX hW hR
    all_goals simp only [A0, nc, decide_eq_true_eq, decide_eq_false_iff_not, Bool.not_eq_true', Bool.not_eq_false'] at *
    all_goals replace i1 : i ≤ (ps.length : Int) := i1
    all_goals replace hb : ps.length ≤ 4194304 := by first | exact hb | exact hb.1
    all_goals have ei : IntKind.wrap .i64 (i + 1) = i + 1 := wrap_i64 (by unfold r64; omega)
    all_goals try
      have hi : i < ps.length := by omega
      have hj : i.toNat < ps.length := by omega
      have hj2 : i.toNat < qs.length := by omega
      have hrx := arow hxs i0 hi
      have hry := arow hys i0 (by omega)
      have ht1 := List.take_succ_eq_append_getElem hj
      have ht2 := List.take_succ_eq_append_getElem hj2
      have hg1 : ps[i.toNat]? = some (ps[i.toNat]'(by omega)) := List.getElem?_eq_getElem hj
      have hg2 : qs[i.toNat]? = some (qs[i.toNat]'(by omega)) := List.getElem?_eq_getElem hj2
      generalize ps[i.toNat]'(by omega) = p at hrx ht1 hg1
      generalize qs[i.toNat]'(by omega) = q at hry ht2 hg2
      simp only [hrx, hry, Attr.row, List.map_cons, List.map_nil, Nat.zero_add, List.getElem?_cons_zero, List.getElem?_cons_succ] at *
    all_goals first
      | rfl
      | (show Region.lexB _ _ = true; kernel_rfl)
      | (show turnsB _ = true; kernel_rfl)
      | omega
      | (refine ⟨by omega, by omega⟩)
      | (simp; done)
      | (have h4 := ‹(decide (p.seq = q.seq) && (decide (p.d0 = q.d0) && (decide (p.d1 = q.d1) && (decide (p.d2 = q.d2) && (decide (p.d3 = q.d3) && (decide (p.d4 = q.d4) && (decide (p.d5 = q.d5) && (decide (p.d6 = q.d6) && true)))))))) = false›
         refine ret_v ?_ rfl
         have hne : ¬ ps = qs := by
           intro e
           subst e
           rw [hg1] at hg2
           cases hg2
           simp at h4
         subst hsm
         simp [boolD, hne]
         done)
      | (have h4 := ‹(decide (p.seq = q.seq) && (decide (p.d0 = q.d0) && (decide (p.d1 = q.d1) && (decide (p.d2 = q.d2) && (decide (p.d3 = q.d3) && (decide (p.d4 = q.d4) && (decide (p.d5 = q.d5) && (decide (p.d6 = q.d6) && true)))))))) = true›
         have he : p = q := by
           simp only [Bool.and_true, Bool.and_eq_true, decide_eq_true_eq] at h4
           obtain ⟨a0, a1, a2, a3, a4, a5, a6, a7⟩ := p
           obtain ⟨c0, c1, c2, c3, c4, c5, c6, c7⟩ := q
           simp only at h4
           simp [h4]
         refine ⟨i + 1, ⟨by omega, by omega, ?_⟩, ?_, told_less ?_⟩
         · rw [show (i + 1).toNat = i.toNat + 1 by omega, ht1, ht2, i2, he]
         · simp only [Int.toNat_natCast]
           omega
         · simp [toldP, getS, ei])
      | (replace h : ¬ i < (xs.length : Int) := h
         refine ret_v ?_ rfl
         have hil : i.toNat = ps.length := by omega
         rw [hil, List.take_length] at i2
         have e : ps = qs := by rw [i2, hlen, List.take_length]
         subst hsm
         simp [boolD, e])
def kn_sameA (F : FsQ) : FuncId × (List DV → RV) := (33, fun args => match args with
  | [.d (.slc 8 xs), .d (.slc 8 ys)] => some ([F.isAt xs, F.isAt ys], boolD ((F.sameA xs ys)))
  | [.d (.sc (.slice none 0 0)), .d (.slc 8 ys)] => some ([F.isAt [], F.isAt ys], boolD ((F.sameA [] ys)))
  | [.d (.slc 8 xs), .d (.sc (.slice none 0 0))] => some ([F.isAt xs, F.isAt []], boolD ((F.sameA xs [])))
  | [.d (.sc (.slice none 0 0)), .d (.sc (.slice none 0 0))] => some ([F.isAt [], F.isAt []], boolD ((F.sameA [] [])))
  | _ => none)
theorem ok_sameA (args : List DV) (cs : List Prop) (r : DV) (h : (kn_sameA FsQ0).2 args = some (cs, r)) (hc : allP cs True) : FnV Try.prog 33 args r ∧ closedL 0 args = true := by
  unfold kn_sameA at h
  simp only at h
  split at h
  · cases h; exact ⟨v_sameA _ _ hc.1 hc.2.1, rfl⟩
  · cases h; exact ⟨FnP.nils (v_sameA [] _ hc.1 hc.2.1) ⟨.inr ⟨rfl, _, rfl⟩, ⟨.inl rfl, trivial⟩⟩, rfl⟩
  · cases h; exact ⟨FnP.nils (v_sameA _ [] hc.1 hc.2.1) ⟨.inl rfl, ⟨.inr ⟨rfl, _, rfl⟩, trivial⟩⟩, rfl⟩
  · cases h; exact ⟨FnP.nils (v_sameA [] [] hc.1 hc.2.1) ⟨.inr ⟨rfl, _, rfl⟩, ⟨.inr ⟨rfl, _, rfl⟩, trivial⟩⟩, rfl⟩
  · cases h
end Go.Proofs.Ytikodmddomaneaa
