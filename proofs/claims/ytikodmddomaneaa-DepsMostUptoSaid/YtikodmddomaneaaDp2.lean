/- Attributes joined. No condition. -/
import Derived.Test.YtikodmddomaneaaDp1
namespace Go.Proofs.Ytikodmddomaneaa
open Go.RowKit
set_option linter.all false
set_option maxHeartbeats 4000000
def Attr.row (a : Attr) : List PD := [.sc (.int .i64 a.seq), .sc (.int .i64 a.d0), .sc (.int .i64 a.d1), .sc (.int .i64 a.d2), .sc (.int .i64 a.d3), .sc (.int .i64 a.d4), .sc (.int .i64 a.d5), .sc (.int .i64 a.d6)]
def attrsX (l : List Attr) : List (List PD) := l.map Attr.row
def rowA : List PD → Attr
  | [.sc (.int _ s), .sc (.int _ d0), .sc (.int _ d1), .sc (.int _ d2), .sc (.int _ d3), .sc (.int _ d4), .sc (.int _ d5), .sc (.int _ d6)] => ⟨s, d0, d1, d2, d3, d4, d5, d6⟩
  | _ => ⟨0, 0, 0, 0, 0, 0, 0, 0⟩
def attrsOf (xs : List (List PD)) : List Attr := xs.map rowA
theorem attrsOf_X (l : List Attr) : attrsOf (attrsX l) = l := by
  induction l with
  | nil => rfl
  | cons a l ih =>
    have : attrsOf (attrsX (a :: l)) = a :: attrsOf (attrsX l) := rfl
    rw [this, ih]
theorem attrsX_length (l : List Attr) : (attrsX l).length = l.length := by simp [attrsX]
theorem arow {xs : List (List PD)} {l : List Attr} (hxs : xs = attrsX l) {i : Int} (h0 : 0 ≤ i) (h1 : i < l.length) : xs.getD i.toNat [] = (l[i.toNat]'(by omega)).row := by
  subst hxs
  have : i.toNat < l.length := by omega
  simp [attrsX, List.getD_eq_getElem?_getD, this]
def rAttr (a : Attr) : Prop := r64 a.seq ∧ r64 a.d0 ∧ r64 a.d1 ∧ r64 a.d2 ∧ r64 a.d3 ∧ r64 a.d4 ∧ r64 a.d5 ∧ r64 a.d6
/-- A row of attributes. -/
def isAt (xs : List (List PD)) : Prop := ∃ l : List Attr, xs = attrsX l ∧ l.length ≤ 4194304 ∧ ∀ a ∈ l, rAttr a
theorem isAt.len {xs : List (List PD)} (h : isAt xs) : xs.length ≤ 4194304 := by obtain ⟨l, rfl, h, _⟩ := h; rw [attrsX_length]; exact h
theorem isAt.sz {xs : List (List PD)} (h : isAt xs) : ∀ x ∈ xs, x.length = 8 := by
  obtain ⟨l, rfl, _⟩ := h
  intro x hx
  simp only [attrsX, List.mem_map] at hx
  obtain ⟨_, _, rfl⟩ := hx
  rfl
def zeroA : Attr := ⟨0, 0, 0, 0, 0, 0, 0, 0⟩
def joinL : List Attr → Attr
  | [] => zeroA
  | a :: l => l.foldl joinA a
def joinX (xs : List (List PD)) : Attr := joinL (attrsOf xs)
theorem told_st3 {k : Nat} {s s' : SL} {st st' : Store} (h : st = st') (hs : toldP id s s') : Told k s st s' st' := by subst h; exact told_less hs
theorem fold_step {l : List Attr} {f : Attr} {i : Nat} (h : i < l.length) : (l.take (i + 1)).foldl joinA f = joinA ((l.take i).foldl joinA f) l[i] := by
  rw [List.take_succ_eq_append_getElem h, List.foldl_append]
  rfl

structure FsJ where
  join : List (List PD) → Attr
  isAt : List (List PD) → Prop
def FsJ0 : FsJ where
  join := joinX
  isAt := isAt
set_option maxRecDepth 100000 in
theorem v_join (xs : List (List PD)) (hp0 : FsJ0.isAt xs) : FnV Try.prog 13 [.d (.slc 8 xs)] (Attr.D ((joinX xs))) := by
  obtain ⟨l, hxs, hl, hr⟩ := hp0
  have hlen : xs.length = l.length := by rw [hxs]; exact attrsX_length l
  have hof : joinX xs = joinL l := by unfold joinX; rw [hxs, attrsOf_X]
  rw [hof]
  obtain ⟨J, hJ⟩ : ∃ J, J = joinL l := ⟨_, rfl⟩
  rw [← hJ]
  refine FnD_cbv (T := fun _ => tabY [13, 20, 5003] []) (H := fun _ => []) (tabY_ok _ _) noK_ok follows_mixed Try.func13 rfl Try.ntmps13 (by simp) fun A X W hA hX hW => ?_
  cbv
  have l0 : A.cmp .lss 0 7 = true := by subst hA; rfl
  cbv at l0
  have l1 : A.cmp .lss 1 7 = true := by subst hA; rfl
  cbv at l1
  have l2 : A.cmp .lss 2 7 = true := by subst hA; rfl
  cbv at l2
  have l3 : A.cmp .lss 3 7 = true := by subst hA; rfl
  cbv at l3
  have l4 : A.cmp .lss 4 7 = true := by subst hA; rfl
  cbv at l4
  have l5 : A.cmp .lss 5 7 = true := by subst hA; rfl
  cbv at l5
  have l6 : A.cmp .lss 6 7 = true := by subst hA; rfl
  cbv at l6
  have l7 : A.cmp .lss 7 7 = false := by subst hA; rfl
  cbv at l7
  have b0 : A.bin .add .i64 0 1 = 1 := by subst hA; rfl
  cbv at b0
  have b1 : A.bin .add .i64 1 1 = 2 := by subst hA; rfl
  cbv at b1
  have b2 : A.bin .add .i64 2 1 = 3 := by subst hA; rfl
  cbv at b2
  have b3 : A.bin .add .i64 3 1 = 4 := by subst hA; rfl
  cbv at b3
  have b4 : A.bin .add .i64 4 1 = 5 := by subst hA; rfl
  cbv at b4
  have b5 : A.bin .add .i64 5 1 = 6 := by subst hA; rfl
  cbv at b5
  have b6 : A.bin .add .i64 6 1 = 7 := by subst hA; rfl
  cbv at b6
  have o0_0 : A.off 0 0 1 = 0 := by subst hA; rfl
  cbv at o0_0
  have o0_1 : A.off 0 1 1 = 1 := by subst hA; rfl
  cbv at o0_1
  have o0_2 : A.off 0 2 1 = 2 := by subst hA; rfl
  cbv at o0_2
  have o0_3 : A.off 0 3 1 = 3 := by subst hA; rfl
  cbv at o0_3
  have o0_4 : A.off 0 4 1 = 4 := by subst hA; rfl
  cbv at o0_4
  have o0_5 : A.off 0 5 1 = 5 := by subst hA; rfl
  cbv at o0_5
  have o0_6 : A.off 0 6 1 = 6 := by subst hA; rfl
  cbv at o0_6
  refine part (fun h => ?_) (fun h => ?_)
  · cbv
    subst hA hX hW
    simp only [A0, nc, decide_eq_true_eq] at h
    refine ret_v ?_ rfl
    have : l = [] := List.eq_nil_of_length_eq_zero (by omega)
    subst this
    rw [hJ]
    rfl
  · cbv
    have hne : ¬ (xs.length : Int) = 0 := by
      subst hA
      simp only [A0, nc, decide_eq_false_iff_not] at h
      exact h
    rcases l with _ | ⟨f, l⟩
    · exact absurd (by simp [hlen]) hne
    have h0 : xs.getD 0 [] = f.row := by rw [hxs]; rfl
    replace hJ : J = l.foldl joinA f := hJ
    have hll : xs.length = l.length + 1 := by rw [hlen]; rfl
    obtain ⟨rs, hrs⟩ : ∃ rs, rs = xs.drop 1 := ⟨_, rfl⟩
    have hrx : rs = attrsX l := by rw [hrs, hxs]; rfl
    have hrl : rs.length = l.length := by rw [hrx]; exact attrsX_length l
    obtain ⟨n, hn⟩ : ∃ n : Int, n = l.length := ⟨_, rfl⟩
    refine And.intro ?_ (And.intro ?_ (And.intro ?_ ?_))
    · subst hA; simp only [A0, nc]; exact ⟨by omega, by omega⟩
    · subst hA; simp only [A0, nc, h0, Attr.row, Int.toNat_zero]; simp
    · subst hA; simp only [A0, nc]; replace hlen : (xs.length : Int) = ((f :: l).length : Nat) := by rw [hlen]
      have : (1 : Int) ≤ xs.length := by rw [hll]; omega
      exact ⟨by omega, this, Int.le_refl _⟩
    refine loopL (T := fun _ => tabY [13, 20, 5003] []) (H := fun _ => []) (tabY_ok _ _) noK_ok follows_mixed hA hX (fun x : Int × Attr => (0 ≤ x.1 ∧ x.1 ≤ n) ∧ x.2 = (l.take x.1.toNat).foldl joinA f)
      (fun x => [(2, .ref 0 0 0), (3, .ref 1 0 0), (16, .d (.slc 8 rs)), (17, .d (.sc (.int .i64 n))), (18, .d (.sc (.int .i64 x.1)))]) (fun x => [⟨25, [.d (.sc (.int .i64 0)), .d (.sc (.int .i64 0)), .d (.sc (.int .i64 0)), .d (.sc (.int .i64 0)), .d (.sc (.int .i64 0)), .d (.sc (.int .i64 0)), .d (.sc (.int .i64 0)), .d (.sc (.int .i64 0))], false, 0, true⟩, ⟨25, [.d (.sc (.int .i64 x.2.seq)), .d (.sc (.int .i64 x.2.d0)), .d (.sc (.int .i64 x.2.d1)), .d (.sc (.int .i64 x.2.d2)), .d (.sc (.int .i64 x.2.d3)), .d (.sc (.int .i64 x.2.d4)), .d (.sc (.int .i64 x.2.d5)), .d (.sc (.int .i64 x.2.d6))], false, 0, true⟩])
      (fun x => n.toNat - x.1.toNat) (0, f) ?_ ?_ ?_
    · exact ⟨⟨Int.le_refl 0, by show 0 ≤ n; omega⟩, rfl⟩
    · subst hA
      refine told_st3 ?_ ?_
      · simp only [A0, nc, h0, Attr.row, Int.toNat_zero, List.drop_zero, List.map_cons, List.map_nil, List.getElem?_cons_zero, List.getElem?_cons_succ, Nat.zero_add]
      · have e : List.take (((xs.length : Nat) : Int).toNat - Int.toNat 1) (List.drop (Int.toNat 1) xs) = rs := by
          rw [hrs, show Int.toNat 1 = 1 from rfl, Int.toNat_natCast]
          exact List.take_of_length_le (by rw [List.length_drop]; exact Nat.le_refl _)
        simp only [A0, nc, e]
        exact ⟨.inl rfl, .inl rfl, .inl rfl, .inl (by show _ = DV.d (.sc (.int .i64 _)); rw [hn, ← hrl]), .inl rfl, trivial⟩
    rintro R ⟨i, ⟨cs, c0, c1, c2, c3, c4, c5, c6⟩⟩ hR ⟨hi, hacc⟩
    replace hi : 0 ≤ i ∧ i ≤ n := hi
    cbv
    refine part (fun h2 => ?_) (fun h2 => ?_)
    · cbv
      repeat' first
        | (refine And.intro ?_ ?_)
        | (refine unrollL (T := fun _ => tabY [13, 20, 5003] []) (H := fun _ => []) (tabY_ok _ _) noK_ok follows_mixed hA hX 8 fun R2 hR2 => ?_)
        | (simp only [l0, l1, l2, l3, l4, l5, l6, l7, b0, b1, b2, b3, b4, b5, b6, o0_0, o0_1, o0_2, o0_3, o0_4, o0_5, o0_6]; cbv)
        | (refine hR2 _ _ _ ?_; cbv)
      all_goals try clear hR2
      all_goals clear l0 l1 l2 l3 l4 l5 l6 l7 b0 b1 b2 b3 b4 b5 b6 o0_0 o0_1 o0_2 o0_3 o0_4 o0_5 o0_6
      all_goals subst hA hX hW hR
      all_goals simp only [A0, nc, decide_eq_true_eq] at *
      all_goals replace hn : n = (l.length : Int) := hn
      all_goals replace hi : 0 ≤ i ∧ i ≤ n := hi
      all_goals
        have hlt : i < l.length := by omega
        have hrow := arow hrx hi.1 hlt
        have hst := fold_step (f := f) (i := i.toNat) (l := l) (by omega)
        generalize l[i.toNat]'(by omega) = p at *
        simp only [hrow, Attr.row, List.map_cons, List.map_nil, Nat.zero_add, List.getElem?_cons_zero, List.getElem?_cons_succ] at *
      all_goals first
        | omega
        | (simp; done)
        | (refine ⟨by omega, by omega⟩)
        | skip
      rw [← hacc] at hst
      have ei : IntKind.wrap .i64 (i + 1) = i + 1 := wrap_i64 (by unfold r64; omega)
      have e2 : (i + 1).toNat = i.toNat + 1 := by clear ei; omega
      refine ⟨(i + 1, joinA ⟨cs, c0, c1, c2, c3, c4, c5, c6⟩ p), ⟨⟨by show (0 : Int) ≤ i + 1; omega, by show i + 1 ≤ n; omega⟩, by show _ = (l.take (i + 1).toNat).foldl joinA f; rw [show (i + 1).toNat = i.toNat + 1 from e2, hst]⟩, by show n.toNat - (i + 1).toNat < n.toNat - i.toNat; omega, told_keep [0, 1] rfl ?_ ?_⟩
      · simp [keepSt, pullBox, pullL_eq, pullD, joinA]
      · exact ⟨.inl rfl, .inl rfl, .inl rfl, .inl rfl, .inl (congrArg (fun n => DV.d (.sc (.int .i64 n))) ei.symm), trivial⟩
    · cbv
      subst hA hX hW hR
      simp only [A0, nc, decide_eq_false_iff_not] at h2
      replace hn : n = (l.length : Int) := hn
      replace hi : 0 ≤ i ∧ i ≤ n := hi
      refine ret_v ?_ rfl
      have : i.toNat = l.length := by omega
      rw [this, List.take_length, ← hJ] at hacc
      rw [← hacc]
      rfl
def kn_join (F : FsJ) : FuncId × (List DV → RV) := (13, fun args => match args with
  | [.d (.slc 8 xs)] => some ([F.isAt xs], Attr.D ((F.join xs)))
  | [.d (.sc (.slice none 0 0))] => some ([F.isAt []], Attr.D ((F.join [])))
  | _ => none)
theorem ok_join (args : List DV) (cs : List Prop) (r : DV) (h : (kn_join FsJ0).2 args = some (cs, r)) (hc : allP cs True) : FnV Try.prog 13 args r ∧ closedL 0 args = true := by
  unfold kn_join at h
  simp only at h
  split at h
  · cases h; exact ⟨v_join _ hc.1, rfl⟩
  · cases h; exact ⟨FnP.nils (v_join [] hc.1) ⟨.inr ⟨rfl, _, rfl⟩, trivial⟩, rfl⟩
  · cases h
end Go.Proofs.Ytikodmddomaneaa
