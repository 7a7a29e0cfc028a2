/- Pairs and replies: what the functions give. No condition. -/
import Derived.Test.YtjlbdfehkbcmfaaOrd
import Derived.Test.YtjlbdfehkbcmfaaAm31
import Derived.Test.YtjlbdfehkbcmfaaTy
namespace Go.Proofs.Ytjlbdfehkbcmfaa
open Go.RowKit
set_option linter.all false
abbrev none8 : ByteArray := { data := #[] }
structure Pair where
  key : ByteArray
  value : ByteArray
  version : Int
def Pair.row (p : Pair) : List PD := [.sc (.string p.key), .sc (.string p.value), .sc (.int .i64 p.version)]
def pairsX (ps : List Pair) : List (List PD) := ps.map Pair.row
def isP (xs : List (List PD)) : Prop := ∃ ps, xs = pairsX ps ∧ ps.length ≤ 4194304
theorem isP.len {xs : List (List PD)} (h : isP xs) : xs.length ≤ 4194304 := by obtain ⟨ps, rfl, h⟩ := h; simpa [pairsX] using h
theorem isP.sz {xs : List (List PD)} (h : isP xs) : ∀ x ∈ xs, x.length = 3 := by
  obtain ⟨ps, rfl, h⟩ := h
  intro x hx
  simp only [pairsX, List.mem_map] at hx
  obtain ⟨_, _, rfl⟩ := hx
  rfl
theorem isP.nil : isP [] := ⟨[], rfl, by decide⟩
structure Reply where
  why : Int
  found : Bool
  value : ByteArray
  version : Int
  pairs : List (List PD)
def Reply.D (x : Reply) : DV := .agg [.d (.sc (.int .i64 x.why)), .d (.sc (.bool x.found)), .d (.sc (.string x.value)), .d (.sc (.int .i64 x.version)), .d (.slc 3 x.pairs)]
def r64 (n : Int) : Prop := -9223372036854775808 ≤ n ∧ n ≤ 9223372036854775807
theorem wrap_i64 {a : Int} (h : r64 a) : IntKind.wrap .i64 a = a := by
  unfold r64 at h
  simp only [IntKind.wrap, IntKind.bits, IntKind.signed]
  simp
  omega
instance : Inhabited Pair := ⟨⟨none8, none8, 0⟩⟩
def rowP : List PD → Pair
  | [.sc (.string k), .sc (.string v), .sc (.int _ n)] => ⟨k, v, n⟩
  | _ => ⟨none8, none8, 0⟩
def pairsOf (xs : List (List PD)) : List Pair := xs.map rowP
theorem pairsOf_X (ps : List Pair) : pairsOf (pairsX ps) = ps := by
  induction ps with
  | nil => rfl
  | cons p ps ih =>
    have : pairsOf (pairsX (p :: ps)) = p :: pairsOf (pairsX ps) := rfl
    rw [this, ih]
def okP1 (last : ByteArray) (p : Pair) : Bool := ltb last p.key && decide (p.key.size ≤ 16) && decide (p.value.size ≤ 64) && decide (1 ≤ p.version)
def riseP : ByteArray → List Pair → Bool
  | _, [] => true
  | last, p :: ps => okP1 last p && riseP p.key ps
def rightP (ps : List Pair) : Bool := decide (ps.length ≤ 32) && riseP none8 ps
def rightX (xs : List (List PD)) : Bool := rightP (pairsOf xs)
theorem prow {xs : List (List PD)} {ps : List Pair} (hxs : xs = pairsX ps) {i : Int} (h0 : 0 ≤ i) (h1 : i < ps.length) : xs.getD i.toNat [] = (ps[i.toNat]'(by omega)).row := by
  subst hxs
  have : i.toNat < ps.length := by omega
  simp [pairsX, List.getD_eq_getElem?_getD, this]
theorem pairsX_length (ps : List Pair) : (pairsX ps).length = ps.length := by simp [pairsX]
theorem pdrop {ps : List Pair} {i : Int} (h0 : 0 ≤ i) (h1 : i < ps.length) : ps.drop i.toNat = (ps[i.toNat]'(by omega)) :: ps.drop (i + 1).toNat := by
  have h : i.toNat < ps.length := by omega
  rw [List.drop_eq_getElem_cons h]
  congr 2
  omega
def idX (xs : List (List PD)) : List (List PD) := xs

structure FsK where
  rightR : List (List PD) → Bool
  right : List (List PD) → Bool
  clone : List (List PD) → List (List PD)
  isP : List (List PD) → Prop
def FsK0 : FsK where
  rightR := rightX
  right := rightX
  clone := idX
  isP := isP
set_option maxRecDepth 100000 in
theorem v_clone (xs : List (List PD)) (hp0 : FsK0.isP xs) : FnV Try.prog 23 [.d (.slc 3 xs)] (.d (.slc 3 (idX xs))) := by
  rcases xs with _ | ⟨x, xs⟩
  · refine FnD_cbv (T := fun _ => tabY [] []) (H := fun _ => []) (tabY_ok _ _) noK_ok follows_mixed Try.func23 rfl Try.ntmps23 (by simp) fun A X W hA hX hW => ?_
    cbv
    refine nilTestL hX tab_ok (sz := 3) (sz' := 3) (e := 35) rfl rfl ?_ ?_
    · cbv
      subst hA hX hW
      exact ret_nil rfl
    · cbv
      subst hA hX hW
      refine ⟨rfl, rfl, ?_, ?_⟩
      · simp [A0]
      · exact ret_slice (bx := ⟨35, _, true, 1, true⟩) rfl rfl rfl rfl rfl (by simp) rfl
  · refine FnD_cbv (T := fun _ => tabY [] []) (H := fun _ => []) (tabY_ok _ _) noK_ok follows_mixed Try.func23 rfl Try.ntmps23 (by simp) fun A X W hA hX hW => ?_
    cbv
    subst hA hX hW
    refine ⟨rfl, rfl, ?_, ?_⟩
    · have := isP.len hp0
      simp only [A0]
      generalize (x :: xs).length = n at *
      omega
    · exact ret_slice (bx := ⟨35, _, true, 1, true⟩) rfl rfl rfl (Nat.zero_add _) rfl (isP.sz hp0) rfl
def kn_clone (F : FsK) : FuncId × (List DV → RV) := (23, fun args => match args with
  | [.d (.slc 3 xs)] => some ([F.isP xs], .d (.slc 3 (F.clone xs)))
  | [.d (.sc (.slice none 0 0))] => some ([F.isP []], .d (.slc 3 (F.clone [])))
  | _ => none)
theorem ok_clone (args : List DV) (cs : List Prop) (r : DV) (h : (kn_clone FsK0).2 args = some (cs, r)) (hc : allP cs True) : FnV Try.prog 23 args r ∧ closedL 0 args = true := by
  unfold kn_clone at h
  simp only at h
  split at h
  · cases h; exact ⟨v_clone _ hc.1, rfl⟩
  · cases h; exact ⟨FnP.nils (v_clone [] hc.1) ⟨.inr ⟨rfl, _, rfl⟩, trivial⟩, rfl⟩
  · cases h
set_option maxRecDepth 100000 in
theorem v_right (xs : List (List PD)) (hp0 : FsK0.isP xs) : FnV Try.prog 24 [.d (.slc 3 xs)] (boolD ((rightX xs))) := by
  obtain ⟨ps, hxs, hl⟩ := hp0
  have hlen : xs.length = ps.length := by rw [hxs]; exact pairsX_length ps
  have hof : pairsOf xs = ps := by rw [hxs]; exact pairsOf_X ps
  obtain ⟨n, hn⟩ : ∃ n : Int, n = ps.length := ⟨_, rfl⟩
  refine FnD_cbv (T := fun _ => tabY [13] []) (H := fun _ => []) (tabY_ok _ _) noK_ok follows_mixed Try.func24 rfl Try.ntmps24 (by simp) fun A X W hA hX hW => ?_
  cbv
  refine part (fun h => ?_) (fun h => ?_)
  · cbv
    subst hA hX hW
    simp only [A0, decide_eq_true_eq] at h
    refine ret_v ?_ rfl
    have : ¬ ps.length ≤ 32 := by omega
    simp [boolD, rightX, rightP, hof, this]
  · cbv
    refine loopL (T := fun _ => tabY [13] []) (H := fun _ => []) (tabY_ok _ _) noK_ok follows_mixed hA hX (fun x : Int × ByteArray => 0 ≤ x.1 ∧ x.1 ≤ ps.length ∧ riseP none8 ps = riseP x.2 (ps.drop x.1.toNat))
      (fun x => [(3, .d (.sc (.string x.2))), (9, .d (.slc 3 xs)), (10, .d (.sc (.int .i64 n))), (11, .d (.sc (.int .i64 x.1)))]) (fun _ => [])
      (fun x => (ps.length : Int).toNat - x.1.toNat) (0, none8) ?_ ?_ ?_
    · exact ⟨by omega, by omega, rfl⟩
    · subst hA; exact told_less (by simp [toldP, getS, A0, hn, hlen])
    rintro R ⟨i, last⟩ hR ⟨i0, i1, i2⟩
    replace i0 : 0 ≤ i := i0
    replace i1 : i ≤ ps.length := i1
    replace i2 : riseP none8 ps = riseP last (ps.drop i.toNat) := i2
    cbv
    refine part (fun h2 => ?_) (fun h2 => ?_)
    · cbv
      replace hn : n = (ps.length : Int) := hn
      replace hlen : xs.length = ps.length := hlen
      replace i0 : 0 ≤ i := i0
      replace i1 : i ≤ (ps.length : Int) := i1
      replace hl : ps.length ≤ 4194304 := hl
      have hi : i < ps.length := by
        subst hA
        simp only [A0, decide_eq_true_eq] at h2
        omega
      have hrow := prow hxs i0 hi
      have hd := pdrop i0 hi
      generalize ps[i.toNat]'(by omega) = p at hrow hd
      rw [hd] at i2
      have i3 : riseP last (p :: ps.drop (i + 1).toNat) = (okP1 last p && riseP p.key (ps.drop (i + 1).toNat)) := rfl
      rw [i3] at i2
      repeat' first
        | (refine part (fun h3 => ?_) (fun h3 => ?_) <;> try cbv)
        | (refine And.intro ?_ ?_)
      all_goals subst hA hX hW hR
      all_goals first
        | (intro _; trivial)
        | (intro hq; exact hq)
        | (intro hq; simpa [A0] using hq)
        | (show 0 ≤ i ∧ i < (xs.length : Int); omega)
        | (simp only [A0, hrow]; simp [Pair.row]; done)
        | skip
      · refine ret_v ?_ rfl
        have hk : okP1 last p = false := by
          simp only [A0, hrow] at h3
          simp [Pair.row] at h3
          have t := ltb_total last p.key
          simp only [okP1, Bool.and_eq_false_iff, decide_eq_false_iff_not]
          rcases h3 with ((h3 | h3) | h3) | h3
          · rcases h3 with h3 | h3
            · simp_all
            · simp_all [ltb_irrefl]
          · omega
          · omega
          · omega
        rw [hk] at i2
        simp [boolD, rightX, rightP, hof, i2]
      · have hk : okP1 last p = true := by
          simp only [A0, hrow] at h3
          simp [Pair.row] at h3
          have t := ltb_total last p.key
          simp only [okP1, Bool.and_eq_true, decide_eq_true_eq]
          obtain ⟨⟨⟨⟨a1, a2⟩, a3⟩, a4⟩, a5⟩ := h3
          refine ⟨⟨⟨?_, by omega⟩, by omega⟩, by omega⟩
          simp_all
        rw [hk, Bool.true_and] at i2
        have hi' : i < (ps.length : Int) := hi
        have hl' : ps.length ≤ 4194304 := hl
        have i0' : 0 ≤ i := i0
        have hw : IntKind.wrap .i64 (i + 1) = i + 1 := wrap_i64 (by unfold r64; omega)
        have hkey : A0.gs (A0.lift (A0.row xs i)) 0 = p.key := by simp only [A0, hrow]; simp [Pair.row]
        refine ⟨(i + 1, p.key), ⟨by simp only; omega, by simp only; omega, i2⟩, by simp only; omega, told_keep [] rfl rfl ?_⟩
        simp [toldP, getS, A0, hw, pullD]
        simp [A0] at hkey
        exact hkey.symm
    · cbv
      replace hn : n = (ps.length : Int) := hn
      replace hlen : xs.length = ps.length := hlen
      replace i1 : i ≤ (ps.length : Int) := i1
      subst hA hX hW hR
      simp only [A0, decide_eq_false_iff_not] at h2 h
      refine ret_v ?_ rfl
      have hil : i.toNat = ps.length := by omega
      rw [hil, List.drop_length] at i2
      have h5 : ps.length ≤ 32 := by omega
      simp [boolD, rightX, rightP, hof, i2, h5, riseP]
def kn_right (F : FsK) : FuncId × (List DV → RV) := (24, fun args => match args with
  | [.d (.slc 3 xs)] => some ([F.isP xs], boolD ((F.right xs)))
  | [.d (.sc (.slice none 0 0))] => some ([F.isP []], boolD ((F.right [])))
  | _ => none)
theorem ok_right (args : List DV) (cs : List Prop) (r : DV) (h : (kn_right FsK0).2 args = some (cs, r)) (hc : allP cs True) : FnV Try.prog 24 args r ∧ closedL 0 args = true := by
  unfold kn_right at h
  simp only at h
  split at h
  · cases h; exact ⟨v_right _ hc.1, rfl⟩
  · cases h; exact ⟨FnP.nils (v_right [] hc.1) ⟨.inr ⟨rfl, _, rfl⟩, trivial⟩, rfl⟩
  · cases h
def lastK (ps : List Pair) (i : Int) : ByteArray := if i ≤ 0 then none8 else (ps.getD (i - 1).toNat default).key
theorem okR (i : Int) (p q : Pair) (last : ByteArray) (hlast : last = if i ≤ 0 then none8 else q.key) (b : Bool)
    (hb : b = true ↔ ((((p.key = none8 ∨ 16 < (p.key.size : Int)) ∨ 64 < (p.value.size : Int)) ∨ p.version < 1) ∨ 0 < i ∧ ltb q.key p.key = false)) : okP1 last p = !b := by
  have e1 := empty_ltb p.key
  have e2 : 0 < i → ltb q.key p.key = true → p.key ≠ none8 := by
    intro _ h e
    rw [e, ltb_empty] at h
    cases h
  have e0 : ({ data := #[] } : ByteArray) = none8 := rfl
  rw [Bool.eq_iff_iff]
  simp only [okP1, Bool.and_eq_true, decide_eq_true_eq, Bool.not_eq_true', ← Bool.not_eq_true, hb]
  by_cases hi : i ≤ 0
  · rw [if_pos hi] at hlast
    subst hlast
    rw [e1]
    have h0 : ¬ (0 < i) := by omega
    simp only [h0, false_and, or_false, Bool.not_eq_true, Bool.not_eq_eq_eq_not, Bool.not_true, decide_eq_false_iff_not]
    constructor
    · rintro ⟨⟨⟨a, b⟩, c⟩, d⟩ (((h | h) | h) | h)
      · exact a h
      all_goals omega
    · intro h
      refine ⟨⟨⟨?_, ?_⟩, ?_⟩, ?_⟩
      · intro h2; exact h (.inl (.inl (.inl h2)))
      · apply Decidable.byContradiction; intro h2; exact h (.inl (.inl (.inr (by omega))))
      · apply Decidable.byContradiction; intro h2; exact h (.inl (.inr (by omega)))
      · apply Decidable.byContradiction; intro h2; exact h (.inr (by omega))
  · rw [if_neg hi] at hlast
    subst hlast
    have h0 : 0 < i := by omega
    simp only [h0, true_and]
    constructor
    · rintro ⟨⟨⟨a, b⟩, c⟩, d⟩ ((((h | h) | h) | h) | h)
      · exact e2 h0 a h
      · omega
      · omega
      · omega
      · rw [a] at h; exact absurd h (by decide)
    · intro h
      refine ⟨⟨⟨?_, ?_⟩, ?_⟩, ?_⟩
      · cases h2 : ltb q.key p.key
        · exact absurd (.inr (by rw [h2]; decide)) h
        · rfl
      · apply Decidable.byContradiction; intro h2; exact h (.inl (.inl (.inl (.inr (by omega)))))
      · apply Decidable.byContradiction; intro h2; exact h (.inl (.inl (.inr (by omega))))
      · apply Decidable.byContradiction; intro h2; exact h (.inl (.inr (by omega)))

set_option maxRecDepth 100000 in
theorem v_rightR (xs : List (List PD)) (hp0 : FsK0.isP xs) : FnV Try.prog 20 [.d (.slc 3 xs)] (boolD ((rightX xs))) := by
  obtain ⟨ps, hxs, hl⟩ := hp0
  have hlen : xs.length = ps.length := by rw [hxs]; exact pairsX_length ps
  have hof : pairsOf xs = ps := by rw [hxs]; exact pairsOf_X ps
  refine FnD_cbv (T := fun _ => tabY [12, 13, 19, 20, 28, 29, 37, 38, 49, 50, 54, 55] []) (H := fun _ => []) (tabY_ok _ _) noK_ok follows_mixed Try.func20 rfl Try.ntmps20 (by simp) fun A X W hA hX hW => ?_
  cbv
  refine loopL (T := fun _ => tabY [12, 13, 19, 20, 28, 29, 37, 38, 49, 50, 54, 55] []) (H := fun _ => []) (tabY_ok _ _) noK_ok follows_mixed hA hX (fun i : Int => 0 ≤ i ∧ i ≤ ps.length ∧ riseP none8 ps = riseP (lastK ps i) (ps.drop i.toNat))
    (fun i => [(0, .d (.slc 3 xs)), (3, .d (.sc (.int .i64 i)))]) (fun _ => [])
    (fun i => (ps.length : Int).toNat - i.toNat) 0 ?_ ?_ ?_
  · exact ⟨by omega, by omega, rfl⟩
  · subst hA; exact told_less (by simp [toldP, getS, A0, hlen])
  rintro R i hR ⟨i0, i1, i2⟩
  cbv
  refine part (fun h2 => ?_) (fun h2 => ?_)
  · cbv
    replace hlen : xs.length = ps.length := hlen
    replace i0 : 0 ≤ i := i0
    replace i1 : i ≤ (ps.length : Int) := i1
    replace hl : ps.length ≤ 4194304 := hl
    have hi : i < ps.length := by
      subst hA
      simp only [A0, decide_eq_true_eq] at h2
      omega
    have hw1 : IntKind.wrap .i64 (i - 1) = i - 1 := wrap_i64 (by unfold r64; omega)
    have hrow := prow hxs i0 hi
    have hd := pdrop i0 hi
    have hlt : (i - 1).toNat < ps.length := by omega
    have hrow1 : xs.getD (i - 1).toNat [] = (ps[(i - 1).toNat]'hlt).row := by
      rw [hxs, List.getD_eq_getElem?_getD, pairsX, List.getElem?_map, List.getElem?_eq_getElem hlt]
      rfl
    have hlast : lastK ps i = if i ≤ 0 then none8 else (ps[(i - 1).toNat]'hlt).key := by
      rw [lastK, List.getD_eq_getElem?_getD, List.getElem?_eq_getElem hlt]
      rfl
    generalize ps[i.toNat]'(by omega) = p at hrow hd
    generalize ps[(i - 1).toNat]'hlt = q at hrow1 hlast
    rw [hd] at i2
    have i3 : riseP (lastK ps i) (p :: ps.drop (i + 1).toNat) = (okP1 (lastK ps i) p && riseP p.key (ps.drop (i + 1).toNat)) := rfl
    rw [i3] at i2
    repeat' first
      | (refine part (fun h3 => ?_) (fun h3 => ?_) <;> try cbv)
      | (refine And.intro ?_ ?_)
    all_goals subst hA hX hW hR
    all_goals first
      | (show Region.lexB _ _ = true; kernel_rfl)
      | (intro _; trivial)
      | (intro hq; exact hq)
      | (intro hq; simpa [A0] using hq)
      | (show 0 ≤ i ∧ i < (xs.length : Int); omega)
      | (intro _; show 0 ≤ i ∧ i < (xs.length : Int); omega)
      | (simp only [A0, hrow]; simp [Pair.row]; done)
      | (intro _; simp only [A0, hrow]; simp [Pair.row]; done)
      | (intro _; simp only [A0, hw1, hrow1]; simp [Pair.row]; done)
      | (intro hq
         have h0 : 0 < i := by
           simp only [A0, Bool.and_eq_true, beq_iff_eq, decide_eq_true_eq] at hq
           exact hq.2
         simp only [A0, hw1]
         show 0 ≤ i - 1 ∧ i - 1 < (xs.length : Int)
         omega)
      | skip
    · have hk := okR i p q _ hlast _ ((Iff.of_eq (congrArg (fun x : Bool => x = true) h3.symm)).trans (by simp only [A0, hw1, hrow, hrow1]; simp [Pair.row]))
      rw [hk] at i2
      refine ret_v ?_ rfl
      simp [boolD, rightX, rightP, hof, i2]
    · have hk := okR i p q _ hlast _ ((Iff.of_eq (congrArg (fun x : Bool => x = true) h3.symm)).trans (by simp only [A0, hw1, hrow, hrow1]; simp [Pair.row]))
      rw [hk, Bool.not_false, Bool.true_and] at i2
      have hi' : i < (ps.length : Int) := hi
      have hl' : ps.length ≤ 4194304 := hl
      have i0' : 0 ≤ i := i0
      have hw : IntKind.wrap .i64 (i + 1) = i + 1 := wrap_i64 (by unfold r64; omega)
      have hl1 : lastK ps (i + 1) = p.key := by
        have h5 : i.toNat < ps.length := by omega
        rw [lastK, if_neg (by omega), show (i + 1 - 1).toNat = i.toNat by omega, List.getD_eq_getElem?_getD, List.getElem?_eq_getElem h5]
        rw [List.drop_eq_getElem_cons h5] at hd
        exact congrArg Pair.key (List.cons.inj hd).1
      refine ⟨i + 1, ⟨by omega, by omega, by rw [hl1]; exact i2⟩, by omega, told_less ?_⟩
      simp [toldP, getS, A0, hw]
  · cbv
    replace hlen : xs.length = ps.length := hlen
    replace i1 : i ≤ (ps.length : Int) := i1
    subst hA hX hW hR
    simp only [A0, decide_eq_false_iff_not] at h2
    replace h2 : ¬ i < (xs.length : Int) := h2
    refine ret_v ?_ rfl
    have hil : i.toNat = ps.length := by omega
    rw [hil, List.drop_length] at i2
    simp only [A0]
    rw [rightX, hof, rightP, i2]
    show boolD (decide ((xs.length : Int) ≤ 32)) = boolD (decide (ps.length ≤ 32) && true)
    rw [Bool.and_true]
    congr 1
    rw [decide_eq_decide]
    omega
def kn_rightR (F : FsK) : FuncId × (List DV → RV) := (20, fun args => match args with
  | [.d (.slc 3 xs)] => some ([F.isP xs], boolD ((F.rightR xs)))
  | [.d (.sc (.slice none 0 0))] => some ([F.isP []], boolD ((F.rightR [])))
  | _ => none)
theorem ok_rightR (args : List DV) (cs : List Prop) (r : DV) (h : (kn_rightR FsK0).2 args = some (cs, r)) (hc : allP cs True) : FnV Try.prog 20 args r ∧ closedL 0 args = true := by
  unfold kn_rightR at h
  simp only at h
  split at h
  · cases h; exact ⟨v_rightR _ hc.1, rfl⟩
  · cases h; exact ⟨FnP.nils (v_rightR [] hc.1) ⟨.inr ⟨rfl, _, rfl⟩, trivial⟩, rfl⟩
  · cases h
end Go.Proofs.Ytjlbdfehkbcmfaa
