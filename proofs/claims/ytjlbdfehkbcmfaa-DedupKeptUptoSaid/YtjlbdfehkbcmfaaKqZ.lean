/- Pairs and replies: what the functions give. No condition. -/
import Derived.Test.YtjlbdfehkbcmfaaOrd
import Derived.Test.YtjlbdfehkbcmfaaAm31
import Derived.Test.YtjlbdfehkbcmfaaTy
import Derived.Test.YtjlbdfehkbcmfaaAm44
import Derived.Test.YtjlbdfehkbcmfaaAm45
namespace Go.Proofs.Ytjlbdfehkbcmfaa
open Go.RowKit
set_option linter.all false
abbrev none8 : ByteArray := { data := #[] }
structure Pair where
  key : ByteArray
  value : ByteArray
  version : Int
def Pair.row (p : Pair) : List PD := [.sc (.string p.key), .sc (.string p.value), .sc (.int .i64 p.version)]
def pairsX (ps : List Pair) : List (List PD) := ps.map Pair.row
def isP (xs : List (List PD)) : Prop := ∃ ps, xs = pairsX ps ∧ ps.length ≤ 4194304
theorem isP.len {xs : List (List PD)} (h : isP xs) : xs.length ≤ 4194304 := by obtain ⟨ps, rfl, h⟩ := h; simpa [pairsX] using h
theorem isP.sz {xs : List (List PD)} (h : isP xs) : ∀ x ∈ xs, x.length = 3 := by
  obtain ⟨ps, rfl, h⟩ := h
  intro x hx
  simp only [pairsX, List.mem_map] at hx
  obtain ⟨_, _, rfl⟩ := hx
  rfl
theorem isP.nil : isP [] := ⟨[], rfl, by decide⟩
structure Reply where
  why : Int
  found : Bool
  value : ByteArray
  version : Int
  pairs : List (List PD)
def Reply.D (x : Reply) : DV := .agg [.d (.sc (.int .i64 x.why)), .d (.sc (.bool x.found)), .d (.sc (.string x.value)), .d (.sc (.int .i64 x.version)), .d (.slc 3 x.pairs)]
def r64 (n : Int) : Prop := -9223372036854775808 ≤ n ∧ n ≤ 9223372036854775807
theorem wrap_i64 {a : Int} (h : r64 a) : IntKind.wrap .i64 a = a := by
  unfold r64 at h
  simp only [IntKind.wrap, IntKind.bits, IntKind.signed]
  simp
  omega
instance : Inhabited Pair := ⟨⟨none8, none8, 0⟩⟩
def rowP : List PD → Pair
  | [.sc (.string k), .sc (.string v), .sc (.int _ n)] => ⟨k, v, n⟩
  | _ => ⟨none8, none8, 0⟩
def pairsOf (xs : List (List PD)) : List Pair := xs.map rowP
theorem pairsOf_X (ps : List Pair) : pairsOf (pairsX ps) = ps := by
  induction ps with
  | nil => rfl
  | cons p ps ih =>
    have : pairsOf (pairsX (p :: ps)) = p :: pairsOf (pairsX ps) := rfl
    rw [this, ih]
def okP1 (last : ByteArray) (p : Pair) : Bool := ltb last p.key && decide (p.key.size ≤ 16) && decide (p.value.size ≤ 64) && decide (1 ≤ p.version)
def riseP : ByteArray → List Pair → Bool
  | _, [] => true
  | last, p :: ps => okP1 last p && riseP p.key ps
def rightP (ps : List Pair) : Bool := decide (ps.length ≤ 32) && riseP none8 ps
def rightX (xs : List (List PD)) : Bool := rightP (pairsOf xs)
theorem prow {xs : List (List PD)} {ps : List Pair} (hxs : xs = pairsX ps) {i : Int} (h0 : 0 ≤ i) (h1 : i < ps.length) : xs.getD i.toNat [] = (ps[i.toNat]'(by omega)).row := by
  subst hxs
  have : i.toNat < ps.length := by omega
  simp [pairsX, List.getD_eq_getElem?_getD, this]
theorem pairsX_length (ps : List Pair) : (pairsX ps).length = ps.length := by simp [pairsX]
theorem pdrop {ps : List Pair} {i : Int} (h0 : 0 ≤ i) (h1 : i < ps.length) : ps.drop i.toNat = (ps[i.toNat]'(by omega)) :: ps.drop (i + 1).toNat := by
  have h : i.toNat < ps.length := by omega
  rw [List.drop_eq_getElem_cons h]
  congr 2
  omega
def idX (xs : List (List PD)) : List (List PD) := xs

structure FsK where
  rightR : List (List PD) → Bool
  right : List (List PD) → Bool
  clone : List (List PD) → List (List PD)
  isP : List (List PD) → Prop
def FsK0 : FsK where
  rightR := rightX
  right := rightX
  clone := idX
  isP := isP
set_option maxRecDepth 100000 in
theorem v_clone (xs : List (List PD)) (hp0 : FsK0.isP xs) : FnV Try.prog 23 [.d (.slc 3 xs)] (.d (.slc 3 (idX xs))) := by
  rcases xs with _ | ⟨x, xs⟩
  · refine FnD_cbv (T := fun _ => tabY [] []) (H := fun _ => []) (tabY_ok _ _) noK_ok follows_mixed Try.func23 rfl Try.ntmps23 (by simp) fun A X W hA hX hW => ?_
    cbv
    refine nilTestL hX tab_ok (sz := 3) (sz' := 3) (e := 35) rfl rfl ?_ ?_
    · cbv
      subst hA hX hW
      exact ret_nil rfl
    · cbv
      subst hA hX hW
      refine ⟨rfl, rfl, ?_, ?_⟩
      · simp [A0]
      · exact ret_slice (bx := ⟨35, _, true, 1, true⟩) rfl rfl rfl rfl rfl (by simp) rfl
  · refine FnD_cbv (T := fun _ => tabY [] []) (H := fun _ => []) (tabY_ok _ _) noK_ok follows_mixed Try.func23 rfl Try.ntmps23 (by simp) fun A X W hA hX hW => ?_
    cbv
    subst hA hX hW
    refine ⟨rfl, rfl, ?_, ?_⟩
    · have := isP.len hp0
      simp only [A0]
      generalize (x :: xs).length = n at *
      omega
    · exact ret_slice (bx := ⟨35, _, true, 1, true⟩) rfl rfl rfl (Nat.zero_add _) rfl (isP.sz hp0) rfl
def kn_clone (F : FsK) : FuncId × (List DV → RV) := (23, fun args => match args with
  | [.d (.slc 3 xs)] => some ([F.isP xs], .d (.slc 3 (F.clone xs)))
  | [.d (.sc (.slice none 0 0))] => some ([F.isP []], .d (.slc 3 (F.clone [])))
  | _ => none)
theorem ok_clone (args : List DV) (cs : List Prop) (r : DV) (h : (kn_clone FsK0).2 args = some (cs, r)) (hc : allP cs True) : FnV Try.prog 23 args r ∧ closedL 0 args = true := by
  unfold kn_clone at h
  simp only at h
  split at h
  · cases h; exact ⟨v_clone _ hc.1, rfl⟩
  · cases h; exact ⟨FnP.nils (v_clone [] hc.1) ⟨.inr ⟨rfl, _, rfl⟩, trivial⟩, rfl⟩
  · cases h
set_option maxRecDepth 100000 in
theorem v_right (xs : List (List PD)) (hp0 : FsK0.isP xs) : FnV Try.prog 24 [.d (.slc 3 xs)] (boolD ((rightX xs))) := by
  obtain ⟨ps, hxs, hl⟩ := hp0
  have hlen : xs.length = ps.length := by rw [hxs]; exact pairsX_length ps
  have hof : pairsOf xs = ps := by rw [hxs]; exact pairsOf_X ps
  obtain ⟨n, hn⟩ : ∃ n : Int, n = ps.length := ⟨_, rfl⟩
  refine FnD_cbv (T := fun _ => tabY [13] []) (H := fun _ => []) (tabY_ok _ _) noK_ok follows_mixed Try.func24 rfl Try.ntmps24 (by simp) fun A X W hA hX hW => ?_
  cbv
  refine part (fun h => ?_) (fun h => ?_)
  · cbv
    subst hA hX hW
    simp only [A0, decide_eq_true_eq] at h
    refine ret_v ?_ rfl
    have : ¬ ps.length ≤ 32 := by omega
    simp [boolD, rightX, rightP, hof, this]
  · cbv
    refine loopL (T := fun _ => tabY [13] []) (H := fun _ => []) (tabY_ok _ _) noK_ok follows_mixed hA hX (fun x : Int × ByteArray => 0 ≤ x.1 ∧ x.1 ≤ ps.length ∧ riseP none8 ps = riseP x.2 (ps.drop x.1.toNat))
      (fun x => [(3, .d (.sc (.string x.2))), (9, .d (.slc 3 xs)), (10, .d (.sc (.int .i64 n))), (11, .d (.sc (.int .i64 x.1)))]) (fun _ => [])
      (fun x => (ps.length : Int).toNat - x.1.toNat) (0, none8) ?_ ?_ ?_
    · exact ⟨by omega, by omega, rfl⟩
    · subst hA; exact told_less (by simp [toldP, getS, A0, hn, hlen])
    rintro R ⟨i, last⟩ hR ⟨i0, i1, i2⟩
    replace i0 : 0 ≤ i := i0
    replace i1 : i ≤ ps.length := i1
    replace i2 : riseP none8 ps = riseP last (ps.drop i.toNat) := i2
    cbv
    refine part (fun h2 => ?_) (fun h2 => ?_)
    · cbv
      replace hn : n = (ps.length : Int) := hn
      replace hlen : xs.length = ps.length := hlen
      replace i0 : 0 ≤ i := i0
      replace i1 : i ≤ (ps.length : Int) := i1
      replace hl : ps.length ≤ 4194304 := hl
      have hi : i < ps.length := by
        subst hA
        simp only [A0, decide_eq_true_eq] at h2
        omega
      have hrow := prow hxs i0 hi
      have hd := pdrop i0 hi
      generalize ps[i.toNat]'(by omega) = p at hrow hd
      rw [hd] at i2
      have i3 : riseP last (p :: ps.drop (i + 1).toNat) = (okP1 last p && riseP p.key (ps.drop (i + 1).toNat)) := rfl
      rw [i3] at i2
      repeat' first
        | (refine part (fun h3 => ?_) (fun h3 => ?_) <;> try cbv)
        | (refine And.intro ?_ ?_)
      all_goals subst hA hX hW hR
      all_goals first
        | (intro _; trivial)
        | (intro hq; exact hq)
        | (intro hq; simpa [A0] using hq)
        | (show 0 ≤ i ∧ i < (xs.length : Int); omega)
        | (simp only [A0, hrow]; simp [Pair.row]; done)
        | skip
      · refine ret_v ?_ rfl
        have hk : okP1 last p = false := by
          simp only [A0, hrow] at h3
          simp [Pair.row] at h3
          have t := ltb_total last p.key
          simp only [okP1, Bool.and_eq_false_iff, decide_eq_false_iff_not]
          rcases h3 with ((h3 | h3) | h3) | h3
          · rcases h3 with h3 | h3
            · simp_all
            · simp_all [ltb_irrefl]
          · omega
          · omega
          · omega
        rw [hk] at i2
        simp [boolD, rightX, rightP, hof, i2]
      · have hk : okP1 last p = true := by
          simp only [A0, hrow] at h3
          simp [Pair.row] at h3
          have t := ltb_total last p.key
          simp only [okP1, Bool.and_eq_true, decide_eq_true_eq]
          obtain ⟨⟨⟨⟨a1, a2⟩, a3⟩, a4⟩, a5⟩ := h3
          refine ⟨⟨⟨?_, by omega⟩, by omega⟩, by omega⟩
          simp_all
        rw [hk, Bool.true_and] at i2
        have hi' : i < (ps.length : Int) := hi
        have hl' : ps.length ≤ 4194304 := hl
        have i0' : 0 ≤ i := i0
        have hw : IntKind.wrap .i64 (i + 1) = i + 1 := wrap_i64 (by unfold r64; omega)
        have hkey : A0.gs (A0.lift (A0.row xs i)) 0 = p.key := by simp only [A0, hrow]; simp [Pair.row]
        refine ⟨(i + 1, p.key), ⟨by simp only; omega, by simp only; omega, i2⟩, by simp only; omega, told_keep [] rfl rfl ?_⟩
        simp [toldP, getS, A0, hw, pullD]
        simp [A0] at hkey
        exact hkey.symm
    · cbv
      replace hn : n = (ps.length : Int) := hn
      replace hlen : xs.length = ps.length := hlen
      replace i1 : i ≤ (ps.length : Int) := i1
      subst hA hX hW hR
      simp only [A0, decide_eq_false_iff_not] at h2 h
      refine ret_v ?_ rfl
      have hil : i.toNat = ps.length := by omega
      rw [hil, List.drop_length] at i2
      have h5 : ps.length ≤ 32 := by omega
      simp [boolD, rightX, rightP, hof, i2, h5, riseP]
def kn_right (F : FsK) : FuncId × (List DV → RV) := (24, fun args => match args with
  | [.d (.slc 3 xs)] => some ([F.isP xs], boolD ((F.right xs)))
  | [.d (.sc (.slice none 0 0))] => some ([F.isP []], boolD ((F.right [])))
  | _ => none)
theorem ok_right (args : List DV) (cs : List Prop) (r : DV) (h : (kn_right FsK0).2 args = some (cs, r)) (hc : allP cs True) : FnV Try.prog 24 args r ∧ closedL 0 args = true := by
  unfold kn_right at h
  simp only at h
  split at h
  · cases h; exact ⟨v_right _ hc.1, rfl⟩
  · cases h; exact ⟨FnP.nils (v_right [] hc.1) ⟨.inr ⟨rfl, _, rfl⟩, trivial⟩, rfl⟩
  · cases h
def lastK (ps : List Pair) (i : Int) : ByteArray := if i ≤ 0 then none8 else (ps.getD (i - 1).toNat default).key
theorem okR (i : Int) (p q : Pair) (last : ByteArray) (hlast : last = if i ≤ 0 then none8 else q.key) (b : Bool)
    (hb : b = true ↔ ((((p.key = none8 ∨ 16 < (p.key.size : Int)) ∨ 64 < (p.value.size : Int)) ∨ p.version < 1) ∨ 0 < i ∧ ltb q.key p.key = false)) : okP1 last p = !b := by
  have e1 := empty_ltb p.key
  have e2 : 0 < i → ltb q.key p.key = true → p.key ≠ none8 := by
    intro _ h e
    rw [e, ltb_empty] at h
    cases h
  have e0 : ({ data := #[] } : ByteArray) = none8 := rfl
  rw [Bool.eq_iff_iff]
  simp only [okP1, Bool.and_eq_true, decide_eq_true_eq, Bool.not_eq_true', ← Bool.not_eq_true, hb]
  by_cases hi : i ≤ 0
  · rw [if_pos hi] at hlast
    subst hlast
    rw [e1]
    have h0 : ¬ (0 < i) := by omega
    simp only [h0, false_and, or_false, Bool.not_eq_true, Bool.not_eq_eq_eq_not, Bool.not_true, decide_eq_false_iff_not]
    constructor
    · rintro ⟨⟨⟨a, b⟩, c⟩, d⟩ (((h | h) | h) | h)
      · exact a h
      all_goals omega
    · intro h
      refine ⟨⟨⟨?_, ?_⟩, ?_⟩, ?_⟩
      · intro h2; exact h (.inl (.inl (.inl h2)))
      · apply Decidable.byContradiction; intro h2; exact h (.inl (.inl (.inr (by omega))))
      · apply Decidable.byContradiction; intro h2; exact h (.inl (.inr (by omega)))
      · apply Decidable.byContradiction; intro h2; exact h (.inr (by omega))
  · rw [if_neg hi] at hlast
    subst hlast
    have h0 : 0 < i := by omega
    simp only [h0, true_and]
    constructor
    · rintro ⟨⟨⟨a, b⟩, c⟩, d⟩ ((((h | h) | h) | h) | h)
      · exact e2 h0 a h
      · omega
      · omega
      · omega
      · rw [a] at h; exact absurd h (by decide)
    · intro h
      refine ⟨⟨⟨?_, ?_⟩, ?_⟩, ?_⟩
      · cases h2 : ltb q.key p.key
        · exact absurd (.inr (by rw [h2]; decide)) h
        · rfl
      · apply Decidable.byContradiction; intro h2; exact h (.inl (.inl (.inl (.inr (by omega)))))
      · apply Decidable.byContradiction; intro h2; exact h (.inl (.inl (.inr (by omega))))
      · apply Decidable.byContradiction; intro h2; exact h (.inl (.inr (by omega)))

set_option maxRecDepth 100000 in
theorem v_rightR (xs : List (List PD)) (hp0 : FsK0.isP xs) : FnV Try.prog 20 [.d (.slc 3 xs)] (boolD ((rightX xs))) := by
  obtain ⟨ps, hxs, hl⟩ := hp0
  have hlen : xs.length = ps.length := by rw [hxs]; exact pairsX_length ps
  have hof : pairsOf xs = ps := by rw [hxs]; exact pairsOf_X ps
  refine FnD_cbv (T := fun _ => tabY [12, 13, 19, 20, 28, 29, 37, 38, 49, 50, 54, 55] []) (H := fun _ => []) (tabY_ok _ _) noK_ok follows_mixed Try.func20 rfl Try.ntmps20 (by simp) fun A X W hA hX hW => ?_
  cbv
  refine loopL (T := fun _ => tabY [12, 13, 19, 20, 28, 29, 37, 38, 49, 50, 54, 55] []) (H := fun _ => []) (tabY_ok _ _) noK_ok follows_mixed hA hX (fun i : Int => 0 ≤ i ∧ i ≤ ps.length ∧ riseP none8 ps = riseP (lastK ps i) (ps.drop i.toNat))
    (fun i => [(0, .d (.slc 3 xs)), (3, .d (.sc (.int .i64 i)))]) (fun _ => [])
    (fun i => (ps.length : Int).toNat - i.toNat) 0 ?_ ?_ ?_
  · exact ⟨by omega, by omega, rfl⟩
  · subst hA; exact told_less (by simp [toldP, getS, A0, hlen])
  rintro R i hR ⟨i0, i1, i2⟩
  cbv
  refine part (fun h2 => ?_) (fun h2 => ?_)
  · cbv
    replace hlen : xs.length = ps.length := hlen
    replace i0 : 0 ≤ i := i0
    replace i1 : i ≤ (ps.length : Int) := i1
    replace hl : ps.length ≤ 4194304 := hl
    have hi : i < ps.length := by
      subst hA
      simp only [A0, decide_eq_true_eq] at h2
      omega
    have hw1 : IntKind.wrap .i64 (i - 1) = i - 1 := wrap_i64 (by unfold r64; omega)
    have hrow := prow hxs i0 hi
    have hd := pdrop i0 hi
    have hlt : (i - 1).toNat < ps.length := by omega
    have hrow1 : xs.getD (i - 1).toNat [] = (ps[(i - 1).toNat]'hlt).row := by
      rw [hxs, List.getD_eq_getElem?_getD, pairsX, List.getElem?_map, List.getElem?_eq_getElem hlt]
      rfl
    have hlast : lastK ps i = if i ≤ 0 then none8 else (ps[(i - 1).toNat]'hlt).key := by
      rw [lastK, List.getD_eq_getElem?_getD, List.getElem?_eq_getElem hlt]
      rfl
    generalize ps[i.toNat]'(by omega) = p at hrow hd
    generalize ps[(i - 1).toNat]'hlt = q at hrow1 hlast
    rw [hd] at i2
    have i3 : riseP (lastK ps i) (p :: ps.drop (i + 1).toNat) = (okP1 (lastK ps i) p && riseP p.key (ps.drop (i + 1).toNat)) := rfl
    rw [i3] at i2
    repeat' first
      | (refine part (fun h3 => ?_) (fun h3 => ?_) <;> try cbv)
      | (refine And.intro ?_ ?_)
    all_goals subst hA hX hW hR
    all_goals first
      | (show Region.lexB _ _ = true; kernel_rfl)
      | (intro _; trivial)
      | (intro hq; exact hq)
      | (intro hq; simpa [A0] using hq)
      | (show 0 ≤ i ∧ i < (xs.length : Int); omega)
      | (intro _; show 0 ≤ i ∧ i < (xs.length : Int); omega)
      | (simp only [A0, hrow]; simp [Pair.row]; done)
      | (intro _; simp only [A0, hrow]; simp [Pair.row]; done)
      | (intro _; simp only [A0, hw1, hrow1]; simp [Pair.row]; done)
      | (intro hq
         have h0 : 0 < i := by
           simp only [A0, Bool.and_eq_true, beq_iff_eq, decide_eq_true_eq] at hq
           exact hq.2
         simp only [A0, hw1]
         show 0 ≤ i - 1 ∧ i - 1 < (xs.length : Int)
         omega)
      | skip
    · have hk := okR i p q _ hlast _ ((Iff.of_eq (congrArg (fun x : Bool => x = true) h3.symm)).trans (by simp only [A0, hw1, hrow, hrow1]; simp [Pair.row]))
      rw [hk] at i2
      refine ret_v ?_ rfl
      simp [boolD, rightX, rightP, hof, i2]
    · have hk := okR i p q _ hlast _ ((Iff.of_eq (congrArg (fun x : Bool => x = true) h3.symm)).trans (by simp only [A0, hw1, hrow, hrow1]; simp [Pair.row]))
      rw [hk, Bool.not_false, Bool.true_and] at i2
      have hi' : i < (ps.length : Int) := hi
      have hl' : ps.length ≤ 4194304 := hl
      have i0' : 0 ≤ i := i0
      have hw : IntKind.wrap .i64 (i + 1) = i + 1 := wrap_i64 (by unfold r64; omega)
      have hl1 : lastK ps (i + 1) = p.key := by
        have h5 : i.toNat < ps.length := by omega
        rw [lastK, if_neg (by omega), show (i + 1 - 1).toNat = i.toNat by omega, List.getD_eq_getElem?_getD, List.getElem?_eq_getElem h5]
        rw [List.drop_eq_getElem_cons h5] at hd
        exact congrArg Pair.key (List.cons.inj hd).1
      refine ⟨i + 1, ⟨by omega, by omega, by rw [hl1]; exact i2⟩, by omega, told_less ?_⟩
      simp [toldP, getS, A0, hw]
  · cbv
    replace hlen : xs.length = ps.length := hlen
    replace i1 : i ≤ (ps.length : Int) := i1
    subst hA hX hW hR
    simp only [A0, decide_eq_false_iff_not] at h2
    replace h2 : ¬ i < (xs.length : Int) := h2
    refine ret_v ?_ rfl
    have hil : i.toNat = ps.length := by omega
    rw [hil, List.drop_length] at i2
    simp only [A0]
    rw [rightX, hof, rightP, i2]
    show boolD (decide ((xs.length : Int) ≤ 32)) = boolD (decide (ps.length ≤ 32) && true)
    rw [Bool.and_true]
    congr 1
    rw [decide_eq_decide]
    omega
def kn_rightR (F : FsK) : FuncId × (List DV → RV) := (20, fun args => match args with
  | [.d (.slc 3 xs)] => some ([F.isP xs], boolD ((F.rightR xs)))
  | [.d (.sc (.slice none 0 0))] => some ([F.isP []], boolD ((F.rightR [])))
  | _ => none)
theorem ok_rightR (args : List DV) (cs : List Prop) (r : DV) (h : (kn_rightR FsK0).2 args = some (cs, r)) (hc : allP cs True) : FnV Try.prog 20 args r ∧ closedL 0 args = true := by
  unfold kn_rightR at h
  simp only at h
  split at h
  · cases h; exact ⟨v_rightR _ hc.1, rfl⟩
  · cases h; exact ⟨FnP.nils (v_rightR [] hc.1) ⟨.inr ⟨rfl, _, rfl⟩, trivial⟩, rfl⟩
  · cases h
end Go.Proofs.Ytjlbdfehkbcmfaa
namespace Go.Proofs.Ytjlbdfehkbcmfaa
open Go.RowKit
set_option linter.all false

noncomputable def repliesX (a b : Reply) : Bool := @decide (a = b) (Classical.propDecidable _)
theorem repliesX_false {a b : Reply} (h : ¬ a = b) : repliesX a b = false := by simp [repliesX, h]
theorem repliesX_true {a b : Reply} (h : a = b) : repliesX a b = true := by simp [repliesX, h]
theorem repliesX_iff {a b : Reply} : repliesX a b = true ↔ a = b := by simp [repliesX]
def zeroR (r : Reply) : Bool := decide (r.why = 0) && !r.found && decide (r.value = none8) && decide (r.version = 0) && decide (r.pairs.length = 0)
def rightRep (r : Reply) : Bool := (decide (r.why = 0) || decide (r.why = 7)) && decide (r.value.size ≤ 64) && decide (0 ≤ r.version) && decide (r.pairs.length ≤ 8) && rightX r.pairs
def knownX (c : Int) : Bool := decide (1 ≤ c) && decide (c ≤ 8)
structure Owner where
  seq : Int
  reply : Reply
def Owner.cells (o : Owner) : List DV := [.d (.sc (.int .i64 o.seq)), .d (.sc (.int .i64 o.reply.why)), .d (.sc (.bool o.reply.found)), .d (.sc (.string o.reply.value)), .d (.sc (.int .i64 o.reply.version)), .d (.slc 3 o.reply.pairs)]
def ownsD (os : List Owner) : List DV := (os.map Owner.cells).flatten
def isOwn (cs : List DV) : Prop := ∃ os : List Owner, os.length = 8 ∧ cs = ownsD os ∧ ∀ o ∈ os, isP o.reply.pairs
theorem own_drop : ∀ (i : Nat) (os : List Owner) (h : i < os.length), (ownsD os).drop (i * 6) = (os[i]'h).cells ++ ownsD (os.drop (i + 1))
  | 0, o :: os, _ => rfl
  | i + 1, o :: os, h => by
      have h' : i < os.length := by simpa using h
      have e : ownsD (o :: os) = o.cells ++ ownsD os := rfl
      rw [e, Nat.succ_mul, Nat.add_comm, ← List.drop_drop]
      have e2 : (o.cells ++ ownsD os).drop 6 = ownsD os := rfl
      rw [e2, own_drop i os h']
      rfl
theorem own_pull (κ : List Nat) {cs : List DV} {os : List Owner} (hcs : cs = ownsD os) : cs.map (pullD κ) = cs := by
  subst hcs
  induction os with
  | nil => rfl
  | cons o os ih =>
    have e : ownsD (o :: os) = o.cells ++ ownsD os := rfl
    rw [e, List.map_append, ih]
    rfl
theorem own_pullL (κ : List Nat) {cs : List DV} {os : List Owner} (hcs : cs = ownsD os) : pullL κ cs = cs := (pullL_eq κ cs).trans (own_pull κ hcs)
theorem own_length : ∀ os : List Owner, (ownsD os).length = os.length * 6
  | [] => rfl
  | o :: os => by
      have e : ownsD (o :: os) = o.cells ++ ownsD os := rfl
      rw [e, List.length_append, own_length os, List.length_cons]
      have : o.cells.length = 6 := rfl
      omega
theorem own_cell {cs : List DV} {os : List Owner} (hcs : cs = ownsD os) (i : Nat) (h : i < os.length) : cs[i * 6]? = some (.d (.sc (.int .i64 (os[i]'h).seq))) ∧ cs[i * 6 + 1]? = some (.d (.sc (.int .i64 (os[i]'h).reply.why))) ∧ cs[i * 6 + 2]? = some (.d (.sc (.bool (os[i]'h).reply.found))) ∧
    cs[i * 6 + 3]? = some (.d (.sc (.string (os[i]'h).reply.value))) ∧ cs[i * 6 + 4]? = some (.d (.sc (.int .i64 (os[i]'h).reply.version))) ∧ cs[i * 6 + 5]? = some (.d (.slc 3 (os[i]'h).reply.pairs)) ∧ (cs.drop (i * 6)).take 6 = (os[i]'h).cells ∧ i * 6 + 6 ≤ cs.length := by
  have hd := own_drop i os h
  have hl := own_length os
  subst hcs
  have g : ∀ j, (ownsD os)[i * 6 + j]? = ((os[i]'h).cells ++ ownsD (os.drop (i + 1)))[j]? := fun j => by rw [← hd, List.getElem?_drop]
  refine ⟨g 0, g 1, g 2, g 3, g 4, g 5, ?_, by omega⟩
  rw [hd]
  rfl
theorem own_tail {cs : List DV} {os : List Owner} (hcs : cs = ownsD os) (i : Nat) (h : i < os.length) : (cs.drop (i * 6 + 1)).take 5 = [.d (.sc (.int .i64 (os[i]'h).reply.why)), .d (.sc (.bool (os[i]'h).reply.found)), .d (.sc (.string (os[i]'h).reply.value)), .d (.sc (.int .i64 (os[i]'h).reply.version)), .d (.slc 3 (os[i]'h).reply.pairs)] := by
  subst hcs
  rw [← List.drop_drop, own_drop i os h]
  rfl
theorem list8 {α : Type} : ∀ {l : List α}, l.length = 8 → ∃ a b c d e f g h, l = [a, b, c, d, e, f, g, h]
  | [a, b, c, d, e, f, g, h], _ => ⟨a, b, c, d, e, f, g, h, rfl⟩
noncomputable def ownOf (cs : List DV) (k : Nat) : Owner := ⟨A0.gi cs (k * 6), A0.gi cs (k * 6 + 1), A0.gb cs (k * 6 + 2), A0.gs cs (k * 6 + 3), A0.gi cs (k * 6 + 4), A0.gl cs (k * 6 + 5)⟩
theorem ownOf_D {cs : List DV} {os : List Owner} (hcs : cs = ownsD os) (i : Nat) (h : i < os.length) : ownOf cs i = os[i]'h := by
  obtain ⟨g0, g1, g2, g3, g4, g5, _, _⟩ := own_cell hcs i h
  simp only [ownOf, A0, g0, g1, g2, g3, g4, g5]
theorem splice_own : ∀ (k : Nat) (os : List Owner) (o : Owner), k < os.length → splice (ownsD os) (k * 6) o.cells = ownsD (os.set k o)
  | 0, q :: os, o, _ => rfl
  | k + 1, q :: os, o, h => by
      have h' : k < os.length := by simpa using h
      have ih := splice_own k os o h'
      have e : ownsD (q :: os) = q.cells ++ ownsD os := rfl
      have e2 : ownsD ((q :: os).set (k + 1) o) = q.cells ++ ownsD (os.set k o) := rfl
      rw [e, e2, ← ih, Nat.succ_mul]
      rfl
theorem splice_same {cs ds : List DV} {o n : Nat} (h : (cs.drop o).take n = ds) (hn : ds.length = n) : splice cs o ds = cs := by
  subst h
  simp only [splice]
  rw [hn, ← List.drop_drop, List.append_assoc, List.take_append_drop, List.take_append_drop]
theorem told_eq {k : Nat} {s s' : SL} {st st' : Store} (e : st = st') (h : toldP id s s') : Told k s st s' st' := by subst e; exact told_less h
def noteOs (os : List Owner) (client seq : Int) (r : Reply) : List Owner := bif knownX client then os.set (client - 1).toNat ⟨seq, r⟩ else os
theorem own_at {cs : List DV} {os : List Owner} (hos : os.length = 8) (hcs : cs = ownsD os) (hop : ∀ o ∈ os, isP o.reply.pairs) {client : Int} (hk : knownX client = true) : IntKind.wrap .i64 (client - 1) = client - 1 ∧ 0 ≤ client - 1 ∧ client - 1 < 8 ∧
    ∃ o : Owner, ownOf cs (client - 1).toNat = o ∧ isP o.reply.pairs ∧ cs[(client - 1).toNat * 6]? = some (.d (.sc (.int .i64 o.seq))) ∧ cs[(client - 1).toNat * 6 + 1]? = some (.d (.sc (.int .i64 o.reply.why))) ∧ cs[(client - 1).toNat * 6 + 2]? = some (.d (.sc (.bool o.reply.found))) ∧
    cs[(client - 1).toNat * 6 + 3]? = some (.d (.sc (.string o.reply.value))) ∧ cs[(client - 1).toNat * 6 + 4]? = some (.d (.sc (.int .i64 o.reply.version))) ∧ cs[(client - 1).toNat * 6 + 5]? = some (.d (.slc 3 o.reply.pairs)) ∧ (cs.drop ((client - 1).toNat * 6)).take 6 = o.cells ∧ (client - 1).toNat * 6 + 6 ≤ cs.length := by
  simp only [knownX, Bool.and_eq_true, decide_eq_true_eq] at hk
  have h : (client - 1).toNat < os.length := by omega
  exact ⟨wrap_i64 (by unfold r64; omega), by omega, by omega, _, ownOf_D hcs _ h, hop _ (List.getElem_mem h), own_cell hcs _ h⟩
def okO (o : Owner) : Bool := decide (0 ≤ o.seq) && decide (o.seq ≤ 1099511627776) && rightRep o.reply && (!decide (o.seq = 0) || zeroR o.reply)
theorem okO_eq (o : Owner) : okO o = !(bif bif bif decide (o.seq < 0) then true else decide (1099511627776 < o.seq) then true else !rightRep o.reply then true else bif decide (o.seq = 0) then !zeroR o.reply else false) := by
  have e1 : decide (0 ≤ o.seq) = !decide (o.seq < 0) := by by_cases h : o.seq < 0 <;> simp [h] <;> omega
  have e2 : decide (o.seq ≤ 1099511627776) = !decide (1099511627776 < o.seq) := by by_cases h : 1099511627776 < o.seq <;> simp [h] <;> omega
  rw [okO, e1, e2]
  cases decide (o.seq < 0) <;> cases decide (1099511627776 < o.seq) <;> cases rightRep o.reply <;> cases decide (o.seq = 0) <;> cases zeroR o.reply <;> rfl
def rightOs : List Owner → Bool
  | [] => true
  | o :: os => okO o && rightOs os
noncomputable def ownersOf (cs : List DV) : List Owner := [ownOf cs 0, ownOf cs 1, ownOf cs 2, ownOf cs 3, ownOf cs 4, ownOf cs 5, ownOf cs 6, ownOf cs 7]
theorem ownersOf_D {cs : List DV} {os : List Owner} (hos : os.length = 8) (hcs : cs = ownsD os) : ownersOf cs = os := by
  obtain ⟨a, b, c, d, e, f, g, h, rfl⟩ := list8 hos
  subst hcs
  rfl
noncomputable def rightO (cs : List DV) : Bool := rightOs (ownersOf cs)
noncomputable def stateX (xs : List (List PD)) (cs : List DV) : Bool := rightOs (ownersOf cs) && rightX xs
theorem odrop {os : List Owner} {i : Int} (h0 : 0 ≤ i) (h1 : i.toNat < os.length) : os.drop i.toNat = (os[i.toNat]'h1) :: os.drop (i + 1).toNat := by
  rw [List.drop_eq_getElem_cons h1]
  congr 2
  omega
def zeroRep : Reply := ⟨0, false, none8, 0, []⟩
theorem noteOs_length (os : List Owner) (client seq : Int) (r : Reply) : (noteOs os client seq r).length = os.length := by
  unfold noteOs
  cases knownX client <;> simp
theorem noteOs_isP {os : List Owner} (h : ∀ o ∈ os, isP o.reply.pairs) {r : Reply} (hr : isP r.pairs) (client seq : Int) : ∀ o ∈ noteOs os client seq r, isP o.reply.pairs := by
  intro o ho
  unfold noteOs at ho
  cases hk : knownX client with
  | false => rw [hk] at ho; exact h o ho
  | true =>
    rw [hk] at ho
    rcases List.mem_or_eq_of_mem_set ho with h1 | h1
    · exact h o h1
    · subst h1; exact hr
theorem own_closed : ∀ os : List Owner, closedL 0 (ownsD os) = true
  | [] => rfl
  | o :: os => own_closed os
theorem isOwn.closed {cs : List DV} (h : isOwn cs) : closedL 0 cs = true := by
  obtain ⟨os, _, rfl, _⟩ := h
  exact own_closed os
noncomputable def lookX (cs : List DV) (client seq : Int) : Int × Reply :=
  bif knownX client then (bif decide ((ownOf cs (client - 1).toNat).seq < seq) then (1, zeroRep) else bif decide (seq = (ownOf cs (client - 1).toNat).seq) then (2, (ownOf cs (client - 1).toNat).reply) else (3, zeroRep)) else (0, zeroRep)
noncomputable def noteX (cs : List DV) (client seq : Int) (r : Reply) : List DV := bif knownX client then splice cs ((client - 1).toNat * 6) (Owner.cells ⟨seq, r⟩) else cs
theorem noteX_D {cs : List DV} {os : List Owner} (hos : os.length = 8) (hcs : cs = ownsD os) (client seq : Int) (r : Reply) : noteX cs client seq r = ownsD (noteOs os client seq r) := by
  unfold noteX noteOs
  cases hk : knownX client with
  | false => exact hcs
  | true =>
    simp only [knownX, Bool.and_eq_true, decide_eq_true_eq] at hk
    rw [hcs]
    exact splice_own _ _ _ (by omega)
def idR (r : Reply) : Reply := r
def foundX : Reply := ⟨0, true, none8, 0, []⟩

/-- Cells that hold nothing hold a settled slice without elements. -/
def upC : DV → DV
  | .d (.sc (.slice none 0 0)) => .d (.slc 3 [])
  | d => d
def upCs (cs : List DV) : List DV := cs.map upC
theorem upC_cases (d : DV) : upC d = d ∨ (d = .d (.sc (.slice none 0 0)) ∧ upC d = .d (.slc 3 [])) := by
  unfold upC
  split
  · exact .inr ⟨rfl, rfl⟩
  · exact .inl rfl
theorem upL_upCs : ∀ cs : List DV, UpL cs (upCs cs)
  | [] => UpL.done
  | c :: cs => by
      rcases upC_cases c with h | ⟨h, h2⟩
      · have e : upCs (c :: cs) = c :: upCs cs := by simp [upCs, h]
        rw [e]
        exact UpL.keep (upL_upCs cs)
      · have e : upCs (c :: cs) = .d (.slc 3 []) :: upCs cs := by simp [upCs, h2]
        rw [e, h]
        exact UpL.nil (upL_upCs cs)
theorem closed_upCs : ∀ cs : List DV, closedL 0 (upCs cs) = closedL 0 cs
  | [] => rfl
  | c :: cs => by
      have e : upCs (c :: cs) = upC c :: upCs cs := rfl
      rw [e]
      simp only [closedL, closed_upCs cs]
      rcases upC_cases c with h | ⟨h, h2⟩
      · rw [h]
      · rw [h2, h]; rfl
def isOwnU (cs : List DV) : Prop := isOwn (upCs cs)
theorem isOwnU.closed {cs : List DV} (h : isOwnU cs) : closedL 0 cs = true := (closed_upCs cs).symm.trans (isOwn.closed h)
theorem clo1 {cs rest : List DV} (h : closedL 0 cs = true) (h2 : closedL 0 rest = true) : closedL 0 (.agg cs :: rest) = true := by simp only [closedL, closedD, h, h2, Bool.and_self]
theorem own_up {cs : List DV} (h : isOwn cs) : upCs cs = cs := by
  obtain ⟨os, h1, rfl, h2⟩ := h
  clear h1 h2
  induction os with
  | nil => rfl
  | cons o os ih =>
    have e : ownsD (o :: os) = o.cells ++ ownsD os := rfl
    have e2 : upCs (o.cells ++ ownsD os) = upCs o.cells ++ upCs (ownsD os) := List.map_append ..
    have e3 : upCs o.cells = o.cells := rfl
    rw [e, e2, e3, ih]
theorem isOwn.u {cs : List DV} (h : isOwn cs) : isOwnU cs := by
  unfold isOwnU
  rw [own_up h]
  exact h
noncomputable def lookU (cs : List DV) (client seq : Int) : Int × Reply := lookX (upCs cs) client seq
noncomputable def noteU (cs : List DV) (client seq : Int) (r : Reply) : List DV := noteX (upCs cs) client seq r
noncomputable def rightU (cs : List DV) : Bool := rightO (upCs cs)
noncomputable def stateU (xs : List (List PD)) (cs : List DV) : Bool := stateX xs (upCs cs)
theorem replies_zero (r : Reply) : repliesX r ⟨0, false, none8, 0, []⟩ = zeroR r := by
  rw [Bool.eq_iff_iff, repliesX_iff]
  obtain ⟨a, b, c, d, e⟩ := r
  simp [zeroR, and_assoc]

structure FsR where
  state : List (List PD) → List DV → Bool
  isOwn : List DV → Prop
  r64 : Int → Prop
  replies : Reply → Reply → Bool
  zero : Reply → Bool
  rrep : Reply → Bool
  rrepR : Reply → Bool
  copied : Reply → Reply
  known : Int → Bool
  found : Reply
  isP : List (List PD) → Prop
noncomputable def FsR0 : FsR where
  state := stateU
  isOwn := isOwnU
  r64 := r64
  replies := repliesX
  zero := zeroR
  rrep := rightRep
  rrepR := rightRep
  copied := idR
  known := knownX
  found := foundX
  isP := isP
set_option maxRecDepth 100000 in
theorem v_known (c : Int) : FnV Try.prog 17 [intD c] (boolD ((knownX c))) := by
  refine FnD_cbv (T := fun _ => tabY [] []) (H := fun _ => []) (tabY_ok _ _) noK_ok follows_mixed Try.func17 rfl Try.ntmps17 (by simp) fun A X W hA hX hW => ?_
  cbv
  repeat' first
    | (refine part (fun h => ?_) (fun h => ?_) <;> try cbv)
    | (refine And.intro ?_ ?_)
  all_goals subst hA hX hW
  all_goals try (show Region.lexB _ _ = true; kernel_rfl)
  all_goals try (show turnsB _ = true; kernel_rfl)
  all_goals simp only [A0, FsR0, decide_eq_true_eq, decide_eq_false_iff_not, Bool.not_eq_true', Bool.not_eq_false'] at *
  all_goals first
    | (refine ret_v ?_ rfl
       first
         | rfl
         | (simp_all [knownX, boolD, intD, strD]; done)
         | (simp_all [knownX, boolD, intD, strD]; rfl)
         | (simp only [knownX, boolD, intD, strD] at *; congr 3; grind)
         | (simp only [knownX, boolD, intD, strD] at *; grind))
    | (intros; simp_all [bytes1, maxLen]; done)
    | (intros; simp only [bytes1, maxLen] at *; omega)
    | grind
def kn_known (F : FsR) : FuncId × (List DV → RV) := (17, fun args => match args with
  | [.d (.sc (.int .i64 c))] => some ([], boolD ((F.known c)))
  | _ => none)
theorem ok_known (args : List DV) (cs : List Prop) (r : DV) (h : (kn_known FsR0).2 args = some (cs, r)) (hc : allP cs True) : FnV Try.prog 17 args r ∧ closedL 0 args = true := by
  unfold kn_known at h
  simp only at h
  split at h
  · cases h; exact ⟨v_known _, rfl⟩
  · cases h
set_option maxRecDepth 100000 in
theorem v_zero (r : Reply) : FnV Try.prog 22 [Reply.D r] (boolD ((zeroR r))) := by
  obtain ⟨r_why, r_found, r_value, r_version, r_pairs⟩ := r
  refine FnD_cbv (T := fun _ => tabY [] []) (H := fun _ => []) (tabY_ok _ _) noK_ok follows_mixed Try.func22 rfl Try.ntmps22 (by simp) fun A X W hA hX hW => ?_
  cbv
  repeat' first
    | (refine part (fun h => ?_) (fun h => ?_) <;> try cbv)
    | (refine And.intro ?_ ?_)
  all_goals subst hA hX hW
  all_goals try (show Region.lexB _ _ = true; kernel_rfl)
  all_goals try (show turnsB _ = true; kernel_rfl)
  all_goals simp only [A0, FsR0, decide_eq_true_eq, decide_eq_false_iff_not, Bool.not_eq_true', Bool.not_eq_false'] at *
  all_goals first
    | (refine ret_v ?_ rfl
       first
         | rfl
         | (simp_all [zeroR, Reply.D, boolD, intD, strD]; done)
         | (simp_all [zeroR, Reply.D, boolD, intD, strD]; rfl)
         | (simp only [zeroR, Reply.D, boolD, intD, strD] at *; congr 3; grind)
         | (simp only [zeroR, Reply.D, boolD, intD, strD] at *; grind))
    | (intros; simp_all [bytes1, maxLen]; done)
    | (intros; simp only [bytes1, maxLen] at *; omega)
    | grind
def kn_zero (F : FsR) : FuncId × (List DV → RV) := (22, fun args => match args with
  | [.agg [.d (.sc (.int .i64 r_why)), .d (.sc (.bool r_found)), .d (.sc (.string r_value)), .d (.sc (.int .i64 r_version)), .d (.slc 3 r_pairs)]] => some ([], boolD ((F.zero ⟨r_why, r_found, r_value, r_version, r_pairs⟩)))
  | [.agg [.d (.sc (.int .i64 r_why)), .d (.sc (.bool r_found)), .d (.sc (.string r_value)), .d (.sc (.int .i64 r_version)), .d (.sc (.slice none 0 0))]] => some ([], boolD ((F.zero ⟨r_why, r_found, r_value, r_version, []⟩)))
  | _ => none)
theorem ok_zero (args : List DV) (cs : List Prop) (r : DV) (h : (kn_zero FsR0).2 args = some (cs, r)) (hc : allP cs True) : FnV Try.prog 22 args r ∧ closedL 0 args = true := by
  unfold kn_zero at h
  simp only at h
  split at h
  · cases h; exact ⟨v_zero ⟨_, _, _, _, _⟩, rfl⟩
  · cases h; exact ⟨FnP.ups (v_zero ⟨_, _, _, _, []⟩) (UpL.agg (UpL.keep (UpL.keep (UpL.keep (UpL.keep (UpL.nil UpL.done))))) UpL.done), rfl⟩
  · cases h
set_option maxRecDepth 100000 in
theorem v_rrep (r : Reply) (hp0 : FsR0.isP r.pairs) : FnV Try.prog 21 [Reply.D r] (boolD ((rightRep r))) := by
  obtain ⟨r_why, r_found, r_value, r_version, r_pairs⟩ := r
  obtain ⟨GFsK, hGFsK⟩ : ∃ F, F = FsK0 := ⟨_, rfl⟩
  have hH : SoundK Try.prog [kn_right GFsK] := by subst hGFsK; exact orK_ok ok_right noK_ok
  refine FnD_cbv (T := fun _ => tabY [] []) (H := fun _ => [kn_right GFsK]) (tabY_ok _ _) hH follows_mixed Try.func21 rfl Try.ntmps21 (by simp) fun A X W hA hX hW => ?_
  clear hH
  cbv
  repeat' first
    | (refine part (fun h => ?_) (fun h => ?_) <;> try cbv)
    | (refine And.intro ?_ ?_)
  all_goals subst hA hX hW hGFsK
  all_goals try (show Region.lexB _ _ = true; kernel_rfl)
  all_goals try (show turnsB _ = true; kernel_rfl)
  all_goals simp only [A0, FsK0, FsR0, decide_eq_true_eq, decide_eq_false_iff_not, Bool.not_eq_true', Bool.not_eq_false'] at *
  all_goals first
    | (refine ret_v ?_ rfl
       first
         | rfl
         | (simp_all [rightRep, Reply.D, boolD, intD, strD]; done)
         | (simp_all [rightRep, Reply.D, boolD, intD, strD]; rfl)
         | (simp only [rightRep, Reply.D, boolD, intD, strD] at *; congr 3; grind)
         | (simp only [rightRep, Reply.D, boolD, intD, strD] at *; grind))
    | (intros; simp_all [bytes1, maxLen]; done)
    | (intros; simp only [bytes1, maxLen] at *; omega)
    | grind
def kn_rrep (F : FsR) : FuncId × (List DV → RV) := (21, fun args => match args with
  | [.agg [.d (.sc (.int .i64 r_why)), .d (.sc (.bool r_found)), .d (.sc (.string r_value)), .d (.sc (.int .i64 r_version)), .d (.slc 3 r_pairs)]] => some ([F.isP r_pairs], boolD ((F.rrep ⟨r_why, r_found, r_value, r_version, r_pairs⟩)))
  | [.agg [.d (.sc (.int .i64 r_why)), .d (.sc (.bool r_found)), .d (.sc (.string r_value)), .d (.sc (.int .i64 r_version)), .d (.sc (.slice none 0 0))]] => some ([F.isP []], boolD ((F.rrep ⟨r_why, r_found, r_value, r_version, []⟩)))
  | _ => none)
theorem ok_rrep (args : List DV) (cs : List Prop) (r : DV) (h : (kn_rrep FsR0).2 args = some (cs, r)) (hc : allP cs True) : FnV Try.prog 21 args r ∧ closedL 0 args = true := by
  unfold kn_rrep at h
  simp only at h
  split at h
  · cases h; exact ⟨v_rrep ⟨_, _, _, _, _⟩ hc.1, rfl⟩
  · cases h; exact ⟨FnP.ups (v_rrep ⟨_, _, _, _, []⟩ hc.1) (UpL.agg (UpL.keep (UpL.keep (UpL.keep (UpL.keep (UpL.nil UpL.done))))) UpL.done), rfl⟩
  · cases h
set_option maxRecDepth 100000 in
theorem v_rrepR (r : Reply) (hp0 : FsR0.isP r.pairs) : FnV Try.prog 19 [Reply.D r] (boolD ((rightRep r))) := by
  obtain ⟨r_why, r_found, r_value, r_version, r_pairs⟩ := r
  obtain ⟨GFsK, hGFsK⟩ : ∃ F, F = FsK0 := ⟨_, rfl⟩
  have hH : SoundK Try.prog [kn_rightR GFsK] := by subst hGFsK; exact orK_ok ok_rightR noK_ok
  refine FnD_cbv (T := fun _ => tabY [] []) (H := fun _ => [kn_rightR GFsK]) (tabY_ok _ _) hH follows_mixed Try.func19 rfl Try.ntmps19 (by simp) fun A X W hA hX hW => ?_
  clear hH
  cbv
  repeat' first
    | (refine part (fun h => ?_) (fun h => ?_) <;> try cbv)
    | (refine And.intro ?_ ?_)
  all_goals subst hA hX hW hGFsK
  all_goals try (show Region.lexB _ _ = true; kernel_rfl)
  all_goals try (show turnsB _ = true; kernel_rfl)
  all_goals simp only [A0, FsK0, FsR0, decide_eq_true_eq, decide_eq_false_iff_not, Bool.not_eq_true', Bool.not_eq_false'] at *
  all_goals first
    | (refine ret_v ?_ rfl
       first
         | rfl
         | (simp_all [rightRep, Reply.D, boolD, intD, strD]; done)
         | (simp_all [rightRep, Reply.D, boolD, intD, strD]; rfl)
         | (simp only [rightRep, Reply.D, boolD, intD, strD] at *; congr 3; grind)
         | (simp only [rightRep, Reply.D, boolD, intD, strD] at *; grind))
    | (intros; simp_all [bytes1, maxLen]; done)
    | (intros; simp only [bytes1, maxLen] at *; omega)
    | grind
def kn_rrepR (F : FsR) : FuncId × (List DV → RV) := (19, fun args => match args with
  | [.agg [.d (.sc (.int .i64 r_why)), .d (.sc (.bool r_found)), .d (.sc (.string r_value)), .d (.sc (.int .i64 r_version)), .d (.slc 3 r_pairs)]] => some ([F.isP r_pairs], boolD ((F.rrepR ⟨r_why, r_found, r_value, r_version, r_pairs⟩)))
  | [.agg [.d (.sc (.int .i64 r_why)), .d (.sc (.bool r_found)), .d (.sc (.string r_value)), .d (.sc (.int .i64 r_version)), .d (.sc (.slice none 0 0))]] => some ([F.isP []], boolD ((F.rrepR ⟨r_why, r_found, r_value, r_version, []⟩)))
  | _ => none)
theorem ok_rrepR (args : List DV) (cs : List Prop) (r : DV) (h : (kn_rrepR FsR0).2 args = some (cs, r)) (hc : allP cs True) : FnV Try.prog 19 args r ∧ closedL 0 args = true := by
  unfold kn_rrepR at h
  simp only at h
  split at h
  · cases h; exact ⟨v_rrepR ⟨_, _, _, _, _⟩ hc.1, rfl⟩
  · cases h; exact ⟨FnP.ups (v_rrepR ⟨_, _, _, _, []⟩ hc.1) (UpL.agg (UpL.keep (UpL.keep (UpL.keep (UpL.keep (UpL.nil UpL.done))))) UpL.done), rfl⟩
  · cases h
set_option maxRecDepth 100000 in
theorem v_copied (r : Reply) (hp0 : FsR0.isP r.pairs) : FnV Try.prog 18 [Reply.D r] (Reply.D ((idR r))) := by
  obtain ⟨r_why, r_found, r_value, r_version, r_pairs⟩ := r
  obtain ⟨GFsK, hGFsK⟩ : ∃ F, F = FsK0 := ⟨_, rfl⟩
  have hH : SoundK Try.prog [kn_clone GFsK] := by subst hGFsK; exact orK_ok ok_clone noK_ok
  refine FnD_cbv (T := fun _ => tabY [] []) (H := fun _ => [kn_clone GFsK]) (tabY_ok _ _) hH follows_mixed Try.func18 rfl Try.ntmps18 (by simp) fun A X W hA hX hW => ?_
  clear hH
  cbv
  repeat' first
    | (refine part (fun h => ?_) (fun h => ?_) <;> try cbv)
    | (refine And.intro ?_ ?_)
  all_goals subst hA hX hW hGFsK
  all_goals try (show Region.lexB _ _ = true; kernel_rfl)
  all_goals try (show turnsB _ = true; kernel_rfl)
  all_goals simp only [A0, FsK0, FsR0, decide_eq_true_eq, decide_eq_false_iff_not, Bool.not_eq_true', Bool.not_eq_false'] at *
  all_goals first
    | (refine ret_v ?_ rfl
       first
         | rfl
         | (simp_all [idR, Reply.D, boolD, intD, strD]; done)
         | (simp_all [idR, Reply.D, boolD, intD, strD]; rfl)
         | (simp only [idR, Reply.D, boolD, intD, strD] at *; congr 3; grind)
         | (simp only [idR, Reply.D, boolD, intD, strD] at *; grind))
    | (intros; simp_all [bytes1, maxLen]; done)
    | (intros; simp only [bytes1, maxLen] at *; omega)
    | grind
def kn_copied (F : FsR) : FuncId × (List DV → RV) := (18, fun args => match args with
  | [.agg [.d (.sc (.int .i64 r_why)), .d (.sc (.bool r_found)), .d (.sc (.string r_value)), .d (.sc (.int .i64 r_version)), .d (.slc 3 r_pairs)]] => some ([F.isP r_pairs], Reply.D ((F.copied ⟨r_why, r_found, r_value, r_version, r_pairs⟩)))
  | [.agg [.d (.sc (.int .i64 r_why)), .d (.sc (.bool r_found)), .d (.sc (.string r_value)), .d (.sc (.int .i64 r_version)), .d (.sc (.slice none 0 0))]] => some ([F.isP []], Reply.D ((F.copied ⟨r_why, r_found, r_value, r_version, []⟩)))
  | _ => none)
theorem ok_copied (args : List DV) (cs : List Prop) (r : DV) (h : (kn_copied FsR0).2 args = some (cs, r)) (hc : allP cs True) : FnV Try.prog 18 args r ∧ closedL 0 args = true := by
  unfold kn_copied at h
  simp only at h
  split at h
  · cases h; exact ⟨v_copied ⟨_, _, _, _, _⟩ hc.1, rfl⟩
  · cases h; exact ⟨FnP.ups (v_copied ⟨_, _, _, _, []⟩ hc.1) (UpL.agg (UpL.keep (UpL.keep (UpL.keep (UpL.keep (UpL.nil UpL.done))))) UpL.done), rfl⟩
  · cases h
set_option maxRecDepth 100000 in
theorem v_found : FnV Try.prog 9 [] (Reply.D foundX) := by
  refine FnD_cbv (T := fun _ => tabY [] []) (H := fun _ => []) (tabY_ok _ _) noK_ok follows_mixed Try.func9 rfl Try.ntmps9 (by simp) fun A X W hA hX hW => ?_
  cbv
  subst hA hX hW
  exact ret_up ⟨_, rfl, UpL.keep (UpL.keep (UpL.keep (UpL.keep (UpL.nil UpL.done))))⟩ rfl
def kn_found (F : FsR) : FuncId × (List DV → RV) := (9, fun args => match args with
  | [] => some ([], Reply.D F.found)
  | _ => none)
theorem ok_found (args : List DV) (cs : List Prop) (r : DV) (h : (kn_found FsR0).2 args = some (cs, r)) (hc : allP cs True) : FnV Try.prog 9 args r ∧ closedL 0 args = true := by
  unfold kn_found at h
  simp only at h
  split at h
  · cases h; exact ⟨v_found, rfl⟩
  · cases h
set_option maxRecDepth 100000 in
theorem v_replies (a : Reply) (b : Reply) (hp0 : FsR0.isP a.pairs) (hp1 : FsR0.isP b.pairs) : FnV Try.prog 14 [Reply.D a, Reply.D b] (boolD ((repliesX a b))) := by
  obtain ⟨a_why, a_found, a_value, a_version, a_pairs⟩ := a
  obtain ⟨b_why, b_found, b_value, b_version, b_pairs⟩ := b
  obtain ⟨ps, hxs, hl⟩ := hp0
  obtain ⟨qs, hys, hm⟩ := hp1
  simp only at hxs hys
  have hlx : a_pairs.length = ps.length := by rw [hxs]; exact pairsX_length ps
  have hly : b_pairs.length = qs.length := by rw [hys]; exact pairsX_length qs
  refine FnD_cbv (T := fun _ => tabY [51, 56] []) (H := fun _ => []) (tabY_ok _ _) noK_ok follows_mixed Try.func14 rfl Try.ntmps14 (by simp) fun A X W hA hX hW => ?_
  cbv
  repeat' (refine And.intro ?_ ?_)
  all_goals try (subst hA; intro hq; exact hq)
  all_goals try (subst hA; intro hq; simpa [A0] using hq)
  refine part (fun h => ?_) (fun h => ?_)
  · cbv
    subst hA hX hW
    refine ret_v ?_ rfl
    refine congrArg boolD (repliesX_false ?_).symm
    intro e
    injection e with e1 e2 e3 e4 e5
    subst e1 e2 e3 e4 e5
    simp [A0] at h
  · cbv
    refine loopL (T := fun _ => tabY [51, 56] []) (H := fun _ => []) (tabY_ok _ _) noK_ok follows_mixed hA hX (fun i : Int => 0 ≤ i ∧ i ≤ ps.length ∧ ps.take i.toNat = qs.take i.toNat)
      (fun i => [(2, .ref 0 0 0), (3, .ref 1 0 0), (5, .d (.sc (.int .i64 i)))]) (fun _ => [⟨25, [.d (.sc (.int .i64 a_why)), .d (.sc (.bool a_found)), .d (.sc (.string a_value)), .d (.sc (.int .i64 a_version)), .d (.slc 3 a_pairs)], false, 0, true⟩, ⟨25, [.d (.sc (.int .i64 b_why)), .d (.sc (.bool b_found)), .d (.sc (.string b_value)), .d (.sc (.int .i64 b_version)), .d (.slc 3 b_pairs)], false, 0, true⟩])
      (fun i => (ps.length : Int).toNat - i.toNat) 0 ?_ ?_ ?_
    · exact ⟨by omega, by omega, by simp⟩
    · exact told_less (by simp [toldP, getS])
    rintro R i hR ⟨i0, i1, i2⟩
    cbv
    have hh : a_why = b_why ∧ a_found = b_found ∧ a_value = b_value ∧ a_version = b_version ∧ ps.length = qs.length := by
      subst hA
      simp only [A0] at h
      simp [hlx, hly] at h
      obtain ⟨⟨⟨⟨h1, h2⟩, h3⟩, h4⟩, h5⟩ := h
      exact ⟨h1, h2, h3, h4, by omega⟩
    refine part (fun h2 => ?_) (fun h2 => ?_)
    · cbv
      replace hlx : a_pairs.length = ps.length := hlx
      replace hly : b_pairs.length = qs.length := hly
      replace i0 : 0 ≤ i := i0
      replace hl : ps.length ≤ 4194304 := hl
      replace hh : a_why = b_why ∧ a_found = b_found ∧ a_value = b_value ∧ a_version = b_version ∧ ps.length = qs.length := hh
      have hi : i < (ps.length : Int) := by
        subst hA
        simp only [A0, decide_eq_true_eq] at h2
        replace h2 : i < (a_pairs.length : Int) := h2
        omega
      have hj : i < (qs.length : Int) := by omega
      have hrx := prow hxs i0 hi
      have hry := prow hys i0 hj
      have hdx := List.take_succ_eq_append_getElem (show i.toNat < ps.length by omega)
      have hdy := List.take_succ_eq_append_getElem (show i.toNat < qs.length by omega)
      have hgx : ps[i.toNat]? = some (ps[i.toNat]'(by omega)) := List.getElem?_eq_getElem _
      have hgy : qs[i.toNat]? = some (qs[i.toNat]'(by omega)) := List.getElem?_eq_getElem _
      generalize ps[i.toNat]'(by omega) = p at hrx hdx hgx
      generalize qs[i.toNat]'(by omega) = q at hry hdy hgy
      repeat' first
        | (refine part (fun h3 => ?_) (fun h3 => ?_) <;> try cbv)
        | (refine And.intro ?_ ?_)
      all_goals subst hA hX hW hR
      all_goals first
        | (show Region.lexB _ _ = true; kernel_rfl)
        | rfl
        | (show 0 ≤ i ∧ i < (a_pairs.length : Int); omega)
        | (show 0 ≤ i ∧ i < (b_pairs.length : Int); omega)
        | (simp only [A0, hrx]; simp [Pair.row]; done)
        | (simp only [A0, hry]; simp [Pair.row]; done)
        | skip
      · refine ret_v ?_ rfl
        refine congrArg boolD (repliesX_false ?_).symm
        intro e
        injection e with e1 e2 e3 e4 e5
        have e6 : ps = qs := by rw [← pairsOf_X ps, ← pairsOf_X qs, ← hxs, ← hys, e5]
        subst e6
        rw [hgx] at hgy
        have e7 : p = q := Option.some.inj hgy
        subst e7
        simp only [A0, hrx, hry] at h3
        simp [Pair.row] at h3
      · have e7 : p = q := by
          simp only [A0, hrx, hry] at h3
          simp [Pair.row] at h3
          obtain ⟨p1, p2, p3⟩ := p
          obtain ⟨q1, q2, q3⟩ := q
          simp_all
        have hi' : i < (ps.length : Int) := hi
        have hl' : ps.length ≤ 4194304 := hl
        have i0' : 0 ≤ i := i0
        have hw : IntKind.wrap .i64 (i + 1) = i + 1 := wrap_i64 (by unfold r64; omega)
        refine ⟨i + 1, ⟨by omega, by omega, ?_⟩, by omega, told_less ?_⟩
        · rw [show (i + 1).toNat = i.toNat + 1 by omega, hdx, hdy, i2, e7]
        · simp [toldP, getS, A0, hw]
    · cbv
      replace hlx : a_pairs.length = ps.length := hlx
      replace i1 : i ≤ (ps.length : Int) := i1
      replace hh : a_why = b_why ∧ a_found = b_found ∧ a_value = b_value ∧ a_version = b_version ∧ ps.length = qs.length := hh
      subst hA hX hW hR
      simp only [A0, decide_eq_false_iff_not] at h2
      replace h2 : ¬ i < (a_pairs.length : Int) := h2
      refine ret_v ?_ rfl
      have hil : i.toNat = ps.length := by omega
      rw [hil, List.take_length, hh.2.2.2.2, List.take_length] at i2
      obtain ⟨e1, e2, e3, e4, _⟩ := hh
      refine congrArg boolD (repliesX_true ?_).symm
      rw [e1, e2, e3, e4, hxs, hys, i2]
def kn_replies (F : FsR) : FuncId × (List DV → RV) := (14, fun args => match args with
  | [.agg [.d (.sc (.int .i64 a_why)), .d (.sc (.bool a_found)), .d (.sc (.string a_value)), .d (.sc (.int .i64 a_version)), .d (.slc 3 a_pairs)], .agg [.d (.sc (.int .i64 b_why)), .d (.sc (.bool b_found)), .d (.sc (.string b_value)), .d (.sc (.int .i64 b_version)), .d (.slc 3 b_pairs)]] => some ([F.isP a_pairs, F.isP b_pairs], boolD ((F.replies ⟨a_why, a_found, a_value, a_version, a_pairs⟩ ⟨b_why, b_found, b_value, b_version, b_pairs⟩)))
  | [.agg [.d (.sc (.int .i64 a_why)), .d (.sc (.bool a_found)), .d (.sc (.string a_value)), .d (.sc (.int .i64 a_version)), .d (.sc (.slice none 0 0))], .agg [.d (.sc (.int .i64 b_why)), .d (.sc (.bool b_found)), .d (.sc (.string b_value)), .d (.sc (.int .i64 b_version)), .d (.slc 3 b_pairs)]] => some ([F.isP [], F.isP b_pairs], boolD ((F.replies ⟨a_why, a_found, a_value, a_version, []⟩ ⟨b_why, b_found, b_value, b_version, b_pairs⟩)))
  | [.agg [.d (.sc (.int .i64 a_why)), .d (.sc (.bool a_found)), .d (.sc (.string a_value)), .d (.sc (.int .i64 a_version)), .d (.slc 3 a_pairs)], .agg [.d (.sc (.int .i64 b_why)), .d (.sc (.bool b_found)), .d (.sc (.string b_value)), .d (.sc (.int .i64 b_version)), .d (.sc (.slice none 0 0))]] => some ([F.isP a_pairs, F.isP []], boolD ((F.replies ⟨a_why, a_found, a_value, a_version, a_pairs⟩ ⟨b_why, b_found, b_value, b_version, []⟩)))
  | [.agg [.d (.sc (.int .i64 a_why)), .d (.sc (.bool a_found)), .d (.sc (.string a_value)), .d (.sc (.int .i64 a_version)), .d (.sc (.slice none 0 0))], .agg [.d (.sc (.int .i64 b_why)), .d (.sc (.bool b_found)), .d (.sc (.string b_value)), .d (.sc (.int .i64 b_version)), .d (.sc (.slice none 0 0))]] => some ([F.isP [], F.isP []], boolD ((F.replies ⟨a_why, a_found, a_value, a_version, []⟩ ⟨b_why, b_found, b_value, b_version, []⟩)))
  | _ => none)
theorem ok_replies (args : List DV) (cs : List Prop) (r : DV) (h : (kn_replies FsR0).2 args = some (cs, r)) (hc : allP cs True) : FnV Try.prog 14 args r ∧ closedL 0 args = true := by
  unfold kn_replies at h
  simp only at h
  split at h
  · cases h; exact ⟨v_replies ⟨_, _, _, _, _⟩ ⟨_, _, _, _, _⟩ hc.1 hc.2.1, rfl⟩
  · cases h; exact ⟨FnP.ups (v_replies ⟨_, _, _, _, []⟩ ⟨_, _, _, _, _⟩ hc.1 hc.2.1) (UpL.agg (UpL.keep (UpL.keep (UpL.keep (UpL.keep (UpL.nil UpL.done))))) (UpL.agg (UpL.keep (UpL.keep (UpL.keep (UpL.keep (UpL.keep UpL.done))))) UpL.done)), rfl⟩
  · cases h; exact ⟨FnP.ups (v_replies ⟨_, _, _, _, _⟩ ⟨_, _, _, _, []⟩ hc.1 hc.2.1) (UpL.agg (UpL.keep (UpL.keep (UpL.keep (UpL.keep (UpL.keep UpL.done))))) (UpL.agg (UpL.keep (UpL.keep (UpL.keep (UpL.keep (UpL.nil UpL.done))))) UpL.done)), rfl⟩
  · cases h; exact ⟨FnP.ups (v_replies ⟨_, _, _, _, []⟩ ⟨_, _, _, _, []⟩ hc.1 hc.2.1) (UpL.agg (UpL.keep (UpL.keep (UpL.keep (UpL.keep (UpL.nil UpL.done))))) (UpL.agg (UpL.keep (UpL.keep (UpL.keep (UpL.keep (UpL.nil UpL.done))))) UpL.done)), rfl⟩
  · cases h
set_option maxRecDepth 100000 in
theorem v_look (cs : List DV) (client : Int) (seq : Int) (hp0 : isOwn cs) : FnV Try.prog 13 [.agg cs, intD client, intD seq] (.tup [intD (((lookX cs client seq)).1), Reply.D (((lookX cs client seq)).2)]) := by
  obtain ⟨os, hos, hcs, hop⟩ := hp0
  obtain ⟨F, hF⟩ : ∃ F, F = FsR0 := ⟨_, rfl⟩
  have hH : SoundK Try.prog [kn_known F, kn_copied F] := by subst hF; exact orK_ok ok_known (orK_ok ok_copied noK_ok)
  refine FnD_cbv (T := fun _ => tabY [0, 15] []) (H := fun _ => [kn_known F, kn_copied F]) (tabY_ok _ _) hH follows_mixed Try.func13 rfl Try.ntmps13 (by simp) fun A X W hA hX hW => ?_
  clear hH
  cbv
  refine And.intro (by subst hA; show cs.length ≤ 1000000; rw [hcs, own_length]; omega) ?_
  refine part (fun hk => ?_) (fun hk => ?_) <;> cbv
  · subst hA hX hW hF
    replace hk : knownX client = false := by simpa [A0, FsR0] using hk
    refine ret_up ?_ rfl
    rw [lookX, hk]
    exact ⟨_, rfl, UpL.keep (UpL.agg (UpL.keep (UpL.keep (UpL.keep (UpL.keep (UpL.nil UpL.done))))) UpL.done)⟩
  · have hk' : knownX client = true := by subst hA hF; simpa [A0, FsR0] using hk
    obtain ⟨ew, k0, k1, o, eo, ho, g0, g1, g2, g3, g4, g5, gt, gl⟩ := own_at hos hcs hop hk'
    refine ⟨by subst hA; rfl, by subst hA; simp only [A0, ew]; exact ⟨k0, k1⟩, by subst hA; rfl, by subst hA; simp only [A0, ew, Nat.zero_add, g0, g1, g2, g3, g4, g5, gt]; exact ⟨rfl, gl, rfl⟩, ?_⟩
    refine part (fun h1 => ?_) (fun h1 => ?_) <;> try cbv
    · subst hA hX hW hF
      simp only [A0, ew, Nat.zero_add, g0] at h1
      refine ret_up ?_ rfl
      rw [lookX, hk', eo, h1]
      exact ⟨_, rfl, UpL.keep (UpL.agg (UpL.keep (UpL.keep (UpL.keep (UpL.keep (UpL.nil UpL.done))))) UpL.done)⟩
    · refine part (fun h2 => ?_) (fun h2 => ?_) <;> try cbv
      · subst hA hX hW hF
        simp only [A0, ew, Nat.zero_add, g0] at h1 h2
        refine ⟨?_, ?_⟩
        · show isP _
          simp only [A0, ew, Nat.zero_add, g5]
          exact ho
        · refine ret_v ?_ rfl
          rw [lookX, hk', eo, h1, h2]
          simp only [A0, ew, Nat.zero_add, g1, g2, g3, g4, g5]
          rfl
      · subst hA hX hW hF
        simp only [A0, ew, Nat.zero_add, g0] at h1 h2
        refine ret_up ?_ rfl
        rw [lookX, hk', eo, h1, h2]
        exact ⟨_, rfl, UpL.keep (UpL.agg (UpL.keep (UpL.keep (UpL.keep (UpL.keep (UpL.nil UpL.done))))) UpL.done)⟩
set_option maxRecDepth 100000 in
theorem v_note (cs : List DV) (client : Int) (seq : Int) (r : Reply) (hp0 : isOwn cs) (hp1 : FsR0.isP r.pairs) : FnV Try.prog 8 [.agg cs, intD client, intD seq, Reply.D r] (.agg ((noteX cs client seq r))) := by
  obtain ⟨r_why, r_found, r_value, r_version, r_pairs⟩ := r
  obtain ⟨os, hos, hcs, hop⟩ := hp0
  have hds := noteX_D hos hcs client seq ⟨r_why, r_found, r_value, r_version, r_pairs⟩
  have hos' : (noteOs os client seq ⟨r_why, r_found, r_value, r_version, r_pairs⟩).length = 8 := (noteOs_length _ _ _ _).trans hos
  have hop' := noteOs_isP hop (r := ⟨r_why, r_found, r_value, r_version, r_pairs⟩) hp1 client seq
  obtain ⟨os', heo⟩ : ∃ os', os' = noteOs os client seq ⟨r_why, r_found, r_value, r_version, r_pairs⟩ := ⟨_, rfl⟩
  obtain ⟨ds, hde⟩ : ∃ ds, ds = noteX cs client seq ⟨r_why, r_found, r_value, r_version, r_pairs⟩ := ⟨_, rfl⟩
  rw [← heo] at hds hos' hop'
  rw [← hde] at hds
  obtain ⟨F, hF⟩ : ∃ F, F = FsR0 := ⟨_, rfl⟩
  have hH : SoundK Try.prog [kn_known F, kn_copied F] := by subst hF; exact orK_ok ok_known (orK_ok ok_copied noK_ok)
  refine FnD_cbv (T := fun _ => tabY [0, 4, 17, 23, 24, 27, 28] []) (H := fun _ => [kn_known F, kn_copied F]) (tabY_ok _ _) hH follows_mixed Try.func8 rfl Try.ntmps8 (by simp) fun A X W hA hX hW => ?_
  cbv
  refine And.intro (by subst hA; show cs.length ≤ 1000000; rw [hcs, own_length]; omega) ?_
  refine part (fun hk => ?_) (fun hk => ?_) <;> cbv
  · have hk' : knownX client = true := by subst hA hF; simpa [A0, FsR0] using hk
    obtain ⟨ew, k0, k1, o, eo, ho, g0, g1, g2, g3, g4, g5, gt, gl⟩ := own_at hos hcs hop hk'
    have e : A.spl cs (A.off 0 (A.bin .sub .i64 client 1) 6) [.d (.sc (.int .i64 seq)), .d (.sc (.int .i64 r_why)), .d (.sc (.bool r_found)), .d (.sc (.string r_value)), .d (.sc (.int .i64 r_version)), .d (.slc 3 r_pairs)] = ds := by
      subst hA
      rw [hde, noteX, hk']
      simp only [A0, ew, Nat.zero_add]
      rfl
    refine ⟨by subst hA; rfl, by subst hA; simp only [A0, ew]; exact ⟨k0, k1⟩, by subst hA; rfl, by subst hA; simp only [A0, ew, Nat.zero_add]; exact gl, ?_⟩
    refine loopL (T := fun _ => tabY [0, 4, 17, 23, 24, 27, 28] []) (H := fun _ => [kn_known F, kn_copied F]) (tabY_ok _ _) hH follows_mixed hA hX (fun i : Int => 0 ≤ i ∧ i ≤ 8)
      (fun i => [(4, .ref 0 0 0), (8, .ref 2 0 0), (18, .d (.sc (.int .i64 i)))]) (fun _ => [⟨28, ds, false, 0, true⟩, ⟨25, [.d (.sc (.int .i64 r_why)), .d (.sc (.bool r_found)), .d (.sc (.string r_value)), .d (.sc (.int .i64 r_version)), .d (.slc 3 r_pairs)], false, 0, true⟩, ⟨28, [.d (.sc (.int .i64 0)), .d (.sc (.int .i64 0)), .d (.sc (.bool false)), .d (.sc (.string none8)), .d (.sc (.int .i64 0)), .d (.sc (.slice none 0 0)), .d (.sc (.int .i64 0)), .d (.sc (.int .i64 0)), .d (.sc (.bool false)), .d (.sc (.string none8)), .d (.sc (.int .i64 0)), .d (.sc (.slice none 0 0)), .d (.sc (.int .i64 0)), .d (.sc (.int .i64 0)), .d (.sc (.bool false)), .d (.sc (.string none8)), .d (.sc (.int .i64 0)), .d (.sc (.slice none 0 0)), .d (.sc (.int .i64 0)), .d (.sc (.int .i64 0)), .d (.sc (.bool false)), .d (.sc (.string none8)), .d (.sc (.int .i64 0)), .d (.sc (.slice none 0 0)), .d (.sc (.int .i64 0)), .d (.sc (.int .i64 0)), .d (.sc (.bool false)), .d (.sc (.string none8)), .d (.sc (.int .i64 0)), .d (.sc (.slice none 0 0)), .d (.sc (.int .i64 0)), .d (.sc (.int .i64 0)), .d (.sc (.bool false)), .d (.sc (.string none8)), .d (.sc (.int .i64 0)), .d (.sc (.slice none 0 0)), .d (.sc (.int .i64 0)), .d (.sc (.int .i64 0)), .d (.sc (.bool false)), .d (.sc (.string none8)), .d (.sc (.int .i64 0)), .d (.sc (.slice none 0 0)), .d (.sc (.int .i64 0)), .d (.sc (.int .i64 0)), .d (.sc (.bool false)), .d (.sc (.string none8)), .d (.sc (.int .i64 0)), .d (.sc (.slice none 0 0))], false, 0, true⟩])
      (fun i => 8 - i.toNat) 0 ?_ ?_ ?_
    · exact ⟨by omega, by omega⟩
    · exact told_eq (congrArg (fun z => [(⟨28, z, false, 0, true⟩ : Box), ⟨25, [.d (.sc (.int .i64 r_why)), .d (.sc (.bool r_found)), .d (.sc (.string r_value)), .d (.sc (.int .i64 r_version)), .d (.slc 3 r_pairs)], false, 0, true⟩, ⟨28, [.d (.sc (.int .i64 0)), .d (.sc (.int .i64 0)), .d (.sc (.bool false)), .d (.sc (.string none8)), .d (.sc (.int .i64 0)), .d (.sc (.slice none 0 0)), .d (.sc (.int .i64 0)), .d (.sc (.int .i64 0)), .d (.sc (.bool false)), .d (.sc (.string none8)), .d (.sc (.int .i64 0)), .d (.sc (.slice none 0 0)), .d (.sc (.int .i64 0)), .d (.sc (.int .i64 0)), .d (.sc (.bool false)), .d (.sc (.string none8)), .d (.sc (.int .i64 0)), .d (.sc (.slice none 0 0)), .d (.sc (.int .i64 0)), .d (.sc (.int .i64 0)), .d (.sc (.bool false)), .d (.sc (.string none8)), .d (.sc (.int .i64 0)), .d (.sc (.slice none 0 0)), .d (.sc (.int .i64 0)), .d (.sc (.int .i64 0)), .d (.sc (.bool false)), .d (.sc (.string none8)), .d (.sc (.int .i64 0)), .d (.sc (.slice none 0 0)), .d (.sc (.int .i64 0)), .d (.sc (.int .i64 0)), .d (.sc (.bool false)), .d (.sc (.string none8)), .d (.sc (.int .i64 0)), .d (.sc (.slice none 0 0)), .d (.sc (.int .i64 0)), .d (.sc (.int .i64 0)), .d (.sc (.bool false)), .d (.sc (.string none8)), .d (.sc (.int .i64 0)), .d (.sc (.slice none 0 0)), .d (.sc (.int .i64 0)), .d (.sc (.int .i64 0)), .d (.sc (.bool false)), .d (.sc (.string none8)), .d (.sc (.int .i64 0)), .d (.sc (.slice none 0 0))], false, 0, true⟩]) e) (by simp [toldP, getS])
    rintro R i hR ⟨i0, i1⟩
    cbv
    refine part (fun h2 => ?_) (fun h2 => ?_) <;> cbv
    · replace i0 : 0 ≤ i := i0
      replace hos' : os'.length = 8 := hos'
      have hi : i < 8 := by
        subst hA
        simp only [A0, decide_eq_true_eq] at h2
        exact h2
      have hin : i.toNat < os'.length := by omega
      obtain ⟨g0, g1, g2, g3, g4, g5, gt, gl⟩ := own_cell hds i.toNat hin
      have gt1 := own_tail hds i.toNat hin
      have ho := hop' _ (List.getElem_mem hin)
      generalize os'[i.toNat]'hin = o at g0 g1 g2 g3 g4 g5 gt gt1 ho
      have q2 : ds[i.toNat * 6 + 1 + 1]? = some (.d (.sc (.bool o.reply.found))) := g2
      have q3 : ds[i.toNat * 6 + 1 + 2]? = some (.d (.sc (.string o.reply.value))) := g3
      have q4 : ds[i.toNat * 6 + 1 + 3]? = some (.d (.sc (.int .i64 o.reply.version))) := g4
      have q5 : ds[i.toNat * 6 + 1 + 4]? = some (.d (.slc 3 o.reply.pairs)) := g5
      subst hA hX hW hR hF
      refine ⟨rfl, ⟨i0, hi⟩, rfl, rfl, ?_, ?_, rfl, ⟨i0, hi⟩, rfl, rfl, ?_, ?_⟩
      · simp only [A0, Nat.zero_add, g1, q2, q3, q4, q5, gt1]
        exact ⟨rfl, by omega, trivial⟩
      · show isP _
        simp only [A0, Nat.zero_add, q5]
        exact ho
      · simp only [A0, Nat.zero_add]
        omega
      · have hw : IntKind.wrap .i64 (i + 1) = i + 1 := wrap_i64 (by unfold r64; omega)
        have e2 : splice ds (i.toNat * 6 + 1) [.d (.sc (.int .i64 o.reply.why)), .d (.sc (.bool o.reply.found)), .d (.sc (.string o.reply.value)), .d (.sc (.int .i64 o.reply.version)), .d (.slc 3 o.reply.pairs)] = ds := splice_same gt1 rfl
        refine ⟨i + 1, ⟨by omega, by omega⟩, by omega, ?_⟩
        simp only [A0, FsR0, idR, Nat.zero_add, g1, q2, q3, q4, q5, e2, hw]
        exact told_less (by simp [toldP, getS])
    · obtain ⟨o0, o1, o2, o3, o4, o5, o6, o7, e8⟩ := list8 hos'
      clear hop' heo
      replace hde : ds = noteX cs client seq ⟨r_why, r_found, r_value, r_version, r_pairs⟩ := hde
      subst hA hX hW hR hF
      rw [← hde]
      clear hde
      subst e8
      subst hds
      exact ⟨rfl, ⟨rfl, Nat.le_refl _, rfl⟩, ret_v rfl rfl⟩
  · have hk' : knownX client = false := by subst hA hF; simpa [A0, FsR0] using hk
    have e : cs = ds := by
      rw [hde, noteX, hk']
      rfl
    refine loopL (T := fun _ => tabY [0, 4, 17, 23, 24, 27, 28] []) (H := fun _ => [kn_known F, kn_copied F]) (tabY_ok _ _) hH follows_mixed hA hX (fun i : Int => 0 ≤ i ∧ i ≤ 8)
      (fun i => [(4, .ref 0 0 0), (8, .ref 2 0 0), (18, .d (.sc (.int .i64 i)))]) (fun _ => [⟨28, ds, false, 0, true⟩, ⟨25, [.d (.sc (.int .i64 r_why)), .d (.sc (.bool r_found)), .d (.sc (.string r_value)), .d (.sc (.int .i64 r_version)), .d (.slc 3 r_pairs)], false, 0, true⟩, ⟨28, [.d (.sc (.int .i64 0)), .d (.sc (.int .i64 0)), .d (.sc (.bool false)), .d (.sc (.string none8)), .d (.sc (.int .i64 0)), .d (.sc (.slice none 0 0)), .d (.sc (.int .i64 0)), .d (.sc (.int .i64 0)), .d (.sc (.bool false)), .d (.sc (.string none8)), .d (.sc (.int .i64 0)), .d (.sc (.slice none 0 0)), .d (.sc (.int .i64 0)), .d (.sc (.int .i64 0)), .d (.sc (.bool false)), .d (.sc (.string none8)), .d (.sc (.int .i64 0)), .d (.sc (.slice none 0 0)), .d (.sc (.int .i64 0)), .d (.sc (.int .i64 0)), .d (.sc (.bool false)), .d (.sc (.string none8)), .d (.sc (.int .i64 0)), .d (.sc (.slice none 0 0)), .d (.sc (.int .i64 0)), .d (.sc (.int .i64 0)), .d (.sc (.bool false)), .d (.sc (.string none8)), .d (.sc (.int .i64 0)), .d (.sc (.slice none 0 0)), .d (.sc (.int .i64 0)), .d (.sc (.int .i64 0)), .d (.sc (.bool false)), .d (.sc (.string none8)), .d (.sc (.int .i64 0)), .d (.sc (.slice none 0 0)), .d (.sc (.int .i64 0)), .d (.sc (.int .i64 0)), .d (.sc (.bool false)), .d (.sc (.string none8)), .d (.sc (.int .i64 0)), .d (.sc (.slice none 0 0)), .d (.sc (.int .i64 0)), .d (.sc (.int .i64 0)), .d (.sc (.bool false)), .d (.sc (.string none8)), .d (.sc (.int .i64 0)), .d (.sc (.slice none 0 0))], false, 0, true⟩])
      (fun i => 8 - i.toNat) 0 ?_ ?_ ?_
    · exact ⟨by omega, by omega⟩
    · exact told_eq (congrArg (fun z => [(⟨28, z, false, 0, true⟩ : Box), ⟨25, [.d (.sc (.int .i64 r_why)), .d (.sc (.bool r_found)), .d (.sc (.string r_value)), .d (.sc (.int .i64 r_version)), .d (.slc 3 r_pairs)], false, 0, true⟩, ⟨28, [.d (.sc (.int .i64 0)), .d (.sc (.int .i64 0)), .d (.sc (.bool false)), .d (.sc (.string none8)), .d (.sc (.int .i64 0)), .d (.sc (.slice none 0 0)), .d (.sc (.int .i64 0)), .d (.sc (.int .i64 0)), .d (.sc (.bool false)), .d (.sc (.string none8)), .d (.sc (.int .i64 0)), .d (.sc (.slice none 0 0)), .d (.sc (.int .i64 0)), .d (.sc (.int .i64 0)), .d (.sc (.bool false)), .d (.sc (.string none8)), .d (.sc (.int .i64 0)), .d (.sc (.slice none 0 0)), .d (.sc (.int .i64 0)), .d (.sc (.int .i64 0)), .d (.sc (.bool false)), .d (.sc (.string none8)), .d (.sc (.int .i64 0)), .d (.sc (.slice none 0 0)), .d (.sc (.int .i64 0)), .d (.sc (.int .i64 0)), .d (.sc (.bool false)), .d (.sc (.string none8)), .d (.sc (.int .i64 0)), .d (.sc (.slice none 0 0)), .d (.sc (.int .i64 0)), .d (.sc (.int .i64 0)), .d (.sc (.bool false)), .d (.sc (.string none8)), .d (.sc (.int .i64 0)), .d (.sc (.slice none 0 0)), .d (.sc (.int .i64 0)), .d (.sc (.int .i64 0)), .d (.sc (.bool false)), .d (.sc (.string none8)), .d (.sc (.int .i64 0)), .d (.sc (.slice none 0 0)), .d (.sc (.int .i64 0)), .d (.sc (.int .i64 0)), .d (.sc (.bool false)), .d (.sc (.string none8)), .d (.sc (.int .i64 0)), .d (.sc (.slice none 0 0))], false, 0, true⟩]) e) (by simp [toldP, getS])
    rintro R i hR ⟨i0, i1⟩
    cbv
    refine part (fun h2 => ?_) (fun h2 => ?_) <;> cbv
    · replace i0 : 0 ≤ i := i0
      replace hos' : os'.length = 8 := hos'
      have hi : i < 8 := by
        subst hA
        simp only [A0, decide_eq_true_eq] at h2
        exact h2
      have hin : i.toNat < os'.length := by omega
      obtain ⟨g0, g1, g2, g3, g4, g5, gt, gl⟩ := own_cell hds i.toNat hin
      have gt1 := own_tail hds i.toNat hin
      have ho := hop' _ (List.getElem_mem hin)
      generalize os'[i.toNat]'hin = o at g0 g1 g2 g3 g4 g5 gt gt1 ho
      have q2 : ds[i.toNat * 6 + 1 + 1]? = some (.d (.sc (.bool o.reply.found))) := g2
      have q3 : ds[i.toNat * 6 + 1 + 2]? = some (.d (.sc (.string o.reply.value))) := g3
      have q4 : ds[i.toNat * 6 + 1 + 3]? = some (.d (.sc (.int .i64 o.reply.version))) := g4
      have q5 : ds[i.toNat * 6 + 1 + 4]? = some (.d (.slc 3 o.reply.pairs)) := g5
      subst hA hX hW hR hF
      refine ⟨rfl, ⟨i0, hi⟩, rfl, rfl, ?_, ?_, rfl, ⟨i0, hi⟩, rfl, rfl, ?_, ?_⟩
      · simp only [A0, Nat.zero_add, g1, q2, q3, q4, q5, gt1]
        exact ⟨rfl, by omega, trivial⟩
      · show isP _
        simp only [A0, Nat.zero_add, q5]
        exact ho
      · simp only [A0, Nat.zero_add]
        omega
      · have hw : IntKind.wrap .i64 (i + 1) = i + 1 := wrap_i64 (by unfold r64; omega)
        have e2 : splice ds (i.toNat * 6 + 1) [.d (.sc (.int .i64 o.reply.why)), .d (.sc (.bool o.reply.found)), .d (.sc (.string o.reply.value)), .d (.sc (.int .i64 o.reply.version)), .d (.slc 3 o.reply.pairs)] = ds := splice_same gt1 rfl
        refine ⟨i + 1, ⟨by omega, by omega⟩, by omega, ?_⟩
        simp only [A0, FsR0, idR, Nat.zero_add, g1, q2, q3, q4, q5, e2, hw]
        exact told_less (by simp [toldP, getS])
    · obtain ⟨o0, o1, o2, o3, o4, o5, o6, o7, e8⟩ := list8 hos'
      clear hop' heo
      replace hde : ds = noteX cs client seq ⟨r_why, r_found, r_value, r_version, r_pairs⟩ := hde
      subst hA hX hW hR hF
      rw [← hde]
      clear hde
      subst e8
      subst hds
      exact ⟨rfl, ⟨rfl, Nat.le_refl _, rfl⟩, ret_v rfl rfl⟩
set_option maxRecDepth 100000 in
theorem v_rightO (cs : List DV) (hp0 : isOwn cs) : FnV Try.prog 16 [.agg cs] (boolD ((rightO cs))) := by
  obtain ⟨os, hos, hcs, hop⟩ := hp0
  have hof := ownersOf_D hos hcs
  obtain ⟨F, hF⟩ : ∃ F, F = FsR0 := ⟨_, rfl⟩
  have hH : SoundK Try.prog [kn_rrep F, kn_zero F] := by subst hF; exact orK_ok ok_rrep (orK_ok ok_zero noK_ok)
  refine FnD_cbv (T := fun _ => tabY [0, 1] []) (H := fun _ => [kn_rrep F, kn_zero F]) (tabY_ok _ _) hH follows_mixed Try.func16 rfl Try.ntmps16 (by simp) fun A X W hA hX hW => ?_
  cbv
  refine ⟨by subst hA; show cs.length ≤ 1000000; rw [hcs, own_length]; omega, by subst hA; rfl, ?_, ?_⟩
  · clear hop hof
    subst hA
    obtain ⟨o0, o1, o2, o3, o4, o5, o6, o7, e8⟩ := list8 hos
    subst e8
    subst hcs
    exact ⟨rfl, Nat.le_refl _, rfl⟩
  refine loopL (T := fun _ => tabY [0, 1] []) (H := fun _ => [kn_rrep F, kn_zero F]) (tabY_ok _ _) hH follows_mixed hA hX (fun i : Int => 0 ≤ i ∧ i ≤ 8 ∧ rightOs os = rightOs (os.drop i.toNat))
    (fun i => [(5, .agg cs), (6, .d (.sc (.int .i64 i)))]) (fun _ => [⟨28, cs, false, 0, true⟩])
    (fun i => 8 - i.toNat) 0 ?_ ?_ ?_
  · exact ⟨by omega, by omega, rfl⟩
  · clear hop hof
    subst hA
    obtain ⟨o0, o1, o2, o3, o4, o5, o6, o7, e8⟩ := list8 hos
    subst e8
    subst hcs
    exact told_less ⟨.inl rfl, .inl rfl, trivial⟩
  rintro R i hR ⟨i0, i1, i2⟩
  cbv
  refine part (fun h2 => ?_) (fun h2 => ?_) <;> cbv
  · replace i0 : 0 ≤ i := i0
    replace hos : os.length = 8 := hos
    have hi : i < 8 := by
      subst hA
      simp only [A0, decide_eq_true_eq] at h2
      exact h2
    have hin : i.toNat < os.length := by omega
    obtain ⟨g0, g1, g2, g3, g4, g5, gt, gl⟩ := own_cell hcs i.toNat hin
    have ho := hop _ (List.getElem_mem hin)
    have hd := odrop i0 hin
    generalize os[i.toNat]'hin = o at g0 g1 g2 g3 g4 g5 gt ho hd
    rw [hd] at i2
    have i3 : rightOs (o :: os.drop (i + 1).toNat) = (okO o && rightOs (os.drop (i + 1).toNat)) := rfl
    rw [i3] at i2
    repeat' first
      | (refine part (fun h3 => ?_) (fun h3 => ?_) <;> try cbv)
      | (refine And.intro ?_ ?_)
    all_goals subst hA hX hW hR hF
    all_goals first
      | rfl
      | exact ⟨i0, hi⟩
      | (simp only [A0, Nat.zero_add, g0, g1, g2, g3, g4, g5, gt]; exact ⟨rfl, gl, rfl⟩)
      | (intro _; trivial)
      | (intro hq; exact hq)
      | (intro hq; simpa [A0] using hq)
      | (intro _; show isP _; simp only [A0, Nat.zero_add, g5]; exact ho)
      | skip
    · simp only [A0, FsR0, Nat.zero_add, g0, g1, g2, g3, g4, g5] at h3
      have hk : okO o = false := (okO_eq o).trans (congrArg Bool.not h3)
      rw [hk] at i2
      refine ret_v ?_ rfl
      rw [rightO, hof, i2]
      rfl
    · simp only [A0, FsR0, Nat.zero_add, g0, g1, g2, g3, g4, g5] at h3
      have hk : okO o = true := (okO_eq o).trans (congrArg Bool.not h3)
      rw [hk, Bool.true_and] at i2
      have hw : IntKind.wrap .i64 (i + 1) = i + 1 := wrap_i64 (by unfold r64; omega)
      refine ⟨i + 1, ⟨by omega, by omega, i2⟩, by omega, told_keep [0] rfl (by simp [keepSt, pullBox, own_pull [0] hcs, own_pullL [0] hcs]) ?_⟩
      simp [toldP, getS, A0, hw, pullD, own_pullL [0] hcs]
  · replace i1 : i ≤ 8 := i1
    replace hos : os.length = 8 := hos
    subst hA hX hW hR hF
    simp only [A0, decide_eq_false_iff_not] at h2
    replace h2 : ¬ i < 8 := h2
    refine ret_v ?_ rfl
    have hil : i.toNat = os.length := by omega
    rw [hil, List.drop_length] at i2
    rw [rightO, hof, i2]
    rfl
set_option maxRecDepth 100000 in
theorem v_state (xs : List (List PD)) (cs : List DV) (hp0 : isP xs) (hp1 : isOwn cs) : FnV Try.prog 15 [.agg (.d (.slc 3 xs) :: cs)] (boolD (stateX xs cs)) := by
  obtain ⟨os, hos, hcs, hop⟩ := hp1
  have hof := ownersOf_D hos hcs
  obtain ⟨F, hF⟩ : ∃ F, F = FsR0 := ⟨_, rfl⟩
  obtain ⟨GFsK, hGFsK⟩ : ∃ F, F = FsK0 := ⟨_, rfl⟩
  have hH : SoundK Try.prog [kn_rrepR F, kn_replies F, kn_rightR GFsK] := by subst hF hGFsK; exact orK_ok ok_rrepR (orK_ok ok_replies (orK_ok ok_rightR noK_ok))
  refine FnD_cbv (T := fun _ => tabY [0, 11] []) (H := fun _ => [kn_rrepR F, kn_replies F, kn_rightR GFsK]) (tabY_ok _ _) hH follows_mixed Try.func15 rfl Try.ntmps15 (by simp) fun A X W hA hX hW => ?_
  cbv
  refine And.intro (by subst hA; show (_ :: cs).length ≤ 1000000; rw [List.length_cons, hcs, own_length]; omega) ?_
  refine loopL (T := fun _ => tabY [0, 11] []) (H := fun _ => [kn_rrepR F, kn_replies F, kn_rightR GFsK]) (tabY_ok _ _) hH follows_mixed hA hX (fun i : Int => 0 ≤ i ∧ i ≤ 8 ∧ rightOs os = rightOs (os.drop i.toNat))
    (fun i => [(1, .ref 0 0 0), (3, .d (.sc (.int .i64 i)))]) (fun _ => [⟨44, .d (.slc 3 xs) :: cs, false, 0, true⟩])
    (fun i => 8 - i.toNat) 0 ?_ ?_ ?_
  · exact ⟨by omega, by omega, rfl⟩
  · exact told_less ⟨.inl rfl, .inl rfl, trivial⟩
  rintro R i hR ⟨i0, i1, i2⟩
  cbv
  refine part (fun h2 => ?_) (fun h2 => ?_) <;> cbv
  · replace i0 : 0 ≤ i := i0
    replace hos : os.length = 8 := hos
    have hi : i < 8 := by
      subst hA
      simp only [A0, decide_eq_true_eq] at h2
      exact h2
    have hin : i.toNat < os.length := by omega
    obtain ⟨g0, g1, g2, g3, g4, g5, gt, gl⟩ := own_cell hcs i.toNat hin
    have ho := hop _ (List.getElem_mem hin)
    have hd := odrop i0 hin
    generalize os[i.toNat]'hin = o at g0 g1 g2 g3 g4 g5 gt ho hd
    rw [hd] at i2
    have i3 : rightOs (o :: os.drop (i + 1).toNat) = (okO o && rightOs (os.drop (i + 1).toNat)) := rfl
    rw [i3] at i2
    have q : ∀ j, (DV.d (.slc 3 xs) :: cs)[1 + i.toNat * 6 + j]? = cs[i.toNat * 6 + j]? := fun j => by
      rw [show 1 + i.toNat * 6 + j = (i.toNat * 6 + j) + 1 by omega, List.getElem?_cons_succ]
    have q0 : (DV.d (.slc 3 xs) :: cs)[1 + i.toNat * 6]? = _ := (q 0).trans g0
    have q1 := (q 1).trans g1
    have q2 := (q 2).trans g2
    have q3 := (q 3).trans g3
    have q4 := (q 4).trans g4
    have q5 := (q 5).trans g5
    have qt : ((DV.d (.slc 3 xs) :: cs).drop (1 + i.toNat * 6)).take 6 = o.cells := by rw [Nat.add_comm 1, List.drop_succ_cons]; exact gt
    clear g0 g1 g2 g3 g4 g5 gt q
    repeat' first
      | (refine part (fun h3 => ?_) (fun h3 => ?_) <;> try cbv)
      | (refine And.intro ?_ ?_)
    all_goals subst hA hX hW hR hGFsK hF
    all_goals first
      | (show Region.lexB _ _ = true; kernel_rfl)
      | rfl
      | exact ⟨i0, hi⟩
      | (simp only [A0, q0, q1, q2, q3, q4, q5, qt]; exact ⟨rfl, by rw [List.length_cons]; omega, rfl⟩)
      | (intro _; trivial)
      | (intro hq; exact hq)
      | (intro hq; simpa [A0] using hq)
      | (intro _; show isP _; simp only [A0, q5]; exact ho)
      | (intro _; exact isP.nil)
      | skip
    · simp only [A0, FsR0, q0, q1, q2, q3, q4, q5] at h3
      have hk : okO o = false := by
        rw [okO_eq, ← replies_zero]
        exact congrArg Bool.not h3
      rw [hk] at i2
      refine ret_v ?_ rfl
      rw [stateX, hof, i2]
      rfl
    · simp only [A0, FsR0, q0, q1, q2, q3, q4, q5] at h3
      have hk : okO o = true := by
        rw [okO_eq, ← replies_zero]
        exact congrArg Bool.not h3
      rw [hk, Bool.true_and] at i2
      have hw : IntKind.wrap .i64 (i + 1) = i + 1 := wrap_i64 (by unfold r64; omega)
      refine ⟨i + 1, ⟨by omega, by omega, i2⟩, by omega, told_keep [0] rfl (by simp [keepSt, pullBox, pullL, pullD, own_pull [0] hcs, own_pullL [0] hcs]) ?_⟩
      simp [toldP, getS, A0, hw, pullD, own_pullL [0] hcs]
  · replace i1 : i ≤ 8 := i1
    replace hos : os.length = 8 := hos
    subst hA hX hW hR hGFsK hF
    simp only [A0, decide_eq_false_iff_not] at h2
    replace h2 : ¬ i < 8 := h2
    refine ⟨hp0, ret_v ?_ rfl⟩
    have hil : i.toNat = os.length := by omega
    rw [hil, List.drop_length] at i2
    rw [stateX, hof, i2]
    rfl
def kn_state (F : FsR) : FuncId × (List DV → RV) := (15, fun args => match args with
  | [.agg (.d (.sc (.slice none 0 0)) :: cs)] => some ([F.isOwn cs], boolD (F.state [] cs))
  | [.agg (.d (.slc 3 xs) :: cs)] => some ([F.isP xs, F.isOwn cs], boolD (F.state xs cs))
  | _ => none)
theorem ok_state (args : List DV) (cs : List Prop) (r : DV) (h : (kn_state FsR0).2 args = some (cs, r)) (hc : allP cs True) : FnV Try.prog 15 args r ∧ closedL 0 args = true := by
  unfold kn_state at h
  simp only at h
  split at h
  · cases h
    have h9 := isOwnU.closed hc.1
    exact ⟨FnP.ups (v_state [] _ isP.nil hc.1) (UpL.agg (UpL.nil (upL_upCs _)) UpL.done), clo1 h9 rfl⟩
  · cases h
    have h9 := isOwnU.closed hc.2.1
    exact ⟨FnP.ups (v_state _ _ hc.1 hc.2.1) (UpL.agg (UpL.keep (upL_upCs _)) UpL.done), clo1 h9 rfl⟩
  · cases h
theorem v_lookU (cs : List DV) (client seq : Int) (h : isOwnU cs) : FnV Try.prog 13 [.agg cs, intD client, intD seq] (.tup [intD (lookU cs client seq).1, Reply.D (lookU cs client seq).2]) := FnP.ups (v_look _ client seq h) (UpL.agg (upL_upCs cs) (UpL.refl' _))
theorem v_noteU (cs : List DV) (client seq : Int) (r : Reply) (h : isOwnU cs) (hr : isP r.pairs) : FnV Try.prog 8 [.agg cs, intD client, intD seq, Reply.D r] (.agg (noteU cs client seq r)) := FnP.ups (v_note _ client seq r h hr) (UpL.agg (upL_upCs cs) (UpL.refl' _))
theorem v_rightU (cs : List DV) (h : isOwnU cs) : FnV Try.prog 16 [.agg cs] (boolD (rightU cs)) := FnP.ups (v_rightO _ h) (UpL.agg (upL_upCs cs) UpL.done)

end Go.Proofs.Ytjlbdfehkbcmfaa
namespace Go.Proofs.Ytjlbdfehkbcmfaa
open Go.RowKit
set_option linter.all false
def within3 (n lo hi : Int) : Int := lo + n % (hi - lo + 1)
def span3 (lo hi : Int) : Prop := lo ≤ hi ∧ -1099511627776 ≤ lo ∧ hi ≤ 1099511627776
theorem tmod_cases (n W : Int) (hW : 0 < W) : (n.tmod W < 0 → n.tmod W + W = n % W) ∧ (¬ n.tmod W < 0 → n.tmod W = n % W) := by
  have h1 := Int.emod_nonneg n (show W ≠ 0 by omega)
  have h2 := Int.emod_lt_of_pos n hW
  rw [Int.tmod_eq_emod]
  have h3 : ((W.natAbs : Nat) : Int) = W := by omega
  split
  · omega
  · rw [h3]; omega

structure FsW where
  within3 : Int → Int → Int → Int
  r64 : Int → Prop
  span3 : Int → Int → Prop
def FsW0 : FsW where
  within3 := within3
  r64 := r64
  span3 := span3
set_option maxRecDepth 100000 in
theorem v_within3 (n : Int) (lo : Int) (hi : Int) (hp0 : FsW0.r64 n) (hp1 : FsW0.span3 lo hi) : FnV Try.prog 11 [intD n, intD lo, intD hi] (intD ((within3 n lo hi))) := by
  refine FnD_cbv (T := fun _ => tabY [] []) (H := fun _ => []) (tabY_ok _ _) noK_ok follows_mixed Try.func11 rfl Try.ntmps11 (by simp) fun A X W hA hX hW => ?_
  cbv
  repeat' first
    | (refine part (fun h => ?_) (fun h => ?_) <;> try cbv)
    | (refine And.intro ?_ ?_)
  all_goals subst hA hX hW
  all_goals try (show Region.lexB _ _ = true; kernel_rfl)
  all_goals try (show turnsB _ = true; kernel_rfl)
  all_goals simp only [A0, FsW0, decide_eq_true_eq, decide_eq_false_iff_not, Bool.not_eq_true', Bool.not_eq_false'] at *
  all_goals
    have hr : r64 n := hp0
    have hs : span3 lo hi := hp1
    unfold span3 at hs
    have e1 : IntKind.wrap .i64 (hi - lo) = hi - lo := wrap_i64 (by unfold r64; omega)
    have e2 : IntKind.wrap .i64 (hi - lo + 1) = hi - lo + 1 := wrap_i64 (by unfold r64; omega)
    have hc := tmod_cases n (hi - lo + 1) (by omega)
    have h1 := Int.emod_nonneg n (show hi - lo + 1 ≠ 0 by omega)
    have h2 := Int.emod_lt_of_pos n (show 0 < hi - lo + 1 by omega)
    simp only [e1, e2] at *
  · omega
  · refine ret_v ?_ rfl
    have h3 := hc.1 h
    have e3 : IntKind.wrap .i64 (n.tmod (hi - lo + 1) + hi) = n.tmod (hi - lo + 1) + hi := wrap_i64 (by unfold r64; omega)
    have e4 : IntKind.wrap .i64 (n.tmod (hi - lo + 1) + hi - lo) = n.tmod (hi - lo + 1) + hi - lo := wrap_i64 (by unfold r64; omega)
    have e5 : IntKind.wrap .i64 (n.tmod (hi - lo + 1) + hi - lo + 1) = n % (hi - lo + 1) := by rw [wrap_i64 (by unfold r64; omega)]; omega
    have e6 : IntKind.wrap .i64 (lo + n % (hi - lo + 1)) = lo + n % (hi - lo + 1) := wrap_i64 (by unfold r64; omega)
    rw [e3, e4, e5, e6]
    rfl
  · refine ret_v ?_ rfl
    rw [hc.2 h]
    have e6 : IntKind.wrap .i64 (lo + n % (hi - lo + 1)) = lo + n % (hi - lo + 1) := wrap_i64 (by unfold r64; omega)
    rw [e6]
    rfl
def kn_within3 (F : FsW) : FuncId × (List DV → RV) := (11, fun args => match args with
  | [.d (.sc (.int .i64 n)), .d (.sc (.int .i64 lo)), .d (.sc (.int .i64 hi))] => some ([F.r64 n, F.span3 lo hi], intD ((F.within3 n lo hi)))
  | _ => none)
theorem ok_within3 (args : List DV) (cs : List Prop) (r : DV) (h : (kn_within3 FsW0).2 args = some (cs, r)) (hc : allP cs True) : FnV Try.prog 11 args r ∧ closedL 0 args = true := by
  unfold kn_within3 at h
  simp only at h
  split at h
  · cases h; exact ⟨v_within3 _ _ _ hc.1 hc.2.1, rfl⟩
  · cases h
end Go.Proofs.Ytjlbdfehkbcmfaa
namespace Go.Proofs.Ytjlbdfehkbcmfaa
open Go.RowKit
set_option linter.all false

theorem isOwnU.len {cs : List DV} (h : isOwnU cs) : cs.length = 48 := by
  obtain ⟨os, h1, h2, _⟩ := h
  have h3 := congrArg List.length h2
  rw [own_length, upCs, List.length_map] at h3
  omega
theorem tk48 {cs : List DV} (h : cs.length = 48) : A0.tk cs 0 1 48 = cs := by
  show (cs.drop 0).take (1 * 48) = cs
  rw [List.drop_zero, List.take_of_length_le (by omega)]
theorem isOwnU.look {cs : List DV} (h : isOwnU cs) (client seq : Int) : isP (lookU cs client seq).2.pairs := by
  obtain ⟨os, hos, hcs, hop⟩ := h
  unfold lookU lookX
  cases hk : knownX client with
  | false => exact isP.nil
  | true =>
    obtain ⟨_, _, _, o, eo, ho, _⟩ := own_at hos hcs hop hk
    rw [eo]
    simp only [cond_true]
    cases decide (o.seq < seq) with
    | true => exact isP.nil
    | false =>
      cases decide (seq = o.seq) with
      | true => exact ho
      | false => exact isP.nil
def Z48 : List DV := [.d (.sc (.int .i64 0)), .d (.sc (.int .i64 0)), .d (.sc (.bool false)), .d (.sc (.string none8)), .d (.sc (.int .i64 0)), .d (.sc (.slice none 0 0)), .d (.sc (.int .i64 0)), .d (.sc (.int .i64 0)), .d (.sc (.bool false)), .d (.sc (.string none8)), .d (.sc (.int .i64 0)), .d (.sc (.slice none 0 0)), .d (.sc (.int .i64 0)), .d (.sc (.int .i64 0)), .d (.sc (.bool false)), .d (.sc (.string none8)), .d (.sc (.int .i64 0)), .d (.sc (.slice none 0 0)), .d (.sc (.int .i64 0)), .d (.sc (.int .i64 0)), .d (.sc (.bool false)), .d (.sc (.string none8)), .d (.sc (.int .i64 0)), .d (.sc (.slice none 0 0)), .d (.sc (.int .i64 0)), .d (.sc (.int .i64 0)), .d (.sc (.bool false)), .d (.sc (.string none8)), .d (.sc (.int .i64 0)), .d (.sc (.slice none 0 0)), .d (.sc (.int .i64 0)), .d (.sc (.int .i64 0)), .d (.sc (.bool false)), .d (.sc (.string none8)), .d (.sc (.int .i64 0)), .d (.sc (.slice none 0 0)), .d (.sc (.int .i64 0)), .d (.sc (.int .i64 0)), .d (.sc (.bool false)), .d (.sc (.string none8)), .d (.sc (.int .i64 0)), .d (.sc (.slice none 0 0)), .d (.sc (.int .i64 0)), .d (.sc (.int .i64 0)), .d (.sc (.bool false)), .d (.sc (.string none8)), .d (.sc (.int .i64 0)), .d (.sc (.slice none 0 0))]
theorem zOwn : isOwnU Z48 := ⟨List.replicate 8 ⟨0, zeroRep⟩, rfl, rfl, by intro o ho; rw [List.eq_of_mem_replicate ho]; exact isP.nil⟩
theorem isOwnU.note {cs : List DV} (h : isOwnU cs) {r : Reply} (hr : isP r.pairs) (client seq : Int) : isOwn (noteU cs client seq r) := by
  obtain ⟨os, hos, hcs, hop⟩ := h
  exact ⟨noteOs os client seq r, (noteOs_length _ _ _ _).trans hos, noteX_D hos hcs client seq r, noteOs_isP hop hr client seq⟩
theorem isOwn.len {cs : List DV} (h : isOwn cs) : cs.length = 48 := isOwnU.len h.u
theorem tk_spl {zs ds : List DV} (h1 : zs.length = 48) (h2 : ds.length = 48) : A0.tk (A0.spl zs 0 ds) 0 1 48 = ds := by
  have e : A0.spl zs 0 ds = ds := by
    show zs.take 0 ++ ds ++ zs.drop (0 + ds.length) = ds
    rw [List.take_zero, List.nil_append, List.drop_eq_nil_of_le (by omega), List.append_nil]
  rw [e]
  exact tk48 h2
noncomputable def isX (cs : List DV) (client seq want : Int) (r : Reply) : Bool := bif decide ((lookU cs client seq).1 = want) then repliesX (lookU cs client seq).2 r else false
theorem fit_spl {zs ds : List DV} (h1 : zs.length = 48) (h2 : ds.length = 48) : A0.fitv (A0.spl zs 0 ds) 0 1 48 := by
  show 0 + 1 * 48 ≤ (zs.take 0 ++ ds ++ zs.drop (0 + ds.length)).length
  simp [h2]
noncomputable def N48 : List DV := noteU Z48 1 5 ⟨0, true, none8, 0, []⟩
theorem isX_true {cs : List DV} {client seq want : Int} {r : Reply} (h : lookU cs client seq = (want, r)) : isX cs client seq want r = true := by simp [isX, h, repliesX_true]

set_option maxRecDepth 100000 in
theorem run1 : isX Z48 1 1 1 ⟨0, false, none8, 0, []⟩ = true := isX_true (by kernel_rfl)
theorem run2 : isX Z48 9 1 0 ⟨0, false, none8, 0, []⟩ = true := isX_true (by kernel_rfl)
theorem run3 : isX N48 1 5 2 ⟨0, true, none8, 0, []⟩ = true := isX_true (by kernel_rfl)
theorem run4 : isX N48 1 4 3 ⟨0, false, none8, 0, []⟩ = true := isX_true (by kernel_rfl)
theorem run5 : isX N48 1 6 1 ⟨0, false, none8, 0, []⟩ = true := isX_true (by kernel_rfl)

structure FsD where
  lookU : List DV → Int → Int → Int × Reply
  noteU : List DV → Int → Int → Reply → List DV
  rightU : List DV → Bool
  isX : List DV → Int → Int → Int → Reply → Bool
  isOwn : List DV → Prop
  isP : List (List PD) → Prop
  runs : Bool
noncomputable def FsD0 : FsD where
  lookU := lookU
  noteU := noteU
  rightU := rightU
  isX := isX
  isOwn := isOwnU
  isP := isP
  runs := true
def kn_lookU (F : FsD) : FuncId × (List DV → RV) := (13, fun args => match args with
  | [.agg cs, .d (.sc (.int .i64 client)), .d (.sc (.int .i64 seq))] => some ([F.isOwn cs], .tup [intD (((F.lookU cs client seq)).1), Reply.D (((F.lookU cs client seq)).2)])
  | _ => none)
theorem ok_lookU (args : List DV) (cs : List Prop) (r : DV) (h : (kn_lookU FsD0).2 args = some (cs, r)) (hc : allP cs True) : FnV Try.prog 13 args r ∧ closedL 0 args = true := by
  unfold kn_lookU at h
  simp only at h
  split at h
  · cases h; exact ⟨v_lookU _ _ _ hc.1, clo1 (isOwnU.closed hc.1) rfl⟩
  · cases h
def kn_noteU (F : FsD) : FuncId × (List DV → RV) := (8, fun args => match args with
  | [.agg cs, .d (.sc (.int .i64 client)), .d (.sc (.int .i64 seq)), .agg [.d (.sc (.int .i64 r_why)), .d (.sc (.bool r_found)), .d (.sc (.string r_value)), .d (.sc (.int .i64 r_version)), .d (.slc 3 r_pairs)]] => some ([F.isOwn cs, F.isP r_pairs], .agg ((F.noteU cs client seq ⟨r_why, r_found, r_value, r_version, r_pairs⟩)))
  | [.agg cs, .d (.sc (.int .i64 client)), .d (.sc (.int .i64 seq)), .agg [.d (.sc (.int .i64 r_why)), .d (.sc (.bool r_found)), .d (.sc (.string r_value)), .d (.sc (.int .i64 r_version)), .d (.sc (.slice none 0 0))]] => some ([F.isOwn cs, F.isP []], .agg ((F.noteU cs client seq ⟨r_why, r_found, r_value, r_version, []⟩)))
  | _ => none)
theorem ok_noteU (args : List DV) (cs : List Prop) (r : DV) (h : (kn_noteU FsD0).2 args = some (cs, r)) (hc : allP cs True) : FnV Try.prog 8 args r ∧ closedL 0 args = true := by
  unfold kn_noteU at h
  simp only at h
  split at h
  · cases h; exact ⟨v_noteU _ _ _ ⟨_, _, _, _, _⟩ hc.1 hc.2.1, clo1 (isOwnU.closed hc.1) rfl⟩
  · cases h; exact ⟨FnP.ups (v_noteU _ _ _ ⟨_, _, _, _, []⟩ hc.1 hc.2.1) (UpL.keep (UpL.keep (UpL.keep (UpL.agg (UpL.keep (UpL.keep (UpL.keep (UpL.keep (UpL.nil UpL.done))))) UpL.done)))), clo1 (isOwnU.closed hc.1) rfl⟩
  · cases h
def kn_rightU (F : FsD) : FuncId × (List DV → RV) := (16, fun args => match args with
  | [.agg cs] => some ([F.isOwn cs], boolD ((F.rightU cs)))
  | _ => none)
theorem ok_rightU (args : List DV) (cs : List Prop) (r : DV) (h : (kn_rightU FsD0).2 args = some (cs, r)) (hc : allP cs True) : FnV Try.prog 16 args r ∧ closedL 0 args = true := by
  unfold kn_rightU at h
  simp only at h
  split at h
  · cases h; exact ⟨v_rightU _ hc.1, clo1 (isOwnU.closed hc.1) rfl⟩
  · cases h
set_option maxRecDepth 100000 in
theorem v_isX (cs : List DV) (client : Int) (seq : Int) (want : Int) (r : Reply) (hp0 : FsD0.isOwn cs) (hp1 : FsD0.isP r.pairs) : FnV Try.prog 10 [.agg cs, intD client, intD seq, intD want, Reply.D r] (boolD ((isX cs client seq want r))) := by
  obtain ⟨r_why, r_found, r_value, r_version, r_pairs⟩ := r
  obtain ⟨F, hF⟩ : ∃ F, F = FsD0 := ⟨_, rfl⟩
  obtain ⟨GFsR, hGFsR⟩ : ∃ F, F = FsR0 := ⟨_, rfl⟩
  have hH : SoundK Try.prog [kn_lookU F, kn_replies GFsR] := by subst hF hGFsR; exact orK_ok ok_lookU (orK_ok ok_replies noK_ok)
  refine FnD_cbv (T := fun _ => tabY [0, 1005] []) (H := fun _ => [kn_lookU F, kn_replies GFsR]) (tabY_ok _ _) hH follows_mixed Try.func10 rfl Try.ntmps10 (by simp) fun A X W hA hX hW => ?_
  clear hH
  cbv
  have e : A.tk cs 0 1 48 = cs := by subst hA; exact tk48 (isOwnU.len hp0)
  cbv at e
  simp only [e]
  subst hA hX hW hF hGFsR
  refine ⟨by show cs.length ≤ 1000000; rw [isOwnU.len hp0]; decide, rfl, by show 0 + 1 * 48 ≤ cs.length; rw [isOwnU.len hp0]; decide, hp0, fun h => h, fun h => h, fun _ => isOwnU.look hp0 _ _, fun _ => hp1, fun h => by simpa [A0] using h, ?_⟩
  exact ret_v rfl rfl
def kn_isX (F : FsD) : FuncId × (List DV → RV) := (10, fun args => match args with
  | [.agg cs, .d (.sc (.int .i64 client)), .d (.sc (.int .i64 seq)), .d (.sc (.int .i64 want)), .agg [.d (.sc (.int .i64 r_why)), .d (.sc (.bool r_found)), .d (.sc (.string r_value)), .d (.sc (.int .i64 r_version)), .d (.slc 3 r_pairs)]] => some ([F.isOwn cs, F.isP r_pairs], boolD ((F.isX cs client seq want ⟨r_why, r_found, r_value, r_version, r_pairs⟩)))
  | [.agg cs, .d (.sc (.int .i64 client)), .d (.sc (.int .i64 seq)), .d (.sc (.int .i64 want)), .agg [.d (.sc (.int .i64 r_why)), .d (.sc (.bool r_found)), .d (.sc (.string r_value)), .d (.sc (.int .i64 r_version)), .d (.sc (.slice none 0 0))]] => some ([F.isOwn cs, F.isP []], boolD ((F.isX cs client seq want ⟨r_why, r_found, r_value, r_version, []⟩)))
  | _ => none)
theorem ok_isX (args : List DV) (cs : List Prop) (r : DV) (h : (kn_isX FsD0).2 args = some (cs, r)) (hc : allP cs True) : FnV Try.prog 10 args r ∧ closedL 0 args = true := by
  unfold kn_isX at h
  simp only at h
  split at h
  · cases h; exact ⟨v_isX _ _ _ _ ⟨_, _, _, _, _⟩ hc.1 hc.2.1, clo1 (isOwnU.closed hc.1) rfl⟩
  · cases h; exact ⟨FnP.ups (v_isX _ _ _ _ ⟨_, _, _, _, []⟩ hc.1 hc.2.1) (UpL.keep (UpL.keep (UpL.keep (UpL.keep (UpL.agg (UpL.keep (UpL.keep (UpL.keep (UpL.keep (UpL.nil UpL.done))))) UpL.done))))), clo1 (isOwnU.closed hc.1) rfl⟩
  · cases h
set_option maxRecDepth 100000 in
theorem v_runs : FnV Try.prog 3 [] (boolD true) := by
  obtain ⟨F, hF⟩ : ∃ F, F = FsD0 := ⟨_, rfl⟩
  obtain ⟨GFsR, hGFsR⟩ : ∃ F, F = FsR0 := ⟨_, rfl⟩
  have hH : SoundK Try.prog [kn_lookU F, kn_noteU F, kn_isX F, kn_found GFsR] := by subst hF hGFsR; exact orK_ok ok_lookU (orK_ok ok_noteU (orK_ok ok_isX (orK_ok ok_found noK_ok)))
  refine FnD_cbv (T := fun _ => tabY [1004, 1005, 1002] []) (H := fun _ => [kn_lookU F, kn_noteU F, kn_isX F, kn_found GFsR]) (tabY_ok _ _) hH follows_mixed Try.func3 rfl Try.ntmps3 (by simp) fun A X W hA hX hW => ?_
  clear hH
  cbv
  have hz := zOwn
  have hn : isOwn (noteU Z48 1 5 ⟨0, true, none8, 0, []⟩) := isOwnU.note zOwn isP.nil _ _
  have e : A.tk (A.spl Z48 0 (F.noteU Z48 1 5 ⟨GFsR.found.why, GFsR.found.found, GFsR.found.value, GFsR.found.version, GFsR.found.pairs⟩)) 0 1 48 = F.noteU Z48 1 5 ⟨GFsR.found.why, GFsR.found.found, GFsR.found.value, GFsR.found.version, GFsR.found.pairs⟩ := by
    subst hA hF hGFsR
    exact tk_spl rfl hn.len
  cbv at e
  simp only [e]
  subst hA hX hW hF hGFsR
  repeat' (refine And.intro ?_ ?_)
  all_goals first
    | (show Region.lexB _ _ = true; kernel_rfl)
    | (show turnsB _ = true; kernel_rfl)
    | exact zOwn
    | exact isP.nil
    | exact hn.u
    | (intro _; exact hn.u)
    | (intro _; exact zOwn)
    | (intro _; exact isP.nil)
    | rfl
    | (intro _; trivial)
    | (intro hq; exact hq)
    | exact Nat.le_refl 48
    | exact hn.len
    | (intro _; exact fit_spl rfl hn.len)
    | (intro hq; simpa [A0] using hq)
    | skip
  · refine ret_v ?_ rfl
    show boolD (bif bif bif bif isX Z48 1 1 1 ⟨0, false, none8, 0, []⟩ then isX Z48 9 1 0 ⟨0, false, none8, 0, []⟩ else false then isX N48 1 5 2 ⟨0, true, none8, 0, []⟩ else false then isX N48 1 4 3 ⟨0, false, none8, 0, []⟩ else false then isX N48 1 6 1 ⟨0, false, none8, 0, []⟩ else false) = boolD true
    rw [run1, run2, run3, run4, run5]
    rfl
def kn_runs (F : FsD) : FuncId × (List DV → RV) := (3, fun args => match args with
  | [] => some ([], boolD F.runs)
  | _ => none)
theorem ok_runs (args : List DV) (cs : List Prop) (r : DV) (h : (kn_runs FsD0).2 args = some (cs, r)) (hc : allP cs True) : FnV Try.prog 3 args r ∧ closedL 0 args = true := by
  unfold kn_runs at h
  simp only at h
  split at h
  · cases h; exact ⟨v_runs, rfl⟩
  · cases h
end Go.Proofs.Ytjlbdfehkbcmfaa
namespace Go.Proofs.Ytjlbdfehkbcmfaa
open Go.RowKit
set_option linter.all false

theorem look_note {cs : List DV} (h : isOwnU cs) {r : Reply} (hr : isP r.pairs) {x : Int} (hx : knownX x = true) (y seq other : Int) :
    lookU (noteU cs x seq r) y other = if x = y then (if seq < other then (1, zeroRep) else if other = seq then (2, r) else (3, zeroRep)) else lookU cs y other := by
  have hn := own_up (isOwnU.note h hr x seq)
  obtain ⟨os, hos, hcs, hop⟩ := h
  have e1 : noteU cs x seq r = ownsD (os.set (x - 1).toNat ⟨seq, r⟩) := by
    have := noteX_D hos hcs x seq r
    rw [noteOs, hx] at this
    exact this
  have hx' := hx
  simp only [knownX, Bool.and_eq_true, decide_eq_true_eq] at hx'
  simp only [lookU, hn]
  unfold lookX
  cases hy : knownX y with
  | false =>
    rw [if_neg]
    · rfl
    · intro e; subst e; rw [hx] at hy; cases hy
  | true =>
    have hy' := hy
    simp only [knownX, Bool.and_eq_true, decide_eq_true_eq] at hy'
    have hl : (y - 1).toNat < os.length := by omega
    have hl2 : (y - 1).toNat < (os.set (x - 1).toNat ⟨seq, r⟩).length := by rw [List.length_set]; exact hl
    rw [ownOf_D e1 _ hl2, ownOf_D hcs _ hl, List.getElem_set]
    by_cases e : x = y
    · subst e
      rw [if_pos rfl, if_pos rfl]
      simp only [cond_true]
      by_cases h1 : seq < other
      · simp [h1]
      · by_cases h2 : other = seq <;> simp [h1, h2]
    · rw [if_neg e, if_neg (by omega)]
theorem within18 (a : Int) : 1 ≤ within3 a 1 8 ∧ within3 a 1 8 ≤ 8 := by unfold within3; omega
theorem known18 (a : Int) : knownX (within3 a 1 8) = true := by
  have := within18 a
  simp only [knownX, Bool.and_eq_true, decide_eq_true_eq]
  omega

set_option maxRecDepth 100000 in
theorem v_others (cs : List DV) (a : Int) (b : Int) (seq : Int) (other : Int) (r : Reply) (hp0 : isOwnU cs) (hp1 : isP r.pairs) (hp2 : r64 a) (hp3 : r64 b) : FnV Try.prog 5 [.agg cs, intD a, intD b, intD seq, intD other, Reply.D r] (boolD (((fun (_ : List DV) (_ _ _ _ : Int) (_ : Reply) => true) cs a b seq other r))) := by
  obtain ⟨r_why, r_found, r_value, r_version, r_pairs⟩ := r
  obtain ⟨GFsW, hGFsW⟩ : ∃ F, F = FsW0 := ⟨_, rfl⟩
  obtain ⟨GFsD, hGFsD⟩ : ∃ F, F = FsD0 := ⟨_, rfl⟩
  obtain ⟨GFsR, hGFsR⟩ : ∃ F, F = FsR0 := ⟨_, rfl⟩
  have hH : SoundK Try.prog [kn_within3 GFsW, kn_noteU GFsD, kn_lookU GFsD, kn_replies GFsR, kn_runs GFsD] := by subst hGFsW hGFsD hGFsR; exact orK_ok ok_within3 (orK_ok ok_noteU (orK_ok ok_lookU (orK_ok ok_replies (orK_ok ok_runs noK_ok))))
  refine FnD_cbv (T := fun _ => tabY [0, 1006, 1029, 1015] []) (H := fun _ => [kn_within3 GFsW, kn_noteU GFsD, kn_lookU GFsD, kn_replies GFsR, kn_runs GFsD]) (tabY_ok _ _) hH follows_mixed Try.func5 rfl Try.ntmps5 (by simp) fun A X W hA hX hW => ?_
  clear hH
  cbv
  have e : A.tk cs 0 1 48 = cs := by subst hA; exact tk48 (isOwnU.len hp0)
  have e2 : A.tk (A.spl Z48 0 (GFsD.noteU cs (GFsW.within3 a 1 8) seq ⟨r_why, r_found, r_value, r_version, r_pairs⟩)) 0 1 48 = GFsD.noteU cs (GFsW.within3 a 1 8) seq ⟨r_why, r_found, r_value, r_version, r_pairs⟩ := by
    subst hA hGFsD
    exact tk_spl rfl (isOwnU.note hp0 hp1 _ _).len
  cbv at e e2
  simp only [e, e2]
  repeat' first
    | (refine part (fun h => ?_) (fun h => ?_) <;> try cbv)
    | (refine And.intro ?_ ?_)
  all_goals subst hA hX hW hGFsD hGFsW hGFsR
  all_goals first
    | rfl
    | exact hp2
    | exact hp3
    | (show span3 1 8; unfold span3; decide)
    | (show cs.length ≤ 1000000; rw [isOwnU.len hp0]; decide)
    | (show 0 + 1 * 48 ≤ cs.length; rw [isOwnU.len hp0]; decide)
    | exact hp0
    | exact hp1
    | exact Nat.le_refl 48
    | exact (isOwnU.note hp0 hp1 _ _).len
    | exact fit_spl rfl (isOwnU.note hp0 hp1 _ _).len
    | exact (isOwnU.note hp0 hp1 _ _).u
    | (intro _; exact isOwnU.look hp0 _ _)
    | (intro _; exact isOwnU.look (isOwnU.note hp0 hp1 _ _).u _ _)
    | (intro _; exact hp1)
    | (intro _; trivial)
    | (intro hq; exact hq)
    | (intro hq; simpa [A0] using hq)
    | skip
  all_goals refine ret_v ?_ rfl
  all_goals have hl := look_note hp0 hp1 (known18 a) (within3 b 1 8) seq other
  all_goals clear hp0 hp1 hp2 hp3
  all_goals simp only [A0, FsD0, FsR0, FsW0] at *
  all_goals clear e e2
  all_goals simp only [hl]
  all_goals clear hl
  all_goals simp only [Bool.not_eq_true', Bool.not_eq_false', decide_eq_true_eq, decide_eq_false_iff_not] at *
  all_goals first
    | (simp_all [repliesX, boolD, zeroRep]; done)
    | (exfalso; omega)
    | (have hlt : seq < other := by omega
       simp_all [repliesX, boolD, zeroRep]; done)
    | (have hlt : ¬ seq < other := by omega
       simp only [hlt, ↓reduceIte]
       simp_all [repliesX, boolD, zeroRep]; done)
end Go.Proofs.Ytjlbdfehkbcmfaa
namespace Go.Proofs.Ytjlbdfehkbcmfaa
open Go.RowKit
set_option linter.all false
mutual
/-- Does a value hold no slice and no reference? -/
def scalD : DV → Bool
  | .d (.sc _) => true
  | .agg cs => scalL cs
  | .tup cs => scalL cs
  | _ => false
def scalL : List DV → Bool
  | [] => true
  | d :: ds => scalD d && scalL ds
end
theorem scal_rep {E E' : Env} : ∀ (d : DV) (u : Value), scalD d = true → Rep E d u → Rep E' d u := by
  intro d
  refine DV.rec (motive_1 := fun d => ∀ u, scalD d = true → Rep E d u → Rep E' d u) (motive_2 := fun ds => ∀ vs, scalL ds = true → Reps E ds vs → Reps E' ds vs) ?_ ?_ ?_ ?_ ?_ ?_ ?_ ?_ ?_ ?_ d
  · intro u h _; cases h
  · intro p u h hr
    cases p with
    | sc v => exact hr
    | slc sz xs => cases h
  · intro cs ih u h ⟨vs, h1, h3, h2⟩; exact ⟨vs, h1, h3, ih vs h h2⟩
  · intro cs ih u h ⟨vs, h1, h2⟩; exact ⟨vs, h1, ih vs h h2⟩
  · intro b v o u h _; cases h
  · intro cs u h _; cases h
  · intro a b c d e u h _; cases h
  · intro f cs _ u h _; cases h
  · intro vs _ h; cases vs <;> first | trivial | exact h.elim
  · intro d ds ih1 ih2 vs h hr
    simp only [scalL, Bool.and_eq_true] at h
    cases vs with
    | nil => exact hr.elim
    | cons v vs => exact ⟨ih1 v h.1 hr.1, ih2 vs h.2 hr.2⟩
theorem FnV.ro {P : Program} {f : FuncId} {xs ys : List (List PD)} {o n : Nat} {rest : List DV} {r : DV} {st : Store} {K : DV → Store → Prop} (b sz : Nat) (bx : Box) (hb : st[b]? = some bx) (hl : bx.live = true) (hcells : bx.cells = rowsD xs) (hsz : ∀ x ∈ xs, x.length = sz) (k : Nat) (ho : o = k * sz) (hkn : k + n ≤ xs.length) (hys : ys = (xs.drop k).take n)
    (h : FnV P f (.d (.slc sz ys) :: rest) r) (hcr : closedL 0 rest = true) (hs : scalD r = true) (hk : K r st) : FnD P f (.view sz b bx.ver o n :: rest) st K := by
  intro E vs hc hst hargs
  subst hst
  cases vs with
  | nil => exact hargs.elim
  | cons v vs =>
  obtain ⟨hv, hvs⟩ := hargs
  have hbl := (List.getElem?_eq_some_iff.1 hb).1
  have hlen := hc.len
  obtain ⟨⟨g, z⟩, hg⟩ : ∃ gz, E.σ[b]? = some gz := ⟨E.σ[b]'(by omega), List.getElem?_eq_getElem _⟩
  obtain ⟨cur, a1, a2, a3, a4, a5, a6, a7, a8⟩ := hc.box b bx g z hb hg hl
  let S' : Nat → Prop := fun g' => E.S g' ∨ g' = g
  have hkept : Kept E.w E.w E.S S' := fun g' h => ⟨.inl h, rfl⟩
  have hrows : RowsP E.w S' sz xs ⟨g, 0, none⟩ := by
    refine RowsP.of_flat xs _ hsz (CellsP.of_get _ _ fun j p hj => ?_)
    obtain ⟨u, c1, c2, c3⟩ := a7 j (.d p) (by rw [hcells, rowsD_get, hj]; rfl)
    refine ⟨u, ?_, c2, RepP.keep hkept p u c3⟩
    have hadd : (⟨g, 0, none⟩ : Addr).add j = ⟨g, j, none⟩ := by unfold Addr.add; split <;> simp_all
    rw [hadd]
    simp [World.cell?, a1, c1]
  let Em : Env := ⟨E.w, S', E.σ, E.st⟩
  have hem : Ext E Em := ⟨Nat.le_refl _, rfl, rfl, rfl, fun _ h => .inl h, fun g' h => by
    rcases h with h | h
    · exact .inl h
    · exact .inr (.inr ⟨b, z, by rw [hg, h]⟩), fun _ _ _ => rfl, fun _ bx gz h1 h2 => ⟨bx, gz, h1, h2, Nat.le_refl _, fun _ => rfl, id, .inl rfl⟩, fun _ _ h1 h2 => by rw [show Em.σ = E.σ from rfl, h1] at h2; cases h2⟩
  let E1 : Env := ⟨E.w, S', [], []⟩
  have hold : ∀ g', S' g' → g' < E.w.heap.size := fun g' h => by
    rcases h with h | h
    · exact hc.old g' h
    · rw [h]; exact hc.lt b g z hg
  have hc1 : Conc E1 := by
    refine ⟨rfl, ?_, ?_, hold, ?_⟩
    · intro i bi g' z' h1; cases h1
    · intro i i' g' z' g2 z2 h1; cases h1
    · intro i g' z' h1; cases h1
  have hv1 : Rep E1 (.d (.slc sz ys)) v := by
    obtain ⟨bi, gz, h1, h2, h0, h3, h4⟩ := hv
    rw [hb] at h1; cases h1
    rw [hg] at h2; cases h2
    obtain ⟨c, rfl, c1, c2, c3⟩ := h4 rfl
    have hyl : ys.length = n := by rw [hys, List.length_take, List.length_drop]; omega
    refine .inr ⟨⟨g, o, none⟩, c, by rw [hyl], by rw [hyl]; exact c1, c2, fun _ => .inr rfl, ?_⟩
    have hadd : (⟨g, 0, none⟩ : Addr).add (k * sz) = ⟨g, o, none⟩ := by rw [← ho]; unfold Addr.add; split <;> simp_all
    rw [hys, ← hadd]
    exact RowsP.take _ _ _ (RowsP.cut _ _ _ hrows)
  have hvs1 : Reps E1 rest vs := by
    have h1 := Reps.ext hc hem rest vs hvs
    have hbk : Back Em E1 (fun b => b) 0 := ⟨rfl, rfl, fun i bi hi => absurd hi (by omega), fun i gz hi => absurd hi (by omega)⟩
    exact Reps.back hbk rest vs hcr (by rw [renL_pure _ rest hcr]; exact h1)
  refine (h E1 (v :: vs) hc1 rfl ⟨hv1, hvs1⟩).mono ?_
  rintro e w' ⟨v2, E2, r2, k1, k2, ⟨k3, k4, k5⟩, k6, k7, k8⟩
  have k5 : r2 = r := k5
  subst k5
  have hheap : ∀ x, x < E.w.heap.size → E2.w.heap[x]? = E.w.heap[x]? := fun x hx => k7.heap x hx (fun i z' bi h1 => by cases h1)
  have hS2 : ∀ x, E2.S x → E.S x ∨ x = g ∨ E.w.heap.size ≤ x := fun x hx => by
    rcases k7.fresh x hx with h1 | h1 | ⟨i, z', h1⟩
    · rcases h1 with h1 | h1
      · exact .inl h1
      · exact .inr (.inl h1)
    · exact .inr (.inr h1)
    · cases h1
  have hglt := hc.lt b g z hg
  let E3 : Env := ⟨E2.w, fun x => E2.S x ∧ x ≠ g, E.σ, E.st⟩
  have hx3 : Ext E E3 := ⟨k7.size, k7.os, k7.tape, k7.output, fun x hx => ⟨k7.set x (.inl hx), fun e => a6 (e ▸ hx)⟩, fun x hx => by
    rcases hS2 x hx.1 with h1 | h1 | h1
    · exact .inl h1
    · exact absurd h1 hx.2
    · exact .inr (.inl h1), fun x hx _ => hheap x hx, fun _ bx gz h1 h2 => ⟨bx, gz, h1, h2, Nat.le_refl _, fun _ => rfl, id, .inl rfl⟩, fun _ _ h1 h2 => by rw [show E3.σ = E.σ from rfl, h1] at h2; cases h2⟩
  have hc3 : Conc E3 := by
    refine ⟨hc.len, fun i bi g' z' h1 h2 hli => ?_, hc.inj, fun x hx => k6.old x hx.1, fun i g' z' h1 => Nat.lt_of_lt_of_le (hc.lt i g' z' h1) k7.size⟩
    obtain ⟨cur', c1, c2, c3, c4, c5, c6, c7, c8⟩ := hc.box i bi g' z' h1 h2 hli
    have hlt := hc.lt i g' z' h2
    refine ⟨cur', by rw [show E3.w = E2.w from rfl, hheap g' hlt]; exact c1, c2, c3, c4, c5, fun hS => ?_, fun j d hj => ?_, c8⟩
    · rcases hS2 g' hS.1 with q | q | q
      · exact c6 q
      · exact hS.2 q
      · omega
    · obtain ⟨u, u1, u2, u3⟩ := c7 j d hj
      exact ⟨u, u1, u2, Rep.ext hc hx3 d u u3⟩
  exact ⟨v2, E3, r2, k1, k2, hk, hc3, hx3, scal_rep r2 v2 hs k8⟩

end Go.Proofs.Ytjlbdfehkbcmfaa
namespace Go.Proofs.Ytjlbdfehkbcmfaa
open Go.RowKit
set_option linter.all false
theorem ren_box {ρ : List Nat} {n : Nat} {bx : Box} (hb : closedL 0 bx.cells = true) : Box.ren (place ρ n) bx = bx := by
  unfold Box.ren
  have := renL_pure (place ρ n) bx.cells hb
  rw [renL_eq] at this
  rw [this]
theorem set_self {st : Store} {b : Nat} {bx : Box} (hb : st[b]? = some bx) : st.set b bx = st := by
  apply List.ext_getElem?
  intro i
  rw [List.getElem?_set]
  by_cases hi : b = i
  · subst hi
    have hlt := (List.getElem?_eq_some_iff.1 hb).1
    rw [if_pos rfl, if_pos hlt, hb]
  · simp [hi]
theorem FnD.rowKeep {P : Program} {f : FuncId} {args : List DV} {bx : Box} {res : DV} {st : Store} {K : DV → Store → Prop} {sz v o n : Nat} (b : Nat) (h : FnD P f (.view sz 0 v o n :: args) [bx] fun r st' => r = res ∧ st' = [bx]) (hb : st[b]? = some bx)
    (ha : closedL 0 args = true) (hr : closedD 0 res = true) (h1 : closedL 0 bx.cells = true) (hk : K res st) : FnD P f (.view sz b v o n :: args) st K := by
  have hlt : b < st.length := (List.getElem?_eq_some_iff.1 hb).1
  refine FnD.at (args' := .view sz 0 v o n :: args) h [b] (by simp [hlt, closedL, closedD, closedL_mono (Nat.zero_le 1) _ ha]) ?_ (by simp [renL, renD, place, renL_pure _ _ ha]) ?_
  · intro k r bx0 hk hs
    cases k with
    | zero =>
      simp at hk hs
      subst hk; subst hs
      exact ⟨by rw [ren_box h1]; exact hb, closedL_mono (Nat.zero_le _) _ h1⟩
    | succ k => simp at hk
  · rintro r0 stc ⟨rfl, rfl⟩ _
    rw [renD_pure _ _ hr]
    have e2 : mergeL st [b] ([bx].map (Box.ren (place [b] st.length))) = st.set b bx := by
      apply List.ext_getElem?
      intro i
      simp only [mergeL, List.map_cons, List.map_nil, ren_box h1, List.length_singleton, List.drop_one, List.tail_cons, List.append_nil, List.getElem?_mapIdx, List.getElem?_set]
      by_cases hi : b = i
      · subst hi
        simp [hlt, List.idxOf?, List.findIdx?_cons]
      · have : ([b] : List Nat).idxOf? i = none := by rw [List.idxOf?_eq_none_iff]; simpa using fun h => hi h.symm
        simp [this, hi]
    rw [e2, set_self hb]
    exact hk
theorem FnD.rowNew {P : Program} {f : FuncId} {args : List DV} {bx bx2 : Box} {st : Store} {K : DV → Store → Prop} {sz v o n : Nat} (b : Nat) (h : FnD P f (.view sz 0 v o n :: args) [bx] fun r st' => r = .ref 1 0 0 ∧ st' = [bx, bx2]) (hb : st[b]? = some bx)
    (ha : closedL 0 args = true) (h1 : closedL 0 bx.cells = true) (h2 : closedL 0 bx2.cells = true) (hk : K (.ref st.length 0 0) (st ++ [bx2])) : FnD P f (.view sz b v o n :: args) st K := by
  have hlt : b < st.length := (List.getElem?_eq_some_iff.1 hb).1
  refine FnD.at (args' := .view sz 0 v o n :: args) h [b] (by simp [hlt, closedL, closedD, closedL_mono (Nat.zero_le 1) _ ha]) ?_ (by simp [renL, renD, place, renL_pure _ _ ha]) ?_
  · intro k r bx0 hk hs
    cases k with
    | zero =>
      simp at hk hs
      subst hk; subst hs
      exact ⟨by rw [ren_box h1]; exact hb, closedL_mono (Nat.zero_le _) _ h1⟩
    | succ k => simp at hk
  · rintro r0 stc ⟨rfl, rfl⟩ _
    have e2 : mergeL st [b] ([bx, bx2].map (Box.ren (place [b] st.length))) = st.set b bx ++ [bx2] := by
      apply List.ext_getElem?
      intro i
      simp only [mergeL, List.map_cons, List.map_nil, ren_box h1, ren_box h2, List.length_singleton, List.drop_one, List.tail_cons]
      by_cases hl : i < st.length
      · rw [List.getElem?_append_left (by simpa using hl), List.getElem?_append_left (by simpa using hl), List.getElem?_mapIdx, List.getElem?_set]
        by_cases hi : b = i
        · subst hi
          simp [hlt, List.idxOf?, List.findIdx?_cons]
        · have : ([b] : List Nat).idxOf? i = none := by rw [List.idxOf?_eq_none_iff]; simpa using fun h => hi h.symm
          simp [this, hi]
      · rw [List.getElem?_append_right (by simpa using hl), List.getElem?_append_right (by simpa using hl)]
        simp
    rw [e2, set_self hb]
    have e3 : renD (place [b] st.length) (.ref 1 0 0) = .ref st.length 0 0 := by simp [renD, place]
    rw [e3]
    exact hk
/-- At the end: boxes are kept, what holds nothing is told as settled. -/
theorem ret_upk {k : Nat} {κ : List Nat} {R : DV → Store → Prop} {d r : DV} {st st2 : Store} (h : keepB k κ st.length = true) (hu : UpD (pullD κ d) r) (hst : keepSt κ st = st2) (hR : R r st2) : RetW k R d st := by
  subst hst
  exact ⟨r, _, TellsV.trans (TellsV.turn (turn_keep κ h) rfl) (TellsV.up k _ hu), hR⟩

/-- A part of a row of one's own, between two places. -/
theorem sliceL {P : Program} {N : Nat} {X : Cps} (hX : X = X0 P N) {T : Tab} (hT : TabOk P T) {t sz e : Nat} {x lo hi : Operand} {s : SL} {st : Store} {K : DV → Store → Prop} {b o n : Nat} {li hj : Int} (l h : Nat) (bx : Box)
    (h1 : T.sl t = some (e, sz)) (hx : ev (getS s) x = .view sz b bx.ver o n) (hl : ev (getS s) lo = .d (.sc (.int .i64 li))) (hh : ev (getS s) hi = .d (.sc (.int .i64 hj))) (hb : st[b]? = some bx) (hli : li = (l : Int)) (hhj : hj = (h : Int)) (hr : l ≤ h ∧ h ≤ n)
    (k1 : 0 < l → l = h → K (.d (.slc sz [])) st) (k2 : (l = 0 ∨ l < h) → ∀ q m, q = o + l * sz → m = h - l → K (.view sz b bx.ver q m) st) :
    X.op (.slice t x (some lo) (some hi) none) s st K := by
  refine opL hX ?_
  have h2 : slD P t = some (e, sz) := hT.sl _ _ h1
  subst hli hhj
  simp only [opD, hx, Option.map_some, hl, hh, sliceD, h2, boundD, hb]
  refine ⟨rfl, rfl, .inl ⟨⟨by omega, by omega, by omega⟩, fun hz => ?_, fun h3 h4 => k1 (by omega) (by omega), fun h3 h4 => ?_⟩⟩
  · exact k2 (.inl (by omega)) _ _ (by have : l = 0 := by omega
                                       rw [this]; omega) (by omega)
  · exact k2 (.inr (by omega)) _ _ (by simp) (by simp)
end Go.Proofs.Ytjlbdfehkbcmfaa
namespace Go.Proofs.Ytjlbdfehkbcmfaa
open Go.RowKit
set_option linter.all false
set_option maxHeartbeats 4000000

/-- A row of pairs of one's own that shows these. -/
def ownP (xs : List (List PD)) (r : DV) (st : Store) : Prop := ∃ v m cs, cs = rowsD xs ∧ m = xs.length ∧ r = .view 3 0 v 0 m ∧ st = [⟨35, cs, true, v, true⟩]
set_option maxRecDepth 100000 in
theorem w_cloneN (x : List PD) (xs : List (List PD)) (hp0 : isP (x :: xs)) : FnD Try.prog 23 [.d (.slc 3 (x :: xs))] [] (ownP (x :: xs)) := by
  refine FnD_cbv (T := fun _ => tabY [] []) (H := fun _ => []) (tabY_ok _ _) noK_ok follows_mixed Try.func23 rfl Try.ntmps23 (by simp) fun A X W hA hX hW => ?_
  cbv
  subst hA hX hW
  refine ⟨rfl, rfl, ?_, ?_⟩
  · have := isP.len hp0
    simp only [A0]
    generalize (x :: xs).length = n at *
    omega
  · exact RetW.refl ⟨1, (x :: xs).length, rowsD (x :: xs), rfl, rfl, by simp [A0], rfl⟩
set_option maxRecDepth 100000 in
theorem w_cloneV (cs : List DV) (v n : Nat) (e : Bool) (hn : 0 < n ∧ n ≤ 4194304) (hc : cs.length = n * 3) : FnD Try.prog 23 [.view 3 0 v 0 n] [⟨35, cs, e, v, true⟩] (fun r st => ∃ ds, ds = cs ∧ r = .view 3 1 1 0 n ∧ st = [⟨35, cs, e, v, true⟩, ⟨35, ds, true, 1, true⟩]) := by
  refine FnD_cbv (T := fun _ => tabY [] []) (H := fun _ => []) (tabY_ok _ _) noK_ok follows_mixed Try.func23 rfl Try.ntmps23 (by simp) fun A X W hA hX hW => ?_
  cbv
  subst hA hX hW
  have e1 : A0.app [] (A0.tk cs 0 n 3) = cs := by
    show [] ++ (cs.drop 0).take (n * 3) = cs
    rw [List.nil_append, List.drop_zero, List.take_of_length_le (by omega)]
  have e2 : A0.pl 0 n = n := Nat.zero_add n
  repeat' (refine And.intro ?_ ?_)
  all_goals first
    | rfl
    | (show 0 + n * 3 ≤ cs.length; omega)
    | omega
    | (refine RetW.refl ⟨A0.app [] (A0.tk cs 0 n 3), e1, ?_, rfl⟩
       show DV.view 3 1 1 0 (0 + n) = .view 3 1 1 0 n
       rw [Nat.zero_add])
    | fail

set_option maxRecDepth 100000 in
theorem w_turn (cs : List DV) (v n : Nat) (hn : n ≤ 4194304) (hc : ∃ ps : List PD, cs = ps.map .d ∧ ps.length = n * 3) : FnD Try.prog 12 [.view 3 0 v 0 n] [⟨35, cs, true, v, true⟩] (fun r st => ∃ ds, (∃ ps : List PD, ds = ps.map .d ∧ ps.length = n * 3) ∧ r = .tup [] ∧ st = [⟨35, ds, true, v, true⟩]) := by
  refine FnD_cbv (T := fun _ => tabY [12] []) (H := fun _ => []) (tabY_ok _ _) noK_ok follows_mixed Try.func12 rfl Try.ntmps12 (by simp) fun A X W hA hX hW => ?_
  cbv
  refine loopL (T := fun _ => tabY [12] []) (H := fun _ => []) (tabY_ok _ _) noK_ok follows_mixed hA hX
    (fun x : Int × List DV => (0 ≤ x.1 ∧ x.1 ≤ (n : Int)) ∧ ∃ ps : List PD, x.2 = ps.map .d ∧ ps.length = n * 3)
    (fun x => [(0, .view 3 0 v 0 n), (2, .d (.sc (.int .i64 x.1)))])
    (fun x => [⟨35, x.2, true, v, true⟩]) (fun x => ((n : Int) - x.1).toNat) (0, cs) ?_ ?_ ?_
  · exact ⟨⟨Int.le_refl 0, Int.natCast_nonneg n⟩, hc⟩
  · exact told_less ⟨.inl rfl, .inl rfl, trivial⟩
  rintro R ⟨i, ds⟩ hR ⟨hi, ps, hps, hl⟩
  replace hi : 0 ≤ i ∧ i ≤ (n : Int) := hi
  replace hps : ds = ps.map .d := hps
  cbv
  by_cases hlt : i < (n : Int)
  · have f1 : A.cmp .lss i (A.int n) = true := by subst hA; exact decide_eq_true hlt
    cbv at f1
    simp only [f1]
    cbv
    replace hi : 0 ≤ i ∧ i ≤ (n : Int) := hi
    replace hlt : i < (n : Int) := hlt
    replace hn : n ≤ 4194304 := hn
    replace hl : ps.length = n * 3 := hl
    have hnat : i.toNat < n := by omega
    have hdl : ds.length = n * 3 := by rw [hps, List.length_map, hl]
    have hw : IntKind.wrap .i64 (i + 1) = i + 1 := wrap_i64 (by unfold r64; omega)
    repeat' (refine And.intro ?_ ?_)
    all_goals subst hA
    all_goals first
      | rfl
      | exact ⟨hi.1, hlt⟩
      | (simp only [A0]; omega)
      | (show A0.off 0 i 3 + 3 ≤ ds.length; simp only [A0]; omega)
      | (rw [hR]
         refine ⟨(i + 1, splice ds (0 + i.toNat * 3) [.d (.sc (.string .empty)), .d (.sc (.string .empty)), .d (.sc (.int .i64 (-1)))]), ⟨⟨by show 0 ≤ i + 1; omega, by show i + 1 ≤ (n : Int); omega⟩, ps.take (0 + i.toNat * 3) ++ [.sc (.string .empty), .sc (.string .empty), .sc (.int .i64 (-1))] ++ ps.drop (0 + i.toNat * 3 + 3), ?_, ?_⟩, (by show ((n : Int) - (i + 1)).toNat < ((n : Int) - i).toNat; omega), told_less ⟨.inl rfl, .inl ?_, trivial⟩⟩
         · show splice ds _ _ = _
           rw [hps]
           simp [splice, List.map_take, List.map_drop]
         · simp
           omega
         · show DV.d (.sc (.int .i64 (i + 1))) = .d (.sc (.int .i64 (IntKind.wrap .i64 (i + 1))))
           rw [hw])
      | fail
  · have f1 : A.cmp .lss i (A.int n) = false := by subst hA; exact decide_eq_false hlt
    cbv at f1
    simp only [f1]
    cbv
    subst hA hX hW
    exact ⟨rfl, RetW.refl ⟨ds, ⟨ps, hps, hl⟩, rfl, rfl⟩⟩

end Go.Proofs.Ytjlbdfehkbcmfaa
namespace Go.Proofs.Ytjlbdfehkbcmfaa
open Go.RowKit
set_option linter.all false
set_option maxHeartbeats 4000000
theorem rows_closed (xs : List (List PD)) : closedL 0 (rowsD xs) = true := closedL_data 0 _
/-- A contract that makes a row of one's own, whatever boxes there are. -/
theorem FnD.newRowP {z2 : Nat} {P : Program} {f : FuncId} {args : List DV} {T : TypeId} {L : List (List PD)} (h : FnD P f args [] (fun r st' => ∃ v cs m, cs = rowsD L ∧ m = L.length ∧ r = .view z2 0 v 0 m ∧ st' = [⟨T, cs, true, v, true⟩])) (ha : closedL 0 args = true) {st : Store} {K : DV → Store → Prop} (hk : ∀ v cs m, cs = rowsD L → m = L.length → K (.view z2 st.length v 0 m) (st ++ [⟨T, cs, true, v, true⟩])) : FnD P f args st K := by
  refine FnD.at (args' := args) h [] (by simp [ha]) (by simp) (by rw [renL_pure _ _ ha]) ?_
  rintro r0 stc ⟨v, cs, m, rfl, rfl, rfl, rfl⟩ _
  have e2 : mergeL st [] ([(⟨T, rowsD L, true, v, true⟩ : Box)].map (Box.ren (place [] st.length))) = st ++ [⟨T, rowsD L, true, v, true⟩] := by
    have e3 : (rowsD L).map (renD (place [] st.length)) = rowsD L := by rw [← renL_eq]; exact renL_pure _ _ (rows_closed _)
    simp only [List.map_cons, List.map_nil, Box.ren, e3]
    apply List.ext_getElem?
    intro i
    rw [mergeL]
    simp only [List.idxOf?_nil, List.length_nil, List.drop_zero]
    congr 2
    apply List.ext_getElem?
    intro j
    simp
  rw [e2]
  have e4 : renD (place [] st.length) (.view z2 0 v 0 L.length) = .view z2 st.length v 0 L.length := by simp [renD, place]
  rw [e4]
  exact hk v _ _ rfl rfl
theorem FnD.rowNewV {z2 v2 m : Nat} {P : Program} {f : FuncId} {args : List DV} {bx bx2 : Box} {st : Store} {K : DV → Store → Prop} {sz v o n : Nat} (b : Nat) (h : FnD P f (.view sz 0 v o n :: args) [bx] fun r st' => r = .view z2 1 v2 0 m ∧ st' = [bx, bx2]) (hb : st[b]? = some bx)
    (ha : closedL 0 args = true) (h1 : closedL 0 bx.cells = true) (h2 : closedL 0 bx2.cells = true) (hk : K (.view z2 st.length v2 0 m) (st ++ [bx2])) : FnD P f (.view sz b v o n :: args) st K := by
  have hlt : b < st.length := (List.getElem?_eq_some_iff.1 hb).1
  refine FnD.at (args' := .view sz 0 v o n :: args) h [b] (by simp [hlt, closedL, closedD, closedL_mono (Nat.zero_le 1) _ ha]) ?_ (by simp [renL, renD, place, renL_pure _ _ ha]) ?_
  · intro k r bx0 hk hs
    cases k with
    | zero =>
      simp at hk hs
      subst hk; subst hs
      exact ⟨by rw [ren_box h1]; exact hb, closedL_mono (Nat.zero_le _) _ h1⟩
    | succ k => simp at hk
  · rintro r0 stc ⟨rfl, rfl⟩ _
    have e2 : mergeL st [b] ([bx, bx2].map (Box.ren (place [b] st.length))) = st.set b bx ++ [bx2] := by
      apply List.ext_getElem?
      intro i
      simp only [mergeL, List.map_cons, List.map_nil, ren_box h1, ren_box h2, List.length_singleton, List.drop_one, List.tail_cons]
      by_cases hl : i < st.length
      · rw [List.getElem?_append_left (by simpa using hl), List.getElem?_append_left (by simpa using hl), List.getElem?_mapIdx, List.getElem?_set]
        by_cases hi : b = i
        · subst hi
          simp [hlt, List.idxOf?, List.findIdx?_cons]
        · have : ([b] : List Nat).idxOf? i = none := by rw [List.idxOf?_eq_none_iff]; simpa using fun h => hi h.symm
          simp [this, hi]
      · rw [List.getElem?_append_right (by simpa using hl), List.getElem?_append_right (by simpa using hl)]
        simp
    rw [e2, set_self hb]
    have e3 : renD (place [b] st.length) (.view z2 1 v2 0 m) = .view z2 st.length v2 0 m := by simp [renD, place]
    rw [e3]
    exact hk

end Go.Proofs.Ytjlbdfehkbcmfaa
namespace Go.Proofs.Ytjlbdfehkbcmfaa
open Go.RowKit
set_option linter.all false
set_option maxHeartbeats 4000000

theorem pullL_cl (κ : List Nat) : ∀ ds : List DV, closedL 0 ds = true → pullL κ ds = ds := by
  intro ds
  induction ds with
  | nil => intro _; rfl
  | cons d ds ih =>
    intro h
    simp only [closedL, Bool.and_eq_true] at h
    simp only [pullL, RetW.drop.pullD_pure κ d h.1, ih h.2]
theorem w_cloneL (L : List (List PD)) (hL : L ≠ []) (hp0 : isP L) : FnD Try.prog 23 [.d (.slc 3 L)] [] (fun r st' => ∃ v cs m, cs = rowsD L ∧ m = L.length ∧ r = .view 3 0 v 0 m ∧ st' = [⟨35, cs, true, v, true⟩]) := by
  cases L with
  | nil => exact absurd rfl hL
  | cons x xs => exact (w_cloneN x xs hp0).mono (fun r st ⟨v, m, cs, h1, h2, h3, h4⟩ => ⟨v, cs, m, h1, h2, h3, h4⟩)
set_option maxRecDepth 100000 in
theorem w_copiedN (w : Int) (fd : Bool) (vl : ByteArray) (vr : Int) (L : List (List PD)) (hL : L ≠ []) (hp0 : isP L) : FnD Try.prog 18 [.agg [.d (.sc (.int .i64 w)), .d (.sc (.bool fd)), .d (.sc (.string vl)), .d (.sc (.int .i64 vr)), .d (.slc 3 L)]] [] (fun r st => ∃ v cs m, cs = rowsD L ∧ m = L.length ∧ r = .agg [.d (.sc (.int .i64 w)), .d (.sc (.bool fd)), .d (.sc (.string vl)), .d (.sc (.int .i64 vr)), .view 3 0 v 0 m] ∧ st = [⟨35, cs, true, v, true⟩]) := by
  refine FnD_cbv (T := fun _ => tabY [] []) (H := fun _ => []) (tabY_ok _ _) noK_ok follows_mixed Try.func18 rfl Try.ntmps18 (by simp) fun A X W hA hX hW => ?_
  cbv
  refine callL hX (FnD.newRowP (w_cloneL L hL hp0) rfl fun v cs m hcs hm => ?_)
  cbv
  subst hA hX hW
  repeat' (refine And.intro ?_ ?_)
  all_goals first
    | rfl
    | (refine ret_keep [2] rfl ⟨v, cs, m, hcs, hm, ?_, ?_⟩
       · simp [pullD, pullL]
       · simp [keepSt, pullBox, hcs, pullL_eq, pull_rows])
    | fail
set_option maxRecDepth 100000 in
theorem w_copiedV (w : Int) (fd : Bool) (vl : ByteArray) (vr : Int) (cs : List DV) (v n : Nat) (e : Bool) (hn : 0 < n ∧ n ≤ 4194304) (hc : cs.length = n * 3) (hcl : closedL 0 cs = true) : FnD Try.prog 18 [.agg [.d (.sc (.int .i64 w)), .d (.sc (.bool fd)), .d (.sc (.string vl)), .d (.sc (.int .i64 vr)), .view 3 0 v 0 n]] [⟨35, cs, e, v, true⟩] (fun r st => ∃ ds, ds = cs ∧ r = .agg [.d (.sc (.int .i64 w)), .d (.sc (.bool fd)), .d (.sc (.string vl)), .d (.sc (.int .i64 vr)), .view 3 1 1 0 n] ∧ st = [⟨35, cs, e, v, true⟩, ⟨35, ds, true, 1, true⟩]) := by
  refine FnD_cbv (T := fun _ => tabY [] []) (H := fun _ => []) (tabY_ok _ _) noK_ok follows_mixed Try.func18 rfl Try.ntmps18 (by simp) fun A X W hA hX hW => ?_
  cbv
  refine callL hX (FnD.rowNewV 0 ((w_cloneV cs v n e hn hc).mono (fun r st ⟨ds, h1, h2, h3⟩ => ⟨h2, by rw [h3, h1]⟩)) rfl rfl hcl hcl ?_)
  cbv
  have hpl : ∀ κ, pullL κ cs = cs := fun κ => pullL_cl κ cs hcl
  have hpm : ∀ κ, cs.map (pullD κ) = cs := fun κ => (pullL_eq κ cs).symm.trans (hpl κ)
  subst hA hX hW
  repeat' (refine And.intro ?_ ?_)
  all_goals first
    | rfl
    | (refine ret_keep [0, 3] rfl ⟨cs, rfl, rfl, ?_⟩
       show [(⟨_, pullL [0, 3] cs, _, _, _⟩ : Box), ⟨_, pullL [0, 3] cs, _, _, _⟩] = _
       rw [hpl]
       rfl)
    | fail

end Go.Proofs.Ytjlbdfehkbcmfaa
namespace Go.Proofs.Ytjlbdfehkbcmfaa
open Go.RowKit
set_option linter.all false
set_option maxHeartbeats 4000000

/-- copied, whatever boxes there are. -/
theorem copiedNew (w : Int) (fd : Bool) (vl : ByteArray) (vr : Int) (L : List (List PD)) (hL : L ≠ []) (hp0 : isP L) {st : Store} {K : DV → Store → Prop} (hk : ∀ v cs m, cs = rowsD L → m = L.length → K (.agg [.d (.sc (.int .i64 w)), .d (.sc (.bool fd)), .d (.sc (.string vl)), .d (.sc (.int .i64 vr)), .view 3 st.length v 0 m]) (st ++ [⟨35, cs, true, v, true⟩])) : FnD Try.prog 18 [.agg [.d (.sc (.int .i64 w)), .d (.sc (.bool fd)), .d (.sc (.string vl)), .d (.sc (.int .i64 vr)), .d (.slc 3 L)]] st K := by
  refine FnD.at (args' := [.agg [.d (.sc (.int .i64 w)), .d (.sc (.bool fd)), .d (.sc (.string vl)), .d (.sc (.int .i64 vr)), .d (.slc 3 L)]]) (w_copiedN w fd vl vr L hL hp0) [] rfl (by simp) (by rw [renL_pure _ _ rfl]) ?_
  rintro r0 stc ⟨v, cs, m, rfl, rfl, rfl, rfl⟩ _
  have e2 : mergeL st [] ([(⟨35, rowsD L, true, v, true⟩ : Box)].map (Box.ren (place [] st.length))) = st ++ [⟨35, rowsD L, true, v, true⟩] := by
    have e3 : (rowsD L).map (renD (place [] st.length)) = rowsD L := by rw [← renL_eq]; exact renL_pure _ _ (rows_closed _)
    simp only [List.map_cons, List.map_nil, Box.ren, e3]
    apply List.ext_getElem?
    intro i
    rw [mergeL]
    simp only [List.idxOf?_nil, List.length_nil, List.drop_zero]
    congr 2
    apply List.ext_getElem?
    intro j
    simp
  rw [e2]
  have e4 : renD (place [] st.length) (.agg [.d (.sc (.int .i64 w)), .d (.sc (.bool fd)), .d (.sc (.string vl)), .d (.sc (.int .i64 vr)), .view 3 0 v 0 L.length]) = .agg [.d (.sc (.int .i64 w)), .d (.sc (.bool fd)), .d (.sc (.string vl)), .d (.sc (.int .i64 vr)), .view 3 st.length v 0 L.length] := by simp [renD, renL, place]
  rw [e4]
  exact hk v _ _ rfl rfl
set_option maxRecDepth 100000 in
theorem w_lookN (cs : List DV) (client seq : Int) (os : List Owner) (hos : os.length = 8) (hcs : cs = ownsD os) (hop : ∀ o ∈ os, isP o.reply.pairs) (hk : knownX client = true) (o : Owner) (hat : ownOf cs (client - 1).toNat = o) (hseq : o.seq = seq) (L : List (List PD)) (hL : L ≠ []) (hpr : o.reply.pairs = L) : FnD Try.prog 13 [.agg cs, .d (.sc (.int .i64 client)), .d (.sc (.int .i64 seq))] [] (fun r st => ∃ v ds m, ds = rowsD L ∧ m = L.length ∧ r = .tup [.d (.sc (.int .i64 2)), .agg [.d (.sc (.int .i64 o.reply.why)), .d (.sc (.bool o.reply.found)), .d (.sc (.string o.reply.value)), .d (.sc (.int .i64 o.reply.version)), .view 3 0 v 0 m]] ∧ st = [⟨35, ds, true, v, true⟩]) := by
  obtain ⟨GFsR, hGFsR⟩ : ∃ F, F = FsR0 := ⟨_, rfl⟩
  have hH : SoundK Try.prog [kn_known GFsR] := by subst hGFsR; exact orK_ok ok_known noK_ok
  refine FnD_cbv (T := fun _ => tabY [0, 15] []) (H := fun _ => [kn_known GFsR]) (tabY_ok _ _) hH follows_mixed Try.func13 rfl Try.ntmps13 (by simp) fun A X W hA hX hW => ?_
  cbv
  refine And.intro (by subst hA; show cs.length ≤ 1000000; rw [hcs, own_length]; omega) ?_
  refine part (fun hk2 => ?_) (fun hk2 => ?_) <;> cbv
  · exfalso
    have h0 : knownX client = false := by subst hA hGFsR; simpa [A0, FsR0] using hk2
    rw [hk] at h0
    cases h0
  · obtain ⟨ew, k0, k1, o2, eo, ho, g0, g1, g2, g3, g4, g5, gt, gl⟩ := own_at hos hcs hop hk
    rw [hat] at eo
    subst eo
    refine ⟨by subst hA; rfl, by subst hA; simp only [A0, ew]; exact ⟨k0, k1⟩, by subst hA; rfl, by subst hA; simp only [A0, ew, Nat.zero_add, g0, g1, g2, g3, g4, g5, gt]; exact ⟨rfl, gl, rfl⟩, ?_⟩
    refine part (fun h1 => ?_) (fun h1 => ?_) <;> try cbv
    · exfalso
      subst hA
      simp only [A0, ew, Nat.zero_add, g0, hseq] at h1
      simp at h1
    · refine part (fun h2 => ?_) (fun h2 => ?_) <;> try cbv
      · rw [hpr] at ho
        refine callL hX (Eq.mpr (congrArg (fun a => FnD Try.prog _ a _ _) ?_) (copiedNew o.reply.why o.reply.found o.reply.value o.reply.version L hL ho fun v ds m hds hm => ?_))
        · subst hA
          simp only [A0, ew, Nat.zero_add, g1, g2, g3, g4, g5, hpr]
        · cbv
          subst hW
          have hpl : pullL [3] ds = ds := by rw [hds, pullL_eq, pull_rows]
          refine ret_keep [3] rfl ⟨v, ds, m, hds, hm, rfl, ?_⟩
          show [(⟨_, pullL [3] ds, _, _, _⟩ : Box)] = _
          rw [hpl]
          rfl
      · exfalso
        subst hA
        simp only [A0, ew, Nat.zero_add, g0, hseq] at h2
        simp at h2

end Go.Proofs.Ytjlbdfehkbcmfaa
namespace Go.Proofs.Ytjlbdfehkbcmfaa
open Go.RowKit
set_option linter.all false
set_option maxHeartbeats 4000000
theorem copiedKeep (w : Int) (fd : Bool) (vl : ByteArray) (vr : Int) (cs : List DV) (v n : Nat) (e : Bool) (hn : 0 < n ∧ n ≤ 4194304) (hc : cs.length = n * 3) (hcl : closedL 0 cs = true) {st : Store} {K : DV → Store → Prop} (b : Nat) (hb : st[b]? = some ⟨35, cs, e, v, true⟩) (hk : K (.agg [.d (.sc (.int .i64 w)), .d (.sc (.bool fd)), .d (.sc (.string vl)), .d (.sc (.int .i64 vr)), .view 3 st.length 1 0 n]) (st ++ [⟨35, cs, true, 1, true⟩])) : FnD Try.prog 18 [.agg [.d (.sc (.int .i64 w)), .d (.sc (.bool fd)), .d (.sc (.string vl)), .d (.sc (.int .i64 vr)), .view 3 b v 0 n]] st K := by
  have h1 : closedL 0 (⟨35, cs, e, v, true⟩ : Box).cells = true := hcl
  have h2 : closedL 0 (⟨35, cs, true, 1, true⟩ : Box).cells = true := hcl
  have h := (w_copiedV w fd vl vr cs v n e hn hc hcl).mono (R' := fun r st' => r = .agg [.d (.sc (.int .i64 w)), .d (.sc (.bool fd)), .d (.sc (.string vl)), .d (.sc (.int .i64 vr)), .view 3 1 1 0 n] ∧ st' = [⟨35, cs, e, v, true⟩, ⟨35, cs, true, 1, true⟩]) (fun r st ⟨ds, q1, q2, q3⟩ => ⟨q2, by rw [q3, q1]⟩)
  obtain ⟨bx, hbx⟩ : ∃ bx : Box, bx = ⟨35, cs, e, v, true⟩ := ⟨_, rfl⟩
  obtain ⟨bx2, hbx2⟩ : ∃ bx : Box, bx = ⟨35, cs, true, 1, true⟩ := ⟨_, rfl⟩
  rw [← hbx] at h1 hb h
  rw [← hbx2] at h2 hk h
  have hlt : b < st.length := (List.getElem?_eq_some_iff.1 hb).1
  refine FnD.at (args' := [.agg [.d (.sc (.int .i64 w)), .d (.sc (.bool fd)), .d (.sc (.string vl)), .d (.sc (.int .i64 vr)), .view 3 0 v 0 n]]) h [b] (by simp [hlt, closedL, closedD]) ?_ (by simp [renL, renD, place]) ?_
  · intro k r bx0 hk hs
    cases k with
    | zero =>
      simp at hk hs
      subst hk; subst hs
      exact ⟨by rw [ren_box h1]; exact hb, closedL_mono (Nat.zero_le _) _ h1⟩
    | succ k => simp at hk
  · rintro r0 stc ⟨rfl, rfl⟩ _
    have e2 : mergeL st [b] ([bx, bx2].map (Box.ren (place [b] st.length))) = st.set b bx ++ [bx2] := by
      apply List.ext_getElem?
      intro i
      simp only [mergeL, List.map_cons, List.map_nil, ren_box h1, ren_box h2, List.length_singleton, List.drop_one, List.tail_cons]
      by_cases hl : i < st.length
      · rw [List.getElem?_append_left (by simpa using hl), List.getElem?_append_left (by simpa using hl), List.getElem?_mapIdx, List.getElem?_set]
        by_cases hi : b = i
        · subst hi
          simp [hlt, List.idxOf?, List.findIdx?_cons]
        · have : ([b] : List Nat).idxOf? i = none := by rw [List.idxOf?_eq_none_iff]; simpa using fun h => hi h.symm
          simp [this, hi]
      · rw [List.getElem?_append_right (by simpa using hl), List.getElem?_append_right (by simpa using hl)]
        simp
    rw [e2, set_self hb]
    have e3 : renD (place [b] st.length) (.agg [.d (.sc (.int .i64 w)), .d (.sc (.bool fd)), .d (.sc (.string vl)), .d (.sc (.int .i64 vr)), .view 3 1 1 0 n]) = .agg [.d (.sc (.int .i64 w)), .d (.sc (.bool fd)), .d (.sc (.string vl)), .d (.sc (.int .i64 vr)), .view 3 st.length 1 0 n] := by simp [renD, renL, place]
    rw [e3]
    exact hk

end Go.Proofs.Ytjlbdfehkbcmfaa
namespace Go.Proofs.Ytjlbdfehkbcmfaa
open Go.RowKit
set_option linter.all false
set_option maxHeartbeats 4000000

theorem lookNew (cs : List DV) (client seq : Int) (os : List Owner) (hos : os.length = 8) (hcs : cs = ownsD os) (hop : ∀ o ∈ os, isP o.reply.pairs) (hk : knownX client = true) (o : Owner) (hat : ownOf cs (client - 1).toNat = o) (hseq : o.seq = seq) (L : List (List PD)) (hL : L ≠ []) (hpr : o.reply.pairs = L) {st : Store} {K : DV → Store → Prop}
    (hk2 : ∀ v ds m, ds = rowsD L → m = L.length → K (.tup [.d (.sc (.int .i64 2)), .agg [.d (.sc (.int .i64 o.reply.why)), .d (.sc (.bool o.reply.found)), .d (.sc (.string o.reply.value)), .d (.sc (.int .i64 o.reply.version)), .view 3 st.length v 0 m]]) (st ++ [⟨35, ds, true, v, true⟩])) : FnD Try.prog 13 [.agg cs, .d (.sc (.int .i64 client)), .d (.sc (.int .i64 seq))] st K := by
  have hcl : closedL 0 [.agg cs, .d (.sc (.int .i64 client)), .d (.sc (.int .i64 seq))] = true := by
    have : closedL 0 cs = true := by rw [hcs]; exact own_closed os
    simp [closedL, closedD, this]
  refine FnD.at (args' := [.agg cs, .d (.sc (.int .i64 client)), .d (.sc (.int .i64 seq))]) (w_lookN cs client seq os hos hcs hop hk o hat hseq L hL hpr) [] (by simpa using hcl) (by simp) (by rw [renL_pure _ _ hcl]) ?_
  rintro r0 stc ⟨v, ds, m, rfl, rfl, rfl, rfl⟩ _
  have e2 : mergeL st [] ([(⟨35, rowsD L, true, v, true⟩ : Box)].map (Box.ren (place [] st.length))) = st ++ [⟨35, rowsD L, true, v, true⟩] := by
    have e3 : (rowsD L).map (renD (place [] st.length)) = rowsD L := by rw [← renL_eq]; exact renL_pure _ _ (rows_closed _)
    simp only [List.map_cons, List.map_nil, Box.ren, e3]
    apply List.ext_getElem?
    intro i
    rw [mergeL]
    simp only [List.idxOf?_nil, List.length_nil, List.drop_zero]
    congr 2
    apply List.ext_getElem?
    intro j
    simp
  rw [e2]
  have e4 : renD (place [] st.length) (.tup [.d (.sc (.int .i64 2)), .agg [.d (.sc (.int .i64 o.reply.why)), .d (.sc (.bool o.reply.found)), .d (.sc (.string o.reply.value)), .d (.sc (.int .i64 o.reply.version)), .view 3 0 v 0 L.length]]) = .tup [.d (.sc (.int .i64 2)), .agg [.d (.sc (.int .i64 o.reply.why)), .d (.sc (.bool o.reply.found)), .d (.sc (.string o.reply.value)), .d (.sc (.int .i64 o.reply.version)), .view 3 st.length v 0 L.length]] := by simp [renD, renL, place]
  rw [e4]
  exact hk2 v _ _ rfl rfl
theorem turnAt (cs : List DV) (v n : Nat) (hn : n ≤ 4194304) (hc : ∃ ps : List PD, cs = ps.map .d ∧ ps.length = n * 3) {st : Store} {K : DV → Store → Prop} (b : Nat) (hb : st[b]? = some ⟨35, cs, true, v, true⟩) (hk : ∀ ds, (∃ ps : List PD, ds = ps.map .d ∧ ps.length = n * 3) → K (.tup []) (st.set b ⟨35, ds, true, v, true⟩)) : FnD Try.prog 12 [.view 3 b v 0 n] st K := by
  have hlt : b < st.length := (List.getElem?_eq_some_iff.1 hb).1
  have hcl : ∀ ps : List PD, closedL 0 (ps.map DV.d) = true := fun ps => by induction ps with
    | nil => rfl
    | cons p ps ih => simp only [List.map_cons, closedL, closedD, ih, Bool.true_and]
  have h1 : closedL 0 (⟨35, cs, true, v, true⟩ : Box).cells = true := by obtain ⟨ps, rfl, _⟩ := hc; exact hcl ps
  refine FnD.at (args' := [.view 3 0 v 0 n]) (w_turn cs v n hn hc) [b] (by simp [hlt, closedL, closedD]) ?_ (by simp [renL, renD, place]) ?_
  · intro k r bx0 hk hs
    cases k with
    | zero =>
      simp at hk hs
      subst hk; subst hs
      exact ⟨by rw [ren_box h1]; exact hb, closedL_mono (Nat.zero_le _) _ h1⟩
    | succ k => simp at hk
  · rintro r0 stc ⟨ds, hds, rfl, rfl⟩ _
    have h2 : closedL 0 (⟨35, ds, true, v, true⟩ : Box).cells = true := by obtain ⟨ps, rfl, _⟩ := hds; exact hcl ps
    have e2 : mergeL st [b] ([(⟨35, ds, true, v, true⟩ : Box)].map (Box.ren (place [b] st.length))) = st.set b ⟨35, ds, true, v, true⟩ := by
      apply List.ext_getElem?
      intro i
      simp only [mergeL, List.map_cons, List.map_nil, ren_box h2, List.length_singleton, List.drop_one, List.tail_cons, List.append_nil]
      rw [List.getElem?_mapIdx, List.getElem?_set]
      by_cases hi : b = i
      · subst hi
        simp [hlt, List.idxOf?, List.findIdx?_cons]
      · have : ([b] : List Nat).idxOf? i = none := by rw [List.idxOf?_eq_none_iff]; simpa using fun h => hi h.symm
        simp [this, hi]
    rw [e2]
    exact hk ds hds
set_option maxRecDepth 100000 in
theorem v_turn0 : FnV Try.prog 12 [.d (.slc 3 [])] (.tup []) := by
  refine FnD_cbv (T := fun _ => tabY [12] []) (H := fun _ => []) (tabY_ok _ _) noK_ok follows_mixed Try.func12 rfl Try.ntmps12 (by simp) fun A X W hA hX hW => ?_
  cbv
  refine unrollL (T := fun _ => tabY [5003] []) (H := fun _ => []) (tabY_ok _ _) noK_ok follows_mixed hA hX 1 fun R hR => ?_
  have l0 : A.cmp .lss 0 (A.int 0) = false := by subst hA; rfl
  have l1 : A.cmp .lss 0 0 = false := by subst hA; rfl
  cbv at l0
  cbv at l1
  refine hR _ _ _ ?_
  cbv
  try simp only [l0, l1]
  try cbv
  subst hA hX hW
  first
    | exact ret_v rfl rfl
    | (refine ⟨rfl, ?_⟩; exact ret_v rfl rfl)
    | fail

end Go.Proofs.Ytjlbdfehkbcmfaa
namespace Go.Proofs.Ytjlbdfehkbcmfaa
open Go.RowKit
set_option linter.all false
set_option maxHeartbeats 4000000

theorem fz_rows (b ver sz : Nat) (xs L : List (List PD)) : fzL b ver sz xs (rowsD L) = rowsD L := by
  rw [fzL_eq, rowsD, List.map_map]
  rfl
theorem isP.sz3 {L : List (List PD)} (h : isP L) : ∀ x ∈ L, x.length = 3 := by
  obtain ⟨ps, rfl, _⟩ := h
  intro x hx
  simp only [pairsX, List.mem_map] at hx
  obtain ⟨p, _, rfl⟩ := hx
  rfl
theorem rows3_len : ∀ {L : List (List PD)}, (∀ x ∈ L, x.length = 3) → (rowsD L).length = L.length * 3
  | [], _ => rfl
  | x :: L, h => by
      have ih := rows3_len (L := L) (fun y hy => h y (by simp [hy]))
      have h0 := h x (by simp)
      simp only [rowsD, List.flatten_cons, List.map_append, List.length_append, List.length_map, List.length_cons] at ih ⊢
      omega

set_option maxRecDepth 100000 in
theorem w_noteV1 (w : Int) (fd : Bool) (vl : ByteArray) (vr : Int) (cs : List DV) (v n : Nat) (L : List (List PD)) (hp : isP L) (hcs : cs = rowsD L) (hnl : n = L.length) (hn : 0 < n ∧ n ≤ 4194304) : FnD Try.prog 8 [.agg [.d (.sc (.int .i64 0)), .d (.sc (.int .i64 0)), .d (.sc (.bool false)), .d (.sc (.string none8)), .d (.sc (.int .i64 0)), .d (.sc (.slice none 0 0)), .d (.sc (.int .i64 0)), .d (.sc (.int .i64 0)), .d (.sc (.bool false)), .d (.sc (.string none8)), .d (.sc (.int .i64 0)), .d (.sc (.slice none 0 0)), .d (.sc (.int .i64 0)), .d (.sc (.int .i64 0)), .d (.sc (.bool false)), .d (.sc (.string none8)), .d (.sc (.int .i64 0)), .d (.sc (.slice none 0 0)), .d (.sc (.int .i64 0)), .d (.sc (.int .i64 0)), .d (.sc (.bool false)), .d (.sc (.string none8)), .d (.sc (.int .i64 0)), .d (.sc (.slice none 0 0)), .d (.sc (.int .i64 0)), .d (.sc (.int .i64 0)), .d (.sc (.bool false)), .d (.sc (.string none8)), .d (.sc (.int .i64 0)), .d (.sc (.slice none 0 0)), .d (.sc (.int .i64 0)), .d (.sc (.int .i64 0)), .d (.sc (.bool false)), .d (.sc (.string none8)), .d (.sc (.int .i64 0)), .d (.sc (.slice none 0 0)), .d (.sc (.int .i64 0)), .d (.sc (.int .i64 0)), .d (.sc (.bool false)), .d (.sc (.string none8)), .d (.sc (.int .i64 0)), .d (.sc (.slice none 0 0)), .d (.sc (.int .i64 0)), .d (.sc (.int .i64 0)), .d (.sc (.bool false)), .d (.sc (.string none8)), .d (.sc (.int .i64 0)), .d (.sc (.slice none 0 0))], .d (.sc (.int .i64 1)), .d (.sc (.int .i64 1)), .agg [.d (.sc (.int .i64 w)), .d (.sc (.bool fd)), .d (.sc (.string vl)), .d (.sc (.int .i64 vr)), .view 3 0 v 0 n]] [⟨35, cs, true, v, true⟩] (fun r st => r = .agg (noteU Z48 1 1 ⟨w, fd, vl, vr, L⟩) ∧ st = [⟨35, cs, true, v, true⟩]) := by
  have hcl : closedL 0 cs = true := by rw [hcs]; exact rows_closed L
  have hcl1 : cs.length = n * 3 := by
    rw [hcs, hnl]
    exact rows3_len hp.sz3
  have hfz : fzL 4 1 3 L cs = cs := by rw [hcs]; exact fz_rows 4 1 3 L L
  obtain ⟨GFsR, hGFsR⟩ : ∃ F, F = FsR0 := ⟨_, rfl⟩
  have hH : SoundK Try.prog [kn_known GFsR, kn_copied GFsR] := by subst hGFsR; exact orK_ok ok_known (orK_ok ok_copied noK_ok)
  refine FnD_cbv (T := fun _ => tabY [5003] []) (H := fun _ => [kn_known GFsR, kn_copied GFsR]) (tabY_ok _ _) hH follows_mixed Try.func8 rfl Try.ntmps8 (by simp) fun A X W hA hX hW => ?_
  cbv
  have l0 : A.cmp .lss 0 8 = true := by subst hA; rfl
  cbv at l0
  have l1 : A.cmp .lss 1 8 = true := by subst hA; rfl
  cbv at l1
  have l2 : A.cmp .lss 2 8 = true := by subst hA; rfl
  cbv at l2
  have l3 : A.cmp .lss 3 8 = true := by subst hA; rfl
  cbv at l3
  have l4 : A.cmp .lss 4 8 = true := by subst hA; rfl
  cbv at l4
  have l5 : A.cmp .lss 5 8 = true := by subst hA; rfl
  cbv at l5
  have l6 : A.cmp .lss 6 8 = true := by subst hA; rfl
  cbv at l6
  have l7 : A.cmp .lss 7 8 = true := by subst hA; rfl
  cbv at l7
  have l8 : A.cmp .lss 8 8 = false := by subst hA; rfl
  cbv at l8
  have b0 : A.bin .add .i64 0 1 = 1 := by subst hA; rfl
  cbv at b0
  have b1 : A.bin .add .i64 1 1 = 2 := by subst hA; rfl
  cbv at b1
  have b2 : A.bin .add .i64 2 1 = 3 := by subst hA; rfl
  cbv at b2
  have b3 : A.bin .add .i64 3 1 = 4 := by subst hA; rfl
  cbv at b3
  have b4 : A.bin .add .i64 4 1 = 5 := by subst hA; rfl
  cbv at b4
  have b5 : A.bin .add .i64 5 1 = 6 := by subst hA; rfl
  cbv at b5
  have b6 : A.bin .add .i64 6 1 = 7 := by subst hA; rfl
  cbv at b6
  have b7 : A.bin .add .i64 7 1 = 8 := by subst hA; rfl
  cbv at b7
  have o0_0 : A.off 0 0 1 = 0 := by subst hA; rfl
  cbv at o0_0
  have o0_1 : A.off 0 1 1 = 1 := by subst hA; rfl
  cbv at o0_1
  have o0_2 : A.off 0 2 1 = 2 := by subst hA; rfl
  cbv at o0_2
  have o0_3 : A.off 0 3 1 = 3 := by subst hA; rfl
  cbv at o0_3
  have o0_4 : A.off 0 4 1 = 4 := by subst hA; rfl
  cbv at o0_4
  have o0_5 : A.off 0 5 1 = 5 := by subst hA; rfl
  cbv at o0_5
  have o0_6 : A.off 0 6 1 = 6 := by subst hA; rfl
  cbv at o0_6
  have o0_7 : A.off 0 7 1 = 7 := by subst hA; rfl
  cbv at o0_7
  obtain ⟨rk, hrk⟩ : ∃ b, b = GFsR.known 1 := ⟨_, rfl⟩
  have kk : GFsR.known 1 = true := by subst hGFsR; rfl
  have sk : A.bin .sub .i64 1 1 = 0 := by subst hA; rfl
  cbv at kk
  cbv at sk
  simp only [kk]
  cbv
  try simp only [sk]
  try cbv

  refine unrollL (T := fun _ => tabY [5003] []) (H := fun _ => [kn_known GFsR, kn_copied GFsR]) (tabY_ok _ _) hH follows_mixed hA hX 9 fun R hR => ?_
  refine hR _ _ _ ?_
  cbv
  repeat' first
    | (simp only [l0, l1, l2, l3, l4, l5, l6, l7, l8, b0, b1, b2, b3, b4, b5, b6, b7, o0_0, o0_1, o0_2, o0_3, o0_4, o0_5, o0_6, o0_7]; cbv)
    | (refine And.intro ?_ ?_)
    | (refine hR _ _ _ ?_; cbv)
    | (refine callL hX (copiedKeep w fd vl vr cs v n true hn hcl1 hcl 0 rfl ?_); cbv)
  all_goals subst hA hX hW hGFsR
  all_goals first
    | rfl
    | exact isP.nil
    | trivial
    | (refine ret_freeze 4 3 L ⟨35, cs, true, 1, true⟩ rfl rfl (Nat.le_of_ble_eq_true rfl) hcs hp.sz3 ?_
       refine ret_keep [0] rfl ⟨?_, ?_⟩
       · subst hnl
         simp only [fzD, fzL, pullD, pullL]
         rfl
       · show [(⟨_, pullL [0] (fzL _ _ _ _ cs), _, _, _⟩ : Box)] = _
         rw [hfz, pullL_cl _ _ hcl]
         rfl)
set_option maxRecDepth 100000 in
theorem w_noteV2 (w : Int) (fd : Bool) (vl : ByteArray) (vr : Int) (cs : List DV) (v n : Nat) (L : List (List PD)) (hp : isP L) (hcs : cs = rowsD L) (hnl : n = L.length) (hn : 0 < n ∧ n ≤ 4194304) : FnD Try.prog 8 [.agg [.d (.sc (.int .i64 0)), .d (.sc (.int .i64 0)), .d (.sc (.bool false)), .d (.sc (.string none8)), .d (.sc (.int .i64 0)), .d (.sc (.slice none 0 0)), .d (.sc (.int .i64 0)), .d (.sc (.int .i64 0)), .d (.sc (.bool false)), .d (.sc (.string none8)), .d (.sc (.int .i64 0)), .d (.sc (.slice none 0 0)), .d (.sc (.int .i64 0)), .d (.sc (.int .i64 0)), .d (.sc (.bool false)), .d (.sc (.string none8)), .d (.sc (.int .i64 0)), .d (.sc (.slice none 0 0)), .d (.sc (.int .i64 0)), .d (.sc (.int .i64 0)), .d (.sc (.bool false)), .d (.sc (.string none8)), .d (.sc (.int .i64 0)), .d (.sc (.slice none 0 0)), .d (.sc (.int .i64 0)), .d (.sc (.int .i64 0)), .d (.sc (.bool false)), .d (.sc (.string none8)), .d (.sc (.int .i64 0)), .d (.sc (.slice none 0 0)), .d (.sc (.int .i64 0)), .d (.sc (.int .i64 0)), .d (.sc (.bool false)), .d (.sc (.string none8)), .d (.sc (.int .i64 0)), .d (.sc (.slice none 0 0)), .d (.sc (.int .i64 0)), .d (.sc (.int .i64 0)), .d (.sc (.bool false)), .d (.sc (.string none8)), .d (.sc (.int .i64 0)), .d (.sc (.slice none 0 0)), .d (.sc (.int .i64 0)), .d (.sc (.int .i64 0)), .d (.sc (.bool false)), .d (.sc (.string none8)), .d (.sc (.int .i64 0)), .d (.sc (.slice none 0 0))], .d (.sc (.int .i64 2)), .d (.sc (.int .i64 1)), .agg [.d (.sc (.int .i64 w)), .d (.sc (.bool fd)), .d (.sc (.string vl)), .d (.sc (.int .i64 vr)), .view 3 0 v 0 n]] [⟨35, cs, true, v, true⟩] (fun r st => r = .agg (noteU Z48 2 1 ⟨w, fd, vl, vr, L⟩) ∧ st = [⟨35, cs, true, v, true⟩]) := by
  have hcl : closedL 0 cs = true := by rw [hcs]; exact rows_closed L
  have hcl1 : cs.length = n * 3 := by
    rw [hcs, hnl]
    exact rows3_len hp.sz3
  have hfz : fzL 4 1 3 L cs = cs := by rw [hcs]; exact fz_rows 4 1 3 L L
  obtain ⟨GFsR, hGFsR⟩ : ∃ F, F = FsR0 := ⟨_, rfl⟩
  have hH : SoundK Try.prog [kn_known GFsR, kn_copied GFsR] := by subst hGFsR; exact orK_ok ok_known (orK_ok ok_copied noK_ok)
  refine FnD_cbv (T := fun _ => tabY [5003] []) (H := fun _ => [kn_known GFsR, kn_copied GFsR]) (tabY_ok _ _) hH follows_mixed Try.func8 rfl Try.ntmps8 (by simp) fun A X W hA hX hW => ?_
  cbv
  have l0 : A.cmp .lss 0 8 = true := by subst hA; rfl
  cbv at l0
  have l1 : A.cmp .lss 1 8 = true := by subst hA; rfl
  cbv at l1
  have l2 : A.cmp .lss 2 8 = true := by subst hA; rfl
  cbv at l2
  have l3 : A.cmp .lss 3 8 = true := by subst hA; rfl
  cbv at l3
  have l4 : A.cmp .lss 4 8 = true := by subst hA; rfl
  cbv at l4
  have l5 : A.cmp .lss 5 8 = true := by subst hA; rfl
  cbv at l5
  have l6 : A.cmp .lss 6 8 = true := by subst hA; rfl
  cbv at l6
  have l7 : A.cmp .lss 7 8 = true := by subst hA; rfl
  cbv at l7
  have l8 : A.cmp .lss 8 8 = false := by subst hA; rfl
  cbv at l8
  have b0 : A.bin .add .i64 0 1 = 1 := by subst hA; rfl
  cbv at b0
  have b1 : A.bin .add .i64 1 1 = 2 := by subst hA; rfl
  cbv at b1
  have b2 : A.bin .add .i64 2 1 = 3 := by subst hA; rfl
  cbv at b2
  have b3 : A.bin .add .i64 3 1 = 4 := by subst hA; rfl
  cbv at b3
  have b4 : A.bin .add .i64 4 1 = 5 := by subst hA; rfl
  cbv at b4
  have b5 : A.bin .add .i64 5 1 = 6 := by subst hA; rfl
  cbv at b5
  have b6 : A.bin .add .i64 6 1 = 7 := by subst hA; rfl
  cbv at b6
  have b7 : A.bin .add .i64 7 1 = 8 := by subst hA; rfl
  cbv at b7
  have o0_0 : A.off 0 0 1 = 0 := by subst hA; rfl
  cbv at o0_0
  have o0_1 : A.off 0 1 1 = 1 := by subst hA; rfl
  cbv at o0_1
  have o0_2 : A.off 0 2 1 = 2 := by subst hA; rfl
  cbv at o0_2
  have o0_3 : A.off 0 3 1 = 3 := by subst hA; rfl
  cbv at o0_3
  have o0_4 : A.off 0 4 1 = 4 := by subst hA; rfl
  cbv at o0_4
  have o0_5 : A.off 0 5 1 = 5 := by subst hA; rfl
  cbv at o0_5
  have o0_6 : A.off 0 6 1 = 6 := by subst hA; rfl
  cbv at o0_6
  have o0_7 : A.off 0 7 1 = 7 := by subst hA; rfl
  cbv at o0_7
  obtain ⟨rk, hrk⟩ : ∃ b, b = GFsR.known 2 := ⟨_, rfl⟩
  have kk : GFsR.known 2 = true := by subst hGFsR; rfl
  have sk : A.bin .sub .i64 2 1 = 1 := by subst hA; rfl
  cbv at kk
  cbv at sk
  simp only [kk]
  cbv
  try simp only [sk]
  try cbv

  refine unrollL (T := fun _ => tabY [5003] []) (H := fun _ => [kn_known GFsR, kn_copied GFsR]) (tabY_ok _ _) hH follows_mixed hA hX 9 fun R hR => ?_
  refine hR _ _ _ ?_
  cbv
  repeat' first
    | (simp only [l0, l1, l2, l3, l4, l5, l6, l7, l8, b0, b1, b2, b3, b4, b5, b6, b7, o0_0, o0_1, o0_2, o0_3, o0_4, o0_5, o0_6, o0_7]; cbv)
    | (refine And.intro ?_ ?_)
    | (refine hR _ _ _ ?_; cbv)
    | (refine callL hX (copiedKeep w fd vl vr cs v n true hn hcl1 hcl 0 rfl ?_); cbv)
  all_goals subst hA hX hW hGFsR
  all_goals first
    | rfl
    | exact isP.nil
    | trivial
    | (refine ret_freeze 4 3 L ⟨35, cs, true, 1, true⟩ rfl rfl (Nat.le_of_ble_eq_true rfl) hcs hp.sz3 ?_
       refine ret_keep [0] rfl ⟨?_, ?_⟩
       · subst hnl
         simp only [fzD, fzL, pullD, pullL]
         rfl
       · show [(⟨_, pullL [0] (fzL _ _ _ _ cs), _, _, _⟩ : Box)] = _
         rw [hfz, pullL_cl _ _ hcl]
         rfl)
set_option maxRecDepth 100000 in
theorem w_noteV3 (w : Int) (fd : Bool) (vl : ByteArray) (vr : Int) (cs : List DV) (v n : Nat) (L : List (List PD)) (hp : isP L) (hcs : cs = rowsD L) (hnl : n = L.length) (hn : 0 < n ∧ n ≤ 4194304) : FnD Try.prog 8 [.agg [.d (.sc (.int .i64 0)), .d (.sc (.int .i64 0)), .d (.sc (.bool false)), .d (.sc (.string none8)), .d (.sc (.int .i64 0)), .d (.sc (.slice none 0 0)), .d (.sc (.int .i64 0)), .d (.sc (.int .i64 0)), .d (.sc (.bool false)), .d (.sc (.string none8)), .d (.sc (.int .i64 0)), .d (.sc (.slice none 0 0)), .d (.sc (.int .i64 0)), .d (.sc (.int .i64 0)), .d (.sc (.bool false)), .d (.sc (.string none8)), .d (.sc (.int .i64 0)), .d (.sc (.slice none 0 0)), .d (.sc (.int .i64 0)), .d (.sc (.int .i64 0)), .d (.sc (.bool false)), .d (.sc (.string none8)), .d (.sc (.int .i64 0)), .d (.sc (.slice none 0 0)), .d (.sc (.int .i64 0)), .d (.sc (.int .i64 0)), .d (.sc (.bool false)), .d (.sc (.string none8)), .d (.sc (.int .i64 0)), .d (.sc (.slice none 0 0)), .d (.sc (.int .i64 0)), .d (.sc (.int .i64 0)), .d (.sc (.bool false)), .d (.sc (.string none8)), .d (.sc (.int .i64 0)), .d (.sc (.slice none 0 0)), .d (.sc (.int .i64 0)), .d (.sc (.int .i64 0)), .d (.sc (.bool false)), .d (.sc (.string none8)), .d (.sc (.int .i64 0)), .d (.sc (.slice none 0 0)), .d (.sc (.int .i64 0)), .d (.sc (.int .i64 0)), .d (.sc (.bool false)), .d (.sc (.string none8)), .d (.sc (.int .i64 0)), .d (.sc (.slice none 0 0))], .d (.sc (.int .i64 3)), .d (.sc (.int .i64 1)), .agg [.d (.sc (.int .i64 w)), .d (.sc (.bool fd)), .d (.sc (.string vl)), .d (.sc (.int .i64 vr)), .view 3 0 v 0 n]] [⟨35, cs, true, v, true⟩] (fun r st => r = .agg (noteU Z48 3 1 ⟨w, fd, vl, vr, L⟩) ∧ st = [⟨35, cs, true, v, true⟩]) := by
  have hcl : closedL 0 cs = true := by rw [hcs]; exact rows_closed L
  have hcl1 : cs.length = n * 3 := by
    rw [hcs, hnl]
    exact rows3_len hp.sz3
  have hfz : fzL 4 1 3 L cs = cs := by rw [hcs]; exact fz_rows 4 1 3 L L
  obtain ⟨GFsR, hGFsR⟩ : ∃ F, F = FsR0 := ⟨_, rfl⟩
  have hH : SoundK Try.prog [kn_known GFsR, kn_copied GFsR] := by subst hGFsR; exact orK_ok ok_known (orK_ok ok_copied noK_ok)
  refine FnD_cbv (T := fun _ => tabY [5003] []) (H := fun _ => [kn_known GFsR, kn_copied GFsR]) (tabY_ok _ _) hH follows_mixed Try.func8 rfl Try.ntmps8 (by simp) fun A X W hA hX hW => ?_
  cbv
  have l0 : A.cmp .lss 0 8 = true := by subst hA; rfl
  cbv at l0
  have l1 : A.cmp .lss 1 8 = true := by subst hA; rfl
  cbv at l1
  have l2 : A.cmp .lss 2 8 = true := by subst hA; rfl
  cbv at l2
  have l3 : A.cmp .lss 3 8 = true := by subst hA; rfl
  cbv at l3
  have l4 : A.cmp .lss 4 8 = true := by subst hA; rfl
  cbv at l4
  have l5 : A.cmp .lss 5 8 = true := by subst hA; rfl
  cbv at l5
  have l6 : A.cmp .lss 6 8 = true := by subst hA; rfl
  cbv at l6
  have l7 : A.cmp .lss 7 8 = true := by subst hA; rfl
  cbv at l7
  have l8 : A.cmp .lss 8 8 = false := by subst hA; rfl
  cbv at l8
  have b0 : A.bin .add .i64 0 1 = 1 := by subst hA; rfl
  cbv at b0
  have b1 : A.bin .add .i64 1 1 = 2 := by subst hA; rfl
  cbv at b1
  have b2 : A.bin .add .i64 2 1 = 3 := by subst hA; rfl
  cbv at b2
  have b3 : A.bin .add .i64 3 1 = 4 := by subst hA; rfl
  cbv at b3
  have b4 : A.bin .add .i64 4 1 = 5 := by subst hA; rfl
  cbv at b4
  have b5 : A.bin .add .i64 5 1 = 6 := by subst hA; rfl
  cbv at b5
  have b6 : A.bin .add .i64 6 1 = 7 := by subst hA; rfl
  cbv at b6
  have b7 : A.bin .add .i64 7 1 = 8 := by subst hA; rfl
  cbv at b7
  have o0_0 : A.off 0 0 1 = 0 := by subst hA; rfl
  cbv at o0_0
  have o0_1 : A.off 0 1 1 = 1 := by subst hA; rfl
  cbv at o0_1
  have o0_2 : A.off 0 2 1 = 2 := by subst hA; rfl
  cbv at o0_2
  have o0_3 : A.off 0 3 1 = 3 := by subst hA; rfl
  cbv at o0_3
  have o0_4 : A.off 0 4 1 = 4 := by subst hA; rfl
  cbv at o0_4
  have o0_5 : A.off 0 5 1 = 5 := by subst hA; rfl
  cbv at o0_5
  have o0_6 : A.off 0 6 1 = 6 := by subst hA; rfl
  cbv at o0_6
  have o0_7 : A.off 0 7 1 = 7 := by subst hA; rfl
  cbv at o0_7
  obtain ⟨rk, hrk⟩ : ∃ b, b = GFsR.known 3 := ⟨_, rfl⟩
  have kk : GFsR.known 3 = true := by subst hGFsR; rfl
  have sk : A.bin .sub .i64 3 1 = 2 := by subst hA; rfl
  cbv at kk
  cbv at sk
  simp only [kk]
  cbv
  try simp only [sk]
  try cbv

  refine unrollL (T := fun _ => tabY [5003] []) (H := fun _ => [kn_known GFsR, kn_copied GFsR]) (tabY_ok _ _) hH follows_mixed hA hX 9 fun R hR => ?_
  refine hR _ _ _ ?_
  cbv
  repeat' first
    | (simp only [l0, l1, l2, l3, l4, l5, l6, l7, l8, b0, b1, b2, b3, b4, b5, b6, b7, o0_0, o0_1, o0_2, o0_3, o0_4, o0_5, o0_6, o0_7]; cbv)
    | (refine And.intro ?_ ?_)
    | (refine hR _ _ _ ?_; cbv)
    | (refine callL hX (copiedKeep w fd vl vr cs v n true hn hcl1 hcl 0 rfl ?_); cbv)
  all_goals subst hA hX hW hGFsR
  all_goals first
    | rfl
    | exact isP.nil
    | trivial
    | (refine ret_freeze 4 3 L ⟨35, cs, true, 1, true⟩ rfl rfl (Nat.le_of_ble_eq_true rfl) hcs hp.sz3 ?_
       refine ret_keep [0] rfl ⟨?_, ?_⟩
       · subst hnl
         simp only [fzD, fzL, pullD, pullL]
         rfl
       · show [(⟨_, pullL [0] (fzL _ _ _ _ cs), _, _, _⟩ : Box)] = _
         rw [hfz, pullL_cl _ _ hcl]
         rfl)
set_option maxRecDepth 100000 in
theorem w_noteV4 (w : Int) (fd : Bool) (vl : ByteArray) (vr : Int) (cs : List DV) (v n : Nat) (L : List (List PD)) (hp : isP L) (hcs : cs = rowsD L) (hnl : n = L.length) (hn : 0 < n ∧ n ≤ 4194304) : FnD Try.prog 8 [.agg [.d (.sc (.int .i64 0)), .d (.sc (.int .i64 0)), .d (.sc (.bool false)), .d (.sc (.string none8)), .d (.sc (.int .i64 0)), .d (.sc (.slice none 0 0)), .d (.sc (.int .i64 0)), .d (.sc (.int .i64 0)), .d (.sc (.bool false)), .d (.sc (.string none8)), .d (.sc (.int .i64 0)), .d (.sc (.slice none 0 0)), .d (.sc (.int .i64 0)), .d (.sc (.int .i64 0)), .d (.sc (.bool false)), .d (.sc (.string none8)), .d (.sc (.int .i64 0)), .d (.sc (.slice none 0 0)), .d (.sc (.int .i64 0)), .d (.sc (.int .i64 0)), .d (.sc (.bool false)), .d (.sc (.string none8)), .d (.sc (.int .i64 0)), .d (.sc (.slice none 0 0)), .d (.sc (.int .i64 0)), .d (.sc (.int .i64 0)), .d (.sc (.bool false)), .d (.sc (.string none8)), .d (.sc (.int .i64 0)), .d (.sc (.slice none 0 0)), .d (.sc (.int .i64 0)), .d (.sc (.int .i64 0)), .d (.sc (.bool false)), .d (.sc (.string none8)), .d (.sc (.int .i64 0)), .d (.sc (.slice none 0 0)), .d (.sc (.int .i64 0)), .d (.sc (.int .i64 0)), .d (.sc (.bool false)), .d (.sc (.string none8)), .d (.sc (.int .i64 0)), .d (.sc (.slice none 0 0)), .d (.sc (.int .i64 0)), .d (.sc (.int .i64 0)), .d (.sc (.bool false)), .d (.sc (.string none8)), .d (.sc (.int .i64 0)), .d (.sc (.slice none 0 0))], .d (.sc (.int .i64 4)), .d (.sc (.int .i64 1)), .agg [.d (.sc (.int .i64 w)), .d (.sc (.bool fd)), .d (.sc (.string vl)), .d (.sc (.int .i64 vr)), .view 3 0 v 0 n]] [⟨35, cs, true, v, true⟩] (fun r st => r = .agg (noteU Z48 4 1 ⟨w, fd, vl, vr, L⟩) ∧ st = [⟨35, cs, true, v, true⟩]) := by
  have hcl : closedL 0 cs = true := by rw [hcs]; exact rows_closed L
  have hcl1 : cs.length = n * 3 := by
    rw [hcs, hnl]
    exact rows3_len hp.sz3
  have hfz : fzL 4 1 3 L cs = cs := by rw [hcs]; exact fz_rows 4 1 3 L L
  obtain ⟨GFsR, hGFsR⟩ : ∃ F, F = FsR0 := ⟨_, rfl⟩
  have hH : SoundK Try.prog [kn_known GFsR, kn_copied GFsR] := by subst hGFsR; exact orK_ok ok_known (orK_ok ok_copied noK_ok)
  refine FnD_cbv (T := fun _ => tabY [5003] []) (H := fun _ => [kn_known GFsR, kn_copied GFsR]) (tabY_ok _ _) hH follows_mixed Try.func8 rfl Try.ntmps8 (by simp) fun A X W hA hX hW => ?_
  cbv
  have l0 : A.cmp .lss 0 8 = true := by subst hA; rfl
  cbv at l0
  have l1 : A.cmp .lss 1 8 = true := by subst hA; rfl
  cbv at l1
  have l2 : A.cmp .lss 2 8 = true := by subst hA; rfl
  cbv at l2
  have l3 : A.cmp .lss 3 8 = true := by subst hA; rfl
  cbv at l3
  have l4 : A.cmp .lss 4 8 = true := by subst hA; rfl
  cbv at l4
  have l5 : A.cmp .lss 5 8 = true := by subst hA; rfl
  cbv at l5
  have l6 : A.cmp .lss 6 8 = true := by subst hA; rfl
  cbv at l6
  have l7 : A.cmp .lss 7 8 = true := by subst hA; rfl
  cbv at l7
  have l8 : A.cmp .lss 8 8 = false := by subst hA; rfl
  cbv at l8
  have b0 : A.bin .add .i64 0 1 = 1 := by subst hA; rfl
  cbv at b0
  have b1 : A.bin .add .i64 1 1 = 2 := by subst hA; rfl
  cbv at b1
  have b2 : A.bin .add .i64 2 1 = 3 := by subst hA; rfl
  cbv at b2
  have b3 : A.bin .add .i64 3 1 = 4 := by subst hA; rfl
  cbv at b3
  have b4 : A.bin .add .i64 4 1 = 5 := by subst hA; rfl
  cbv at b4
  have b5 : A.bin .add .i64 5 1 = 6 := by subst hA; rfl
  cbv at b5
  have b6 : A.bin .add .i64 6 1 = 7 := by subst hA; rfl
  cbv at b6
  have b7 : A.bin .add .i64 7 1 = 8 := by subst hA; rfl
  cbv at b7
  have o0_0 : A.off 0 0 1 = 0 := by subst hA; rfl
  cbv at o0_0
  have o0_1 : A.off 0 1 1 = 1 := by subst hA; rfl
  cbv at o0_1
  have o0_2 : A.off 0 2 1 = 2 := by subst hA; rfl
  cbv at o0_2
  have o0_3 : A.off 0 3 1 = 3 := by subst hA; rfl
  cbv at o0_3
  have o0_4 : A.off 0 4 1 = 4 := by subst hA; rfl
  cbv at o0_4
  have o0_5 : A.off 0 5 1 = 5 := by subst hA; rfl
  cbv at o0_5
  have o0_6 : A.off 0 6 1 = 6 := by subst hA; rfl
  cbv at o0_6
  have o0_7 : A.off 0 7 1 = 7 := by subst hA; rfl
  cbv at o0_7
  obtain ⟨rk, hrk⟩ : ∃ b, b = GFsR.known 4 := ⟨_, rfl⟩
  have kk : GFsR.known 4 = true := by subst hGFsR; rfl
  have sk : A.bin .sub .i64 4 1 = 3 := by subst hA; rfl
  cbv at kk
  cbv at sk
  simp only [kk]
  cbv
  try simp only [sk]
  try cbv

  refine unrollL (T := fun _ => tabY [5003] []) (H := fun _ => [kn_known GFsR, kn_copied GFsR]) (tabY_ok _ _) hH follows_mixed hA hX 9 fun R hR => ?_
  refine hR _ _ _ ?_
  cbv
  repeat' first
    | (simp only [l0, l1, l2, l3, l4, l5, l6, l7, l8, b0, b1, b2, b3, b4, b5, b6, b7, o0_0, o0_1, o0_2, o0_3, o0_4, o0_5, o0_6, o0_7]; cbv)
    | (refine And.intro ?_ ?_)
    | (refine hR _ _ _ ?_; cbv)
    | (refine callL hX (copiedKeep w fd vl vr cs v n true hn hcl1 hcl 0 rfl ?_); cbv)
  all_goals subst hA hX hW hGFsR
  all_goals first
    | rfl
    | exact isP.nil
    | trivial
    | (refine ret_freeze 4 3 L ⟨35, cs, true, 1, true⟩ rfl rfl (Nat.le_of_ble_eq_true rfl) hcs hp.sz3 ?_
       refine ret_keep [0] rfl ⟨?_, ?_⟩
       · subst hnl
         simp only [fzD, fzL, pullD, pullL]
         rfl
       · show [(⟨_, pullL [0] (fzL _ _ _ _ cs), _, _, _⟩ : Box)] = _
         rw [hfz, pullL_cl _ _ hcl]
         rfl)
set_option maxRecDepth 100000 in
theorem w_noteV5 (w : Int) (fd : Bool) (vl : ByteArray) (vr : Int) (cs : List DV) (v n : Nat) (L : List (List PD)) (hp : isP L) (hcs : cs = rowsD L) (hnl : n = L.length) (hn : 0 < n ∧ n ≤ 4194304) : FnD Try.prog 8 [.agg [.d (.sc (.int .i64 0)), .d (.sc (.int .i64 0)), .d (.sc (.bool false)), .d (.sc (.string none8)), .d (.sc (.int .i64 0)), .d (.sc (.slice none 0 0)), .d (.sc (.int .i64 0)), .d (.sc (.int .i64 0)), .d (.sc (.bool false)), .d (.sc (.string none8)), .d (.sc (.int .i64 0)), .d (.sc (.slice none 0 0)), .d (.sc (.int .i64 0)), .d (.sc (.int .i64 0)), .d (.sc (.bool false)), .d (.sc (.string none8)), .d (.sc (.int .i64 0)), .d (.sc (.slice none 0 0)), .d (.sc (.int .i64 0)), .d (.sc (.int .i64 0)), .d (.sc (.bool false)), .d (.sc (.string none8)), .d (.sc (.int .i64 0)), .d (.sc (.slice none 0 0)), .d (.sc (.int .i64 0)), .d (.sc (.int .i64 0)), .d (.sc (.bool false)), .d (.sc (.string none8)), .d (.sc (.int .i64 0)), .d (.sc (.slice none 0 0)), .d (.sc (.int .i64 0)), .d (.sc (.int .i64 0)), .d (.sc (.bool false)), .d (.sc (.string none8)), .d (.sc (.int .i64 0)), .d (.sc (.slice none 0 0)), .d (.sc (.int .i64 0)), .d (.sc (.int .i64 0)), .d (.sc (.bool false)), .d (.sc (.string none8)), .d (.sc (.int .i64 0)), .d (.sc (.slice none 0 0)), .d (.sc (.int .i64 0)), .d (.sc (.int .i64 0)), .d (.sc (.bool false)), .d (.sc (.string none8)), .d (.sc (.int .i64 0)), .d (.sc (.slice none 0 0))], .d (.sc (.int .i64 5)), .d (.sc (.int .i64 1)), .agg [.d (.sc (.int .i64 w)), .d (.sc (.bool fd)), .d (.sc (.string vl)), .d (.sc (.int .i64 vr)), .view 3 0 v 0 n]] [⟨35, cs, true, v, true⟩] (fun r st => r = .agg (noteU Z48 5 1 ⟨w, fd, vl, vr, L⟩) ∧ st = [⟨35, cs, true, v, true⟩]) := by
  have hcl : closedL 0 cs = true := by rw [hcs]; exact rows_closed L
  have hcl1 : cs.length = n * 3 := by
    rw [hcs, hnl]
    exact rows3_len hp.sz3
  have hfz : fzL 4 1 3 L cs = cs := by rw [hcs]; exact fz_rows 4 1 3 L L
  obtain ⟨GFsR, hGFsR⟩ : ∃ F, F = FsR0 := ⟨_, rfl⟩
  have hH : SoundK Try.prog [kn_known GFsR, kn_copied GFsR] := by subst hGFsR; exact orK_ok ok_known (orK_ok ok_copied noK_ok)
  refine FnD_cbv (T := fun _ => tabY [5003] []) (H := fun _ => [kn_known GFsR, kn_copied GFsR]) (tabY_ok _ _) hH follows_mixed Try.func8 rfl Try.ntmps8 (by simp) fun A X W hA hX hW => ?_
  cbv
  have l0 : A.cmp .lss 0 8 = true := by subst hA; rfl
  cbv at l0
  have l1 : A.cmp .lss 1 8 = true := by subst hA; rfl
  cbv at l1
  have l2 : A.cmp .lss 2 8 = true := by subst hA; rfl
  cbv at l2
  have l3 : A.cmp .lss 3 8 = true := by subst hA; rfl
  cbv at l3
  have l4 : A.cmp .lss 4 8 = true := by subst hA; rfl
  cbv at l4
  have l5 : A.cmp .lss 5 8 = true := by subst hA; rfl
  cbv at l5
  have l6 : A.cmp .lss 6 8 = true := by subst hA; rfl
  cbv at l6
  have l7 : A.cmp .lss 7 8 = true := by subst hA; rfl
  cbv at l7
  have l8 : A.cmp .lss 8 8 = false := by subst hA; rfl
  cbv at l8
  have b0 : A.bin .add .i64 0 1 = 1 := by subst hA; rfl
  cbv at b0
  have b1 : A.bin .add .i64 1 1 = 2 := by subst hA; rfl
  cbv at b1
  have b2 : A.bin .add .i64 2 1 = 3 := by subst hA; rfl
  cbv at b2
  have b3 : A.bin .add .i64 3 1 = 4 := by subst hA; rfl
  cbv at b3
  have b4 : A.bin .add .i64 4 1 = 5 := by subst hA; rfl
  cbv at b4
  have b5 : A.bin .add .i64 5 1 = 6 := by subst hA; rfl
  cbv at b5
  have b6 : A.bin .add .i64 6 1 = 7 := by subst hA; rfl
  cbv at b6
  have b7 : A.bin .add .i64 7 1 = 8 := by subst hA; rfl
  cbv at b7
  have o0_0 : A.off 0 0 1 = 0 := by subst hA; rfl
  cbv at o0_0
  have o0_1 : A.off 0 1 1 = 1 := by subst hA; rfl
  cbv at o0_1
  have o0_2 : A.off 0 2 1 = 2 := by subst hA; rfl
  cbv at o0_2
  have o0_3 : A.off 0 3 1 = 3 := by subst hA; rfl
  cbv at o0_3
  have o0_4 : A.off 0 4 1 = 4 := by subst hA; rfl
  cbv at o0_4
  have o0_5 : A.off 0 5 1 = 5 := by subst hA; rfl
  cbv at o0_5
  have o0_6 : A.off 0 6 1 = 6 := by subst hA; rfl
  cbv at o0_6
  have o0_7 : A.off 0 7 1 = 7 := by subst hA; rfl
  cbv at o0_7
  obtain ⟨rk, hrk⟩ : ∃ b, b = GFsR.known 5 := ⟨_, rfl⟩
  have kk : GFsR.known 5 = true := by subst hGFsR; rfl
  have sk : A.bin .sub .i64 5 1 = 4 := by subst hA; rfl
  cbv at kk
  cbv at sk
  simp only [kk]
  cbv
  try simp only [sk]
  try cbv

  refine unrollL (T := fun _ => tabY [5003] []) (H := fun _ => [kn_known GFsR, kn_copied GFsR]) (tabY_ok _ _) hH follows_mixed hA hX 9 fun R hR => ?_
  refine hR _ _ _ ?_
  cbv
  repeat' first
    | (simp only [l0, l1, l2, l3, l4, l5, l6, l7, l8, b0, b1, b2, b3, b4, b5, b6, b7, o0_0, o0_1, o0_2, o0_3, o0_4, o0_5, o0_6, o0_7]; cbv)
    | (refine And.intro ?_ ?_)
    | (refine hR _ _ _ ?_; cbv)
    | (refine callL hX (copiedKeep w fd vl vr cs v n true hn hcl1 hcl 0 rfl ?_); cbv)
  all_goals subst hA hX hW hGFsR
  all_goals first
    | rfl
    | exact isP.nil
    | trivial
    | (refine ret_freeze 4 3 L ⟨35, cs, true, 1, true⟩ rfl rfl (Nat.le_of_ble_eq_true rfl) hcs hp.sz3 ?_
       refine ret_keep [0] rfl ⟨?_, ?_⟩
       · subst hnl
         simp only [fzD, fzL, pullD, pullL]
         rfl
       · show [(⟨_, pullL [0] (fzL _ _ _ _ cs), _, _, _⟩ : Box)] = _
         rw [hfz, pullL_cl _ _ hcl]
         rfl)
set_option maxRecDepth 100000 in
theorem w_noteV6 (w : Int) (fd : Bool) (vl : ByteArray) (vr : Int) (cs : List DV) (v n : Nat) (L : List (List PD)) (hp : isP L) (hcs : cs = rowsD L) (hnl : n = L.length) (hn : 0 < n ∧ n ≤ 4194304) : FnD Try.prog 8 [.agg [.d (.sc (.int .i64 0)), .d (.sc (.int .i64 0)), .d (.sc (.bool false)), .d (.sc (.string none8)), .d (.sc (.int .i64 0)), .d (.sc (.slice none 0 0)), .d (.sc (.int .i64 0)), .d (.sc (.int .i64 0)), .d (.sc (.bool false)), .d (.sc (.string none8)), .d (.sc (.int .i64 0)), .d (.sc (.slice none 0 0)), .d (.sc (.int .i64 0)), .d (.sc (.int .i64 0)), .d (.sc (.bool false)), .d (.sc (.string none8)), .d (.sc (.int .i64 0)), .d (.sc (.slice none 0 0)), .d (.sc (.int .i64 0)), .d (.sc (.int .i64 0)), .d (.sc (.bool false)), .d (.sc (.string none8)), .d (.sc (.int .i64 0)), .d (.sc (.slice none 0 0)), .d (.sc (.int .i64 0)), .d (.sc (.int .i64 0)), .d (.sc (.bool false)), .d (.sc (.string none8)), .d (.sc (.int .i64 0)), .d (.sc (.slice none 0 0)), .d (.sc (.int .i64 0)), .d (.sc (.int .i64 0)), .d (.sc (.bool false)), .d (.sc (.string none8)), .d (.sc (.int .i64 0)), .d (.sc (.slice none 0 0)), .d (.sc (.int .i64 0)), .d (.sc (.int .i64 0)), .d (.sc (.bool false)), .d (.sc (.string none8)), .d (.sc (.int .i64 0)), .d (.sc (.slice none 0 0)), .d (.sc (.int .i64 0)), .d (.sc (.int .i64 0)), .d (.sc (.bool false)), .d (.sc (.string none8)), .d (.sc (.int .i64 0)), .d (.sc (.slice none 0 0))], .d (.sc (.int .i64 6)), .d (.sc (.int .i64 1)), .agg [.d (.sc (.int .i64 w)), .d (.sc (.bool fd)), .d (.sc (.string vl)), .d (.sc (.int .i64 vr)), .view 3 0 v 0 n]] [⟨35, cs, true, v, true⟩] (fun r st => r = .agg (noteU Z48 6 1 ⟨w, fd, vl, vr, L⟩) ∧ st = [⟨35, cs, true, v, true⟩]) := by
  have hcl : closedL 0 cs = true := by rw [hcs]; exact rows_closed L
  have hcl1 : cs.length = n * 3 := by
    rw [hcs, hnl]
    exact rows3_len hp.sz3
  have hfz : fzL 4 1 3 L cs = cs := by rw [hcs]; exact fz_rows 4 1 3 L L
  obtain ⟨GFsR, hGFsR⟩ : ∃ F, F = FsR0 := ⟨_, rfl⟩
  have hH : SoundK Try.prog [kn_known GFsR, kn_copied GFsR] := by subst hGFsR; exact orK_ok ok_known (orK_ok ok_copied noK_ok)
  refine FnD_cbv (T := fun _ => tabY [5003] []) (H := fun _ => [kn_known GFsR, kn_copied GFsR]) (tabY_ok _ _) hH follows_mixed Try.func8 rfl Try.ntmps8 (by simp) fun A X W hA hX hW => ?_
  cbv
  have l0 : A.cmp .lss 0 8 = true := by subst hA; rfl
  cbv at l0
  have l1 : A.cmp .lss 1 8 = true := by subst hA; rfl
  cbv at l1
  have l2 : A.cmp .lss 2 8 = true := by subst hA; rfl
  cbv at l2
  have l3 : A.cmp .lss 3 8 = true := by subst hA; rfl
  cbv at l3
  have l4 : A.cmp .lss 4 8 = true := by subst hA; rfl
  cbv at l4
  have l5 : A.cmp .lss 5 8 = true := by subst hA; rfl
  cbv at l5
  have l6 : A.cmp .lss 6 8 = true := by subst hA; rfl
  cbv at l6
  have l7 : A.cmp .lss 7 8 = true := by subst hA; rfl
  cbv at l7
  have l8 : A.cmp .lss 8 8 = false := by subst hA; rfl
  cbv at l8
  have b0 : A.bin .add .i64 0 1 = 1 := by subst hA; rfl
  cbv at b0
  have b1 : A.bin .add .i64 1 1 = 2 := by subst hA; rfl
  cbv at b1
  have b2 : A.bin .add .i64 2 1 = 3 := by subst hA; rfl
  cbv at b2
  have b3 : A.bin .add .i64 3 1 = 4 := by subst hA; rfl
  cbv at b3
  have b4 : A.bin .add .i64 4 1 = 5 := by subst hA; rfl
  cbv at b4
  have b5 : A.bin .add .i64 5 1 = 6 := by subst hA; rfl
  cbv at b5
  have b6 : A.bin .add .i64 6 1 = 7 := by subst hA; rfl
  cbv at b6
  have b7 : A.bin .add .i64 7 1 = 8 := by subst hA; rfl
  cbv at b7
  have o0_0 : A.off 0 0 1 = 0 := by subst hA; rfl
  cbv at o0_0
  have o0_1 : A.off 0 1 1 = 1 := by subst hA; rfl
  cbv at o0_1
  have o0_2 : A.off 0 2 1 = 2 := by subst hA; rfl
  cbv at o0_2
  have o0_3 : A.off 0 3 1 = 3 := by subst hA; rfl
  cbv at o0_3
  have o0_4 : A.off 0 4 1 = 4 := by subst hA; rfl
  cbv at o0_4
  have o0_5 : A.off 0 5 1 = 5 := by subst hA; rfl
  cbv at o0_5
  have o0_6 : A.off 0 6 1 = 6 := by subst hA; rfl
  cbv at o0_6
  have o0_7 : A.off 0 7 1 = 7 := by subst hA; rfl
  cbv at o0_7
  obtain ⟨rk, hrk⟩ : ∃ b, b = GFsR.known 6 := ⟨_, rfl⟩
  have kk : GFsR.known 6 = true := by subst hGFsR; rfl
  have sk : A.bin .sub .i64 6 1 = 5 := by subst hA; rfl
  cbv at kk
  cbv at sk
  simp only [kk]
  cbv
  try simp only [sk]
  try cbv

  refine unrollL (T := fun _ => tabY [5003] []) (H := fun _ => [kn_known GFsR, kn_copied GFsR]) (tabY_ok _ _) hH follows_mixed hA hX 9 fun R hR => ?_
  refine hR _ _ _ ?_
  cbv
  repeat' first
    | (simp only [l0, l1, l2, l3, l4, l5, l6, l7, l8, b0, b1, b2, b3, b4, b5, b6, b7, o0_0, o0_1, o0_2, o0_3, o0_4, o0_5, o0_6, o0_7]; cbv)
    | (refine And.intro ?_ ?_)
    | (refine hR _ _ _ ?_; cbv)
    | (refine callL hX (copiedKeep w fd vl vr cs v n true hn hcl1 hcl 0 rfl ?_); cbv)
  all_goals subst hA hX hW hGFsR
  all_goals first
    | rfl
    | exact isP.nil
    | trivial
    | (refine ret_freeze 4 3 L ⟨35, cs, true, 1, true⟩ rfl rfl (Nat.le_of_ble_eq_true rfl) hcs hp.sz3 ?_
       refine ret_keep [0] rfl ⟨?_, ?_⟩
       · subst hnl
         simp only [fzD, fzL, pullD, pullL]
         rfl
       · show [(⟨_, pullL [0] (fzL _ _ _ _ cs), _, _, _⟩ : Box)] = _
         rw [hfz, pullL_cl _ _ hcl]
         rfl)
set_option maxRecDepth 100000 in
theorem w_noteV7 (w : Int) (fd : Bool) (vl : ByteArray) (vr : Int) (cs : List DV) (v n : Nat) (L : List (List PD)) (hp : isP L) (hcs : cs = rowsD L) (hnl : n = L.length) (hn : 0 < n ∧ n ≤ 4194304) : FnD Try.prog 8 [.agg [.d (.sc (.int .i64 0)), .d (.sc (.int .i64 0)), .d (.sc (.bool false)), .d (.sc (.string none8)), .d (.sc (.int .i64 0)), .d (.sc (.slice none 0 0)), .d (.sc (.int .i64 0)), .d (.sc (.int .i64 0)), .d (.sc (.bool false)), .d (.sc (.string none8)), .d (.sc (.int .i64 0)), .d (.sc (.slice none 0 0)), .d (.sc (.int .i64 0)), .d (.sc (.int .i64 0)), .d (.sc (.bool false)), .d (.sc (.string none8)), .d (.sc (.int .i64 0)), .d (.sc (.slice none 0 0)), .d (.sc (.int .i64 0)), .d (.sc (.int .i64 0)), .d (.sc (.bool false)), .d (.sc (.string none8)), .d (.sc (.int .i64 0)), .d (.sc (.slice none 0 0)), .d (.sc (.int .i64 0)), .d (.sc (.int .i64 0)), .d (.sc (.bool false)), .d (.sc (.string none8)), .d (.sc (.int .i64 0)), .d (.sc (.slice none 0 0)), .d (.sc (.int .i64 0)), .d (.sc (.int .i64 0)), .d (.sc (.bool false)), .d (.sc (.string none8)), .d (.sc (.int .i64 0)), .d (.sc (.slice none 0 0)), .d (.sc (.int .i64 0)), .d (.sc (.int .i64 0)), .d (.sc (.bool false)), .d (.sc (.string none8)), .d (.sc (.int .i64 0)), .d (.sc (.slice none 0 0)), .d (.sc (.int .i64 0)), .d (.sc (.int .i64 0)), .d (.sc (.bool false)), .d (.sc (.string none8)), .d (.sc (.int .i64 0)), .d (.sc (.slice none 0 0))], .d (.sc (.int .i64 7)), .d (.sc (.int .i64 1)), .agg [.d (.sc (.int .i64 w)), .d (.sc (.bool fd)), .d (.sc (.string vl)), .d (.sc (.int .i64 vr)), .view 3 0 v 0 n]] [⟨35, cs, true, v, true⟩] (fun r st => r = .agg (noteU Z48 7 1 ⟨w, fd, vl, vr, L⟩) ∧ st = [⟨35, cs, true, v, true⟩]) := by
  have hcl : closedL 0 cs = true := by rw [hcs]; exact rows_closed L
  have hcl1 : cs.length = n * 3 := by
    rw [hcs, hnl]
    exact rows3_len hp.sz3
  have hfz : fzL 4 1 3 L cs = cs := by rw [hcs]; exact fz_rows 4 1 3 L L
  obtain ⟨GFsR, hGFsR⟩ : ∃ F, F = FsR0 := ⟨_, rfl⟩
  have hH : SoundK Try.prog [kn_known GFsR, kn_copied GFsR] := by subst hGFsR; exact orK_ok ok_known (orK_ok ok_copied noK_ok)
  refine FnD_cbv (T := fun _ => tabY [5003] []) (H := fun _ => [kn_known GFsR, kn_copied GFsR]) (tabY_ok _ _) hH follows_mixed Try.func8 rfl Try.ntmps8 (by simp) fun A X W hA hX hW => ?_
  cbv
  have l0 : A.cmp .lss 0 8 = true := by subst hA; rfl
  cbv at l0
  have l1 : A.cmp .lss 1 8 = true := by subst hA; rfl
  cbv at l1
  have l2 : A.cmp .lss 2 8 = true := by subst hA; rfl
  cbv at l2
  have l3 : A.cmp .lss 3 8 = true := by subst hA; rfl
  cbv at l3
  have l4 : A.cmp .lss 4 8 = true := by subst hA; rfl
  cbv at l4
  have l5 : A.cmp .lss 5 8 = true := by subst hA; rfl
  cbv at l5
  have l6 : A.cmp .lss 6 8 = true := by subst hA; rfl
  cbv at l6
  have l7 : A.cmp .lss 7 8 = true := by subst hA; rfl
  cbv at l7
  have l8 : A.cmp .lss 8 8 = false := by subst hA; rfl
  cbv at l8
  have b0 : A.bin .add .i64 0 1 = 1 := by subst hA; rfl
  cbv at b0
  have b1 : A.bin .add .i64 1 1 = 2 := by subst hA; rfl
  cbv at b1
  have b2 : A.bin .add .i64 2 1 = 3 := by subst hA; rfl
  cbv at b2
  have b3 : A.bin .add .i64 3 1 = 4 := by subst hA; rfl
  cbv at b3
  have b4 : A.bin .add .i64 4 1 = 5 := by subst hA; rfl
  cbv at b4
  have b5 : A.bin .add .i64 5 1 = 6 := by subst hA; rfl
  cbv at b5
  have b6 : A.bin .add .i64 6 1 = 7 := by subst hA; rfl
  cbv at b6
  have b7 : A.bin .add .i64 7 1 = 8 := by subst hA; rfl
  cbv at b7
  have o0_0 : A.off 0 0 1 = 0 := by subst hA; rfl
  cbv at o0_0
  have o0_1 : A.off 0 1 1 = 1 := by subst hA; rfl
  cbv at o0_1
  have o0_2 : A.off 0 2 1 = 2 := by subst hA; rfl
  cbv at o0_2
  have o0_3 : A.off 0 3 1 = 3 := by subst hA; rfl
  cbv at o0_3
  have o0_4 : A.off 0 4 1 = 4 := by subst hA; rfl
  cbv at o0_4
  have o0_5 : A.off 0 5 1 = 5 := by subst hA; rfl
  cbv at o0_5
  have o0_6 : A.off 0 6 1 = 6 := by subst hA; rfl
  cbv at o0_6
  have o0_7 : A.off 0 7 1 = 7 := by subst hA; rfl
  cbv at o0_7
  obtain ⟨rk, hrk⟩ : ∃ b, b = GFsR.known 7 := ⟨_, rfl⟩
  have kk : GFsR.known 7 = true := by subst hGFsR; rfl
  have sk : A.bin .sub .i64 7 1 = 6 := by subst hA; rfl
  cbv at kk
  cbv at sk
  simp only [kk]
  cbv
  try simp only [sk]
  try cbv

  refine unrollL (T := fun _ => tabY [5003] []) (H := fun _ => [kn_known GFsR, kn_copied GFsR]) (tabY_ok _ _) hH follows_mixed hA hX 9 fun R hR => ?_
  refine hR _ _ _ ?_
  cbv
  repeat' first
    | (simp only [l0, l1, l2, l3, l4, l5, l6, l7, l8, b0, b1, b2, b3, b4, b5, b6, b7, o0_0, o0_1, o0_2, o0_3, o0_4, o0_5, o0_6, o0_7]; cbv)
    | (refine And.intro ?_ ?_)
    | (refine hR _ _ _ ?_; cbv)
    | (refine callL hX (copiedKeep w fd vl vr cs v n true hn hcl1 hcl 0 rfl ?_); cbv)
  all_goals subst hA hX hW hGFsR
  all_goals first
    | rfl
    | exact isP.nil
    | trivial
    | (refine ret_freeze 4 3 L ⟨35, cs, true, 1, true⟩ rfl rfl (Nat.le_of_ble_eq_true rfl) hcs hp.sz3 ?_
       refine ret_keep [0] rfl ⟨?_, ?_⟩
       · subst hnl
         simp only [fzD, fzL, pullD, pullL]
         rfl
       · show [(⟨_, pullL [0] (fzL _ _ _ _ cs), _, _, _⟩ : Box)] = _
         rw [hfz, pullL_cl _ _ hcl]
         rfl)
set_option maxRecDepth 100000 in
theorem w_noteV8 (w : Int) (fd : Bool) (vl : ByteArray) (vr : Int) (cs : List DV) (v n : Nat) (L : List (List PD)) (hp : isP L) (hcs : cs = rowsD L) (hnl : n = L.length) (hn : 0 < n ∧ n ≤ 4194304) : FnD Try.prog 8 [.agg [.d (.sc (.int .i64 0)), .d (.sc (.int .i64 0)), .d (.sc (.bool false)), .d (.sc (.string none8)), .d (.sc (.int .i64 0)), .d (.sc (.slice none 0 0)), .d (.sc (.int .i64 0)), .d (.sc (.int .i64 0)), .d (.sc (.bool false)), .d (.sc (.string none8)), .d (.sc (.int .i64 0)), .d (.sc (.slice none 0 0)), .d (.sc (.int .i64 0)), .d (.sc (.int .i64 0)), .d (.sc (.bool false)), .d (.sc (.string none8)), .d (.sc (.int .i64 0)), .d (.sc (.slice none 0 0)), .d (.sc (.int .i64 0)), .d (.sc (.int .i64 0)), .d (.sc (.bool false)), .d (.sc (.string none8)), .d (.sc (.int .i64 0)), .d (.sc (.slice none 0 0)), .d (.sc (.int .i64 0)), .d (.sc (.int .i64 0)), .d (.sc (.bool false)), .d (.sc (.string none8)), .d (.sc (.int .i64 0)), .d (.sc (.slice none 0 0)), .d (.sc (.int .i64 0)), .d (.sc (.int .i64 0)), .d (.sc (.bool false)), .d (.sc (.string none8)), .d (.sc (.int .i64 0)), .d (.sc (.slice none 0 0)), .d (.sc (.int .i64 0)), .d (.sc (.int .i64 0)), .d (.sc (.bool false)), .d (.sc (.string none8)), .d (.sc (.int .i64 0)), .d (.sc (.slice none 0 0)), .d (.sc (.int .i64 0)), .d (.sc (.int .i64 0)), .d (.sc (.bool false)), .d (.sc (.string none8)), .d (.sc (.int .i64 0)), .d (.sc (.slice none 0 0))], .d (.sc (.int .i64 8)), .d (.sc (.int .i64 1)), .agg [.d (.sc (.int .i64 w)), .d (.sc (.bool fd)), .d (.sc (.string vl)), .d (.sc (.int .i64 vr)), .view 3 0 v 0 n]] [⟨35, cs, true, v, true⟩] (fun r st => r = .agg (noteU Z48 8 1 ⟨w, fd, vl, vr, L⟩) ∧ st = [⟨35, cs, true, v, true⟩]) := by
  have hcl : closedL 0 cs = true := by rw [hcs]; exact rows_closed L
  have hcl1 : cs.length = n * 3 := by
    rw [hcs, hnl]
    exact rows3_len hp.sz3
  have hfz : fzL 4 1 3 L cs = cs := by rw [hcs]; exact fz_rows 4 1 3 L L
  obtain ⟨GFsR, hGFsR⟩ : ∃ F, F = FsR0 := ⟨_, rfl⟩
  have hH : SoundK Try.prog [kn_known GFsR, kn_copied GFsR] := by subst hGFsR; exact orK_ok ok_known (orK_ok ok_copied noK_ok)
  refine FnD_cbv (T := fun _ => tabY [5003] []) (H := fun _ => [kn_known GFsR, kn_copied GFsR]) (tabY_ok _ _) hH follows_mixed Try.func8 rfl Try.ntmps8 (by simp) fun A X W hA hX hW => ?_
  cbv
  have l0 : A.cmp .lss 0 8 = true := by subst hA; rfl
  cbv at l0
  have l1 : A.cmp .lss 1 8 = true := by subst hA; rfl
  cbv at l1
  have l2 : A.cmp .lss 2 8 = true := by subst hA; rfl
  cbv at l2
  have l3 : A.cmp .lss 3 8 = true := by subst hA; rfl
  cbv at l3
  have l4 : A.cmp .lss 4 8 = true := by subst hA; rfl
  cbv at l4
  have l5 : A.cmp .lss 5 8 = true := by subst hA; rfl
  cbv at l5
  have l6 : A.cmp .lss 6 8 = true := by subst hA; rfl
  cbv at l6
  have l7 : A.cmp .lss 7 8 = true := by subst hA; rfl
  cbv at l7
  have l8 : A.cmp .lss 8 8 = false := by subst hA; rfl
  cbv at l8
  have b0 : A.bin .add .i64 0 1 = 1 := by subst hA; rfl
  cbv at b0
  have b1 : A.bin .add .i64 1 1 = 2 := by subst hA; rfl
  cbv at b1
  have b2 : A.bin .add .i64 2 1 = 3 := by subst hA; rfl
  cbv at b2
  have b3 : A.bin .add .i64 3 1 = 4 := by subst hA; rfl
  cbv at b3
  have b4 : A.bin .add .i64 4 1 = 5 := by subst hA; rfl
  cbv at b4
  have b5 : A.bin .add .i64 5 1 = 6 := by subst hA; rfl
  cbv at b5
  have b6 : A.bin .add .i64 6 1 = 7 := by subst hA; rfl
  cbv at b6
  have b7 : A.bin .add .i64 7 1 = 8 := by subst hA; rfl
  cbv at b7
  have o0_0 : A.off 0 0 1 = 0 := by subst hA; rfl
  cbv at o0_0
  have o0_1 : A.off 0 1 1 = 1 := by subst hA; rfl
  cbv at o0_1
  have o0_2 : A.off 0 2 1 = 2 := by subst hA; rfl
  cbv at o0_2
  have o0_3 : A.off 0 3 1 = 3 := by subst hA; rfl
  cbv at o0_3
  have o0_4 : A.off 0 4 1 = 4 := by subst hA; rfl
  cbv at o0_4
  have o0_5 : A.off 0 5 1 = 5 := by subst hA; rfl
  cbv at o0_5
  have o0_6 : A.off 0 6 1 = 6 := by subst hA; rfl
  cbv at o0_6
  have o0_7 : A.off 0 7 1 = 7 := by subst hA; rfl
  cbv at o0_7
  obtain ⟨rk, hrk⟩ : ∃ b, b = GFsR.known 8 := ⟨_, rfl⟩
  have kk : GFsR.known 8 = true := by subst hGFsR; rfl
  have sk : A.bin .sub .i64 8 1 = 7 := by subst hA; rfl
  cbv at kk
  cbv at sk
  simp only [kk]
  cbv
  try simp only [sk]
  try cbv

  refine unrollL (T := fun _ => tabY [5003] []) (H := fun _ => [kn_known GFsR, kn_copied GFsR]) (tabY_ok _ _) hH follows_mixed hA hX 9 fun R hR => ?_
  refine hR _ _ _ ?_
  cbv
  repeat' first
    | (simp only [l0, l1, l2, l3, l4, l5, l6, l7, l8, b0, b1, b2, b3, b4, b5, b6, b7, o0_0, o0_1, o0_2, o0_3, o0_4, o0_5, o0_6, o0_7]; cbv)
    | (refine And.intro ?_ ?_)
    | (refine hR _ _ _ ?_; cbv)
    | (refine callL hX (copiedKeep w fd vl vr cs v n true hn hcl1 hcl 0 rfl ?_); cbv)
  all_goals subst hA hX hW hGFsR
  all_goals first
    | rfl
    | exact isP.nil
    | trivial
    | (refine ret_freeze 4 3 L ⟨35, cs, true, 1, true⟩ rfl rfl (Nat.le_of_ble_eq_true rfl) hcs hp.sz3 ?_
       refine ret_keep [0] rfl ⟨?_, ?_⟩
       · subst hnl
         simp only [fzD, fzL, pullD, pullL]
         rfl
       · show [(⟨_, pullL [0] (fzL _ _ _ _ cs), _, _, _⟩ : Box)] = _
         rw [hfz, pullL_cl _ _ hcl]
         rfl)
theorem w_noteV (c : Int) (hc : 1 ≤ c ∧ c ≤ 8) (w : Int) (fd : Bool) (vl : ByteArray) (vr : Int) (cs : List DV) (v n : Nat) (L : List (List PD)) (hp : isP L) (hcs : cs = rowsD L) (hnl : n = L.length) (hn : 0 < n ∧ n ≤ 4194304) : FnD Try.prog 8 [.agg [.d (.sc (.int .i64 0)), .d (.sc (.int .i64 0)), .d (.sc (.bool false)), .d (.sc (.string none8)), .d (.sc (.int .i64 0)), .d (.sc (.slice none 0 0)), .d (.sc (.int .i64 0)), .d (.sc (.int .i64 0)), .d (.sc (.bool false)), .d (.sc (.string none8)), .d (.sc (.int .i64 0)), .d (.sc (.slice none 0 0)), .d (.sc (.int .i64 0)), .d (.sc (.int .i64 0)), .d (.sc (.bool false)), .d (.sc (.string none8)), .d (.sc (.int .i64 0)), .d (.sc (.slice none 0 0)), .d (.sc (.int .i64 0)), .d (.sc (.int .i64 0)), .d (.sc (.bool false)), .d (.sc (.string none8)), .d (.sc (.int .i64 0)), .d (.sc (.slice none 0 0)), .d (.sc (.int .i64 0)), .d (.sc (.int .i64 0)), .d (.sc (.bool false)), .d (.sc (.string none8)), .d (.sc (.int .i64 0)), .d (.sc (.slice none 0 0)), .d (.sc (.int .i64 0)), .d (.sc (.int .i64 0)), .d (.sc (.bool false)), .d (.sc (.string none8)), .d (.sc (.int .i64 0)), .d (.sc (.slice none 0 0)), .d (.sc (.int .i64 0)), .d (.sc (.int .i64 0)), .d (.sc (.bool false)), .d (.sc (.string none8)), .d (.sc (.int .i64 0)), .d (.sc (.slice none 0 0)), .d (.sc (.int .i64 0)), .d (.sc (.int .i64 0)), .d (.sc (.bool false)), .d (.sc (.string none8)), .d (.sc (.int .i64 0)), .d (.sc (.slice none 0 0))], .d (.sc (.int .i64 c)), .d (.sc (.int .i64 1)), .agg [.d (.sc (.int .i64 w)), .d (.sc (.bool fd)), .d (.sc (.string vl)), .d (.sc (.int .i64 vr)), .view 3 0 v 0 n]] [⟨35, cs, true, v, true⟩] (fun r st => r = .agg (noteU Z48 c 1 ⟨w, fd, vl, vr, L⟩) ∧ st = [⟨35, cs, true, v, true⟩]) := by
  obtain h | h | h | h | h | h | h | h : c = 1 ∨ c = 2 ∨ c = 3 ∨ c = 4 ∨ c = 5 ∨ c = 6 ∨ c = 7 ∨ c = 8 := by omega
  · subst h; exact w_noteV1 w fd vl vr cs v n L hp hcs hnl hn
  · subst h; exact w_noteV2 w fd vl vr cs v n L hp hcs hnl hn
  · subst h; exact w_noteV3 w fd vl vr cs v n L hp hcs hnl hn
  · subst h; exact w_noteV4 w fd vl vr cs v n L hp hcs hnl hn
  · subst h; exact w_noteV5 w fd vl vr cs v n L hp hcs hnl hn
  · subst h; exact w_noteV6 w fd vl vr cs v n L hp hcs hnl hn
  · subst h; exact w_noteV7 w fd vl vr cs v n L hp hcs hnl hn
  · subst h; exact w_noteV8 w fd vl vr cs v n L hp hcs hnl hn
theorem noteKeep (c : Int) (hc : 1 ≤ c ∧ c ≤ 8) (w : Int) (fd : Bool) (vl : ByteArray) (vr : Int) (cs : List DV) (v n : Nat) (L : List (List PD)) (hp : isP L) (hcs : cs = rowsD L) (hnl : n = L.length) (hn : 0 < n ∧ n ≤ 4194304) {st : Store} {K : DV → Store → Prop} (b : Nat) (hb : st[b]? = some ⟨35, cs, true, v, true⟩) (hk : ∀ ds, ds = noteU Z48 c 1 ⟨w, fd, vl, vr, L⟩ → K (.agg ds) st) : FnD Try.prog 8 [.agg [.d (.sc (.int .i64 0)), .d (.sc (.int .i64 0)), .d (.sc (.bool false)), .d (.sc (.string none8)), .d (.sc (.int .i64 0)), .d (.sc (.slice none 0 0)), .d (.sc (.int .i64 0)), .d (.sc (.int .i64 0)), .d (.sc (.bool false)), .d (.sc (.string none8)), .d (.sc (.int .i64 0)), .d (.sc (.slice none 0 0)), .d (.sc (.int .i64 0)), .d (.sc (.int .i64 0)), .d (.sc (.bool false)), .d (.sc (.string none8)), .d (.sc (.int .i64 0)), .d (.sc (.slice none 0 0)), .d (.sc (.int .i64 0)), .d (.sc (.int .i64 0)), .d (.sc (.bool false)), .d (.sc (.string none8)), .d (.sc (.int .i64 0)), .d (.sc (.slice none 0 0)), .d (.sc (.int .i64 0)), .d (.sc (.int .i64 0)), .d (.sc (.bool false)), .d (.sc (.string none8)), .d (.sc (.int .i64 0)), .d (.sc (.slice none 0 0)), .d (.sc (.int .i64 0)), .d (.sc (.int .i64 0)), .d (.sc (.bool false)), .d (.sc (.string none8)), .d (.sc (.int .i64 0)), .d (.sc (.slice none 0 0)), .d (.sc (.int .i64 0)), .d (.sc (.int .i64 0)), .d (.sc (.bool false)), .d (.sc (.string none8)), .d (.sc (.int .i64 0)), .d (.sc (.slice none 0 0)), .d (.sc (.int .i64 0)), .d (.sc (.int .i64 0)), .d (.sc (.bool false)), .d (.sc (.string none8)), .d (.sc (.int .i64 0)), .d (.sc (.slice none 0 0))], .d (.sc (.int .i64 c)), .d (.sc (.int .i64 1)), .agg [.d (.sc (.int .i64 w)), .d (.sc (.bool fd)), .d (.sc (.string vl)), .d (.sc (.int .i64 vr)), .view 3 b v 0 n]] st K := by
  have h1 : closedL 0 (⟨35, cs, true, v, true⟩ : Box).cells = true := by rw [hcs]; exact rows_closed L
  have h := w_noteV c hc w fd vl vr cs v n L hp hcs hnl hn
  obtain ⟨bx, hbx⟩ : ∃ bx : Box, bx = ⟨35, cs, true, v, true⟩ := ⟨_, rfl⟩
  rw [← hbx] at h1 hb h
  have hlt : b < st.length := (List.getElem?_eq_some_iff.1 hb).1
  have hz : closedL 1 [.d (.sc (.int .i64 0)), .d (.sc (.int .i64 0)), .d (.sc (.bool false)), .d (.sc (.string none8)), .d (.sc (.int .i64 0)), .d (.sc (.slice none 0 0)), .d (.sc (.int .i64 0)), .d (.sc (.int .i64 0)), .d (.sc (.bool false)), .d (.sc (.string none8)), .d (.sc (.int .i64 0)), .d (.sc (.slice none 0 0)), .d (.sc (.int .i64 0)), .d (.sc (.int .i64 0)), .d (.sc (.bool false)), .d (.sc (.string none8)), .d (.sc (.int .i64 0)), .d (.sc (.slice none 0 0)), .d (.sc (.int .i64 0)), .d (.sc (.int .i64 0)), .d (.sc (.bool false)), .d (.sc (.string none8)), .d (.sc (.int .i64 0)), .d (.sc (.slice none 0 0)), .d (.sc (.int .i64 0)), .d (.sc (.int .i64 0)), .d (.sc (.bool false)), .d (.sc (.string none8)), .d (.sc (.int .i64 0)), .d (.sc (.slice none 0 0)), .d (.sc (.int .i64 0)), .d (.sc (.int .i64 0)), .d (.sc (.bool false)), .d (.sc (.string none8)), .d (.sc (.int .i64 0)), .d (.sc (.slice none 0 0)), .d (.sc (.int .i64 0)), .d (.sc (.int .i64 0)), .d (.sc (.bool false)), .d (.sc (.string none8)), .d (.sc (.int .i64 0)), .d (.sc (.slice none 0 0)), .d (.sc (.int .i64 0)), .d (.sc (.int .i64 0)), .d (.sc (.bool false)), .d (.sc (.string none8)), .d (.sc (.int .i64 0)), .d (.sc (.slice none 0 0))] = true := rfl
  refine FnD.at (args' := [.agg [.d (.sc (.int .i64 0)), .d (.sc (.int .i64 0)), .d (.sc (.bool false)), .d (.sc (.string none8)), .d (.sc (.int .i64 0)), .d (.sc (.slice none 0 0)), .d (.sc (.int .i64 0)), .d (.sc (.int .i64 0)), .d (.sc (.bool false)), .d (.sc (.string none8)), .d (.sc (.int .i64 0)), .d (.sc (.slice none 0 0)), .d (.sc (.int .i64 0)), .d (.sc (.int .i64 0)), .d (.sc (.bool false)), .d (.sc (.string none8)), .d (.sc (.int .i64 0)), .d (.sc (.slice none 0 0)), .d (.sc (.int .i64 0)), .d (.sc (.int .i64 0)), .d (.sc (.bool false)), .d (.sc (.string none8)), .d (.sc (.int .i64 0)), .d (.sc (.slice none 0 0)), .d (.sc (.int .i64 0)), .d (.sc (.int .i64 0)), .d (.sc (.bool false)), .d (.sc (.string none8)), .d (.sc (.int .i64 0)), .d (.sc (.slice none 0 0)), .d (.sc (.int .i64 0)), .d (.sc (.int .i64 0)), .d (.sc (.bool false)), .d (.sc (.string none8)), .d (.sc (.int .i64 0)), .d (.sc (.slice none 0 0)), .d (.sc (.int .i64 0)), .d (.sc (.int .i64 0)), .d (.sc (.bool false)), .d (.sc (.string none8)), .d (.sc (.int .i64 0)), .d (.sc (.slice none 0 0)), .d (.sc (.int .i64 0)), .d (.sc (.int .i64 0)), .d (.sc (.bool false)), .d (.sc (.string none8)), .d (.sc (.int .i64 0)), .d (.sc (.slice none 0 0))], .d (.sc (.int .i64 c)), .d (.sc (.int .i64 1)), .agg [.d (.sc (.int .i64 w)), .d (.sc (.bool fd)), .d (.sc (.string vl)), .d (.sc (.int .i64 vr)), .view 3 0 v 0 n]]) h [b] (by simp only [closedL, closedD]; simp [hlt]) ?_ (by simp [renL, renD, place]) ?_
  · intro k r bx0 hk hs
    cases k with
    | zero =>
      simp at hk hs
      subst hk; subst hs
      exact ⟨by rw [ren_box h1]; exact hb, closedL_mono (Nat.zero_le _) _ h1⟩
    | succ k => simp at hk
  · rintro r0 stc ⟨rfl, rfl⟩ _
    have hcl := (isOwnU.note zOwn hp (r := ⟨w, fd, vl, vr, L⟩) c 1).closed
    obtain ⟨ds, hds⟩ : ∃ ds, ds = noteU Z48 c 1 ⟨w, fd, vl, vr, L⟩ := ⟨_, rfl⟩
    rw [← hds] at hcl ⊢
    rw [renD_pure _ _ (show closedD 0 (.agg ds) = true from hcl)]
    have e2 : mergeL st [b] ([bx].map (Box.ren (place [b] st.length))) = st.set b bx := by
      apply List.ext_getElem?
      intro i
      simp only [mergeL, List.map_cons, List.map_nil, ren_box h1, List.length_singleton, List.drop_one, List.tail_cons, List.append_nil, List.getElem?_mapIdx, List.getElem?_set]
      by_cases hi : b = i
      · subst hi
        simp [hlt, List.idxOf?, List.findIdx?_cons]
      · have : ([b] : List Nat).idxOf? i = none := by rw [List.idxOf?_eq_none_iff]; simpa using fun h => hi h.symm
        simp [this, hi]
    rw [e2, set_self hb]
    exact hk ds hds

end Go.Proofs.Ytjlbdfehkbcmfaa
