/- Pairs and replies: what the functions give. No condition. -/
import Derived.Test.YtbceikkjogbgeaaOrd
import Derived.Test.YtbceikkjogbgeaaAm31
import Derived.Test.YtbceikkjogbgeaaTy
import Derived.Test.YtbceikkjogbgeaaAm35
namespace Go.Proofs.Ytbceikkjogbgeaa
open Go.RowKit
set_option linter.all false
abbrev none8 : ByteArray := { data := #[] }
structure Pair where
  key : ByteArray
  value : ByteArray
  version : Int
def Pair.row (p : Pair) : List PD := [.sc (.string p.key), .sc (.string p.value), .sc (.int .i64 p.version)]
def pairsX (ps : List Pair) : List (List PD) := ps.map Pair.row
def isP (xs : List (List PD)) : Prop := ∃ ps, xs = pairsX ps ∧ ps.length ≤ 4194304
theorem isP.len {xs : List (List PD)} (h : isP xs) : xs.length ≤ 4194304 := by obtain ⟨ps, rfl, h⟩ := h; simpa [pairsX] using h
theorem isP.sz {xs : List (List PD)} (h : isP xs) : ∀ x ∈ xs, x.length = 3 := by
  obtain ⟨ps, rfl, h⟩ := h
  intro x hx
  simp only [pairsX, List.mem_map] at hx
  obtain ⟨_, _, rfl⟩ := hx
  rfl
theorem isP.nil : isP [] := ⟨[], rfl, by decide⟩
structure Reply where
  why : Int
  found : Bool
  value : ByteArray
  version : Int
  pairs : List (List PD)
def Reply.D (x : Reply) : DV := .agg [.d (.sc (.int .i64 x.why)), .d (.sc (.bool x.found)), .d (.sc (.string x.value)), .d (.sc (.int .i64 x.version)), .d (.slc 3 x.pairs)]
def r64 (n : Int) : Prop := -9223372036854775808 ≤ n ∧ n ≤ 9223372036854775807
theorem wrap_i64 {a : Int} (h : r64 a) : IntKind.wrap .i64 a = a := by
  unfold r64 at h
  simp only [IntKind.wrap, IntKind.bits, IntKind.signed]
  simp
  omega
instance : Inhabited Pair := ⟨⟨none8, none8, 0⟩⟩
def rowP : List PD → Pair
  | [.sc (.string k), .sc (.string v), .sc (.int _ n)] => ⟨k, v, n⟩
  | _ => ⟨none8, none8, 0⟩
def pairsOf (xs : List (List PD)) : List Pair := xs.map rowP
theorem pairsOf_X (ps : List Pair) : pairsOf (pairsX ps) = ps := by
  induction ps with
  | nil => rfl
  | cons p ps ih =>
    have : pairsOf (pairsX (p :: ps)) = p :: pairsOf (pairsX ps) := rfl
    rw [this, ih]
def okP1 (last : ByteArray) (p : Pair) : Bool := ltb last p.key && decide (p.key.size ≤ 16) && decide (p.value.size ≤ 64) && decide (1 ≤ p.version)
def riseP : ByteArray → List Pair → Bool
  | _, [] => true
  | last, p :: ps => okP1 last p && riseP p.key ps
def rightP (ps : List Pair) : Bool := decide (ps.length ≤ 32) && riseP none8 ps
def rightX (xs : List (List PD)) : Bool := rightP (pairsOf xs)
theorem prow {xs : List (List PD)} {ps : List Pair} (hxs : xs = pairsX ps) {i : Int} (h0 : 0 ≤ i) (h1 : i < ps.length) : xs.getD i.toNat [] = (ps[i.toNat]'(by omega)).row := by
  subst hxs
  have : i.toNat < ps.length := by omega
  simp [pairsX, List.getD_eq_getElem?_getD, this]
theorem pairsX_length (ps : List Pair) : (pairsX ps).length = ps.length := by simp [pairsX]
theorem pdrop {ps : List Pair} {i : Int} (h0 : 0 ≤ i) (h1 : i < ps.length) : ps.drop i.toNat = (ps[i.toNat]'(by omega)) :: ps.drop (i + 1).toNat := by
  have h : i.toNat < ps.length := by omega
  rw [List.drop_eq_getElem_cons h]
  congr 2
  omega
def idX (xs : List (List PD)) : List (List PD) := xs

structure FsK where
  rightR : List (List PD) → Bool
  right : List (List PD) → Bool
  clone : List (List PD) → List (List PD)
  isP : List (List PD) → Prop
def FsK0 : FsK where
  rightR := rightX
  right := rightX
  clone := idX
  isP := isP
set_option maxRecDepth 100000 in
theorem v_clone (xs : List (List PD)) (hp0 : FsK0.isP xs) : FnV Try.prog 25 [.d (.slc 3 xs)] (.d (.slc 3 (idX xs))) := by
  rcases xs with _ | ⟨x, xs⟩
  · refine FnD_cbv (T := fun _ => tabY [] []) (H := fun _ => []) (tabY_ok _ _) noK_ok follows_mixed Try.func25 rfl Try.ntmps25 (by simp) fun A X W hA hX hW => ?_
    cbv
    refine nilTestL hX tab_ok (sz := 3) (sz' := 3) (e := 29) rfl rfl ?_ ?_
    · cbv
      subst hA hX hW
      exact ret_nil rfl
    · cbv
      subst hA hX hW
      refine ⟨rfl, rfl, ?_, ?_⟩
      · simp [A0]
      · exact ret_slice (bx := ⟨29, _, true, 1, true⟩) rfl rfl rfl rfl rfl (by simp) rfl
  · refine FnD_cbv (T := fun _ => tabY [] []) (H := fun _ => []) (tabY_ok _ _) noK_ok follows_mixed Try.func25 rfl Try.ntmps25 (by simp) fun A X W hA hX hW => ?_
    cbv
    subst hA hX hW
    refine ⟨rfl, rfl, ?_, ?_⟩
    · have := isP.len hp0
      simp only [A0]
      generalize (x :: xs).length = n at *
      omega
    · exact ret_slice (bx := ⟨29, _, true, 1, true⟩) rfl rfl rfl (Nat.zero_add _) rfl (isP.sz hp0) rfl
def kn_clone (F : FsK) : FuncId × (List DV → RV) := (25, fun args => match args with
  | [.d (.slc 3 xs)] => some ([F.isP xs], .d (.slc 3 (F.clone xs)))
  | [.d (.sc (.slice none 0 0))] => some ([F.isP []], .d (.slc 3 (F.clone [])))
  | _ => none)
theorem ok_clone (args : List DV) (cs : List Prop) (r : DV) (h : (kn_clone FsK0).2 args = some (cs, r)) (hc : allP cs True) : FnV Try.prog 25 args r ∧ closedL 0 args = true := by
  unfold kn_clone at h
  simp only at h
  split at h
  · cases h; exact ⟨v_clone _ hc.1, rfl⟩
  · cases h; exact ⟨FnP.nils (v_clone [] hc.1) ⟨.inr ⟨rfl, _, rfl⟩, trivial⟩, rfl⟩
  · cases h
set_option maxRecDepth 100000 in
theorem v_right (xs : List (List PD)) (hp0 : FsK0.isP xs) : FnV Try.prog 17 [.d (.slc 3 xs)] (boolD ((rightX xs))) := by
  obtain ⟨ps, hxs, hl⟩ := hp0
  have hlen : xs.length = ps.length := by rw [hxs]; exact pairsX_length ps
  have hof : pairsOf xs = ps := by rw [hxs]; exact pairsOf_X ps
  obtain ⟨n, hn⟩ : ∃ n : Int, n = ps.length := ⟨_, rfl⟩
  refine FnD_cbv (T := fun _ => tabY [13] []) (H := fun _ => []) (tabY_ok _ _) noK_ok follows_mixed Try.func17 rfl Try.ntmps17 (by simp) fun A X W hA hX hW => ?_
  cbv
  refine part (fun h => ?_) (fun h => ?_)
  · cbv
    subst hA hX hW
    simp only [A0, decide_eq_true_eq] at h
    refine ret_v ?_ rfl
    have : ¬ ps.length ≤ 32 := by omega
    simp [boolD, rightX, rightP, hof, this]
  · cbv
    refine loopL (T := fun _ => tabY [13] []) (H := fun _ => []) (tabY_ok _ _) noK_ok follows_mixed hA hX (fun x : Int × ByteArray => 0 ≤ x.1 ∧ x.1 ≤ ps.length ∧ riseP none8 ps = riseP x.2 (ps.drop x.1.toNat))
      (fun x => [(3, .d (.sc (.string x.2))), (9, .d (.slc 3 xs)), (10, .d (.sc (.int .i64 n))), (11, .d (.sc (.int .i64 x.1)))]) (fun _ => [])
      (fun x => (ps.length : Int).toNat - x.1.toNat) (0, none8) ?_ ?_ ?_
    · exact ⟨by omega, by omega, rfl⟩
    · subst hA; exact told_less (by simp [toldP, getS, A0, hn, hlen])
    rintro R ⟨i, last⟩ hR ⟨i0, i1, i2⟩
    replace i0 : 0 ≤ i := i0
    replace i1 : i ≤ ps.length := i1
    replace i2 : riseP none8 ps = riseP last (ps.drop i.toNat) := i2
    cbv
    refine part (fun h2 => ?_) (fun h2 => ?_)
    · cbv
      replace hn : n = (ps.length : Int) := hn
      replace hlen : xs.length = ps.length := hlen
      replace i0 : 0 ≤ i := i0
      replace i1 : i ≤ (ps.length : Int) := i1
      replace hl : ps.length ≤ 4194304 := hl
      have hi : i < ps.length := by
        subst hA
        simp only [A0, decide_eq_true_eq] at h2
        omega
      have hrow := prow hxs i0 hi
      have hd := pdrop i0 hi
      generalize ps[i.toNat]'(by omega) = p at hrow hd
      rw [hd] at i2
      have i3 : riseP last (p :: ps.drop (i + 1).toNat) = (okP1 last p && riseP p.key (ps.drop (i + 1).toNat)) := rfl
      rw [i3] at i2
      repeat' first
        | (refine part (fun h3 => ?_) (fun h3 => ?_) <;> try cbv)
        | (refine And.intro ?_ ?_)
      all_goals subst hA hX hW hR
      all_goals first
        | (intro _; trivial)
        | (intro hq; exact hq)
        | (intro hq; simpa [A0] using hq)
        | (show 0 ≤ i ∧ i < (xs.length : Int); omega)
        | (simp only [A0, hrow]; simp [Pair.row]; done)
        | skip
      · refine ret_v ?_ rfl
        have hk : okP1 last p = false := by
          simp only [A0, hrow] at h3
          simp [Pair.row] at h3
          have t := ltb_total last p.key
          simp only [okP1, Bool.and_eq_false_iff, decide_eq_false_iff_not]
          rcases h3 with ((h3 | h3) | h3) | h3
          · rcases h3 with h3 | h3
            · simp_all
            · simp_all [ltb_irrefl]
          · omega
          · omega
          · omega
        rw [hk] at i2
        simp [boolD, rightX, rightP, hof, i2]
      · have hk : okP1 last p = true := by
          simp only [A0, hrow] at h3
          simp [Pair.row] at h3
          have t := ltb_total last p.key
          simp only [okP1, Bool.and_eq_true, decide_eq_true_eq]
          obtain ⟨⟨⟨⟨a1, a2⟩, a3⟩, a4⟩, a5⟩ := h3
          refine ⟨⟨⟨?_, by omega⟩, by omega⟩, by omega⟩
          simp_all
        rw [hk, Bool.true_and] at i2
        have hi' : i < (ps.length : Int) := hi
        have hl' : ps.length ≤ 4194304 := hl
        have i0' : 0 ≤ i := i0
        have hw : IntKind.wrap .i64 (i + 1) = i + 1 := wrap_i64 (by unfold r64; omega)
        have hkey : A0.gs (A0.lift (A0.row xs i)) 0 = p.key := by simp only [A0, hrow]; simp [Pair.row]
        refine ⟨(i + 1, p.key), ⟨by simp only; omega, by simp only; omega, i2⟩, by simp only; omega, told_keep [] rfl rfl ?_⟩
        simp [toldP, getS, A0, hw, pullD]
        simp [A0] at hkey
        exact hkey.symm
    · cbv
      replace hn : n = (ps.length : Int) := hn
      replace hlen : xs.length = ps.length := hlen
      replace i1 : i ≤ (ps.length : Int) := i1
      subst hA hX hW hR
      simp only [A0, decide_eq_false_iff_not] at h2 h
      refine ret_v ?_ rfl
      have hil : i.toNat = ps.length := by omega
      rw [hil, List.drop_length] at i2
      have h5 : ps.length ≤ 32 := by omega
      simp [boolD, rightX, rightP, hof, i2, h5, riseP]
def kn_right (F : FsK) : FuncId × (List DV → RV) := (17, fun args => match args with
  | [.d (.slc 3 xs)] => some ([F.isP xs], boolD ((F.right xs)))
  | [.d (.sc (.slice none 0 0))] => some ([F.isP []], boolD ((F.right [])))
  | _ => none)
theorem ok_right (args : List DV) (cs : List Prop) (r : DV) (h : (kn_right FsK0).2 args = some (cs, r)) (hc : allP cs True) : FnV Try.prog 17 args r ∧ closedL 0 args = true := by
  unfold kn_right at h
  simp only at h
  split at h
  · cases h; exact ⟨v_right _ hc.1, rfl⟩
  · cases h; exact ⟨FnP.nils (v_right [] hc.1) ⟨.inr ⟨rfl, _, rfl⟩, trivial⟩, rfl⟩
  · cases h
def lastK (ps : List Pair) (i : Int) : ByteArray := if i ≤ 0 then none8 else (ps.getD (i - 1).toNat default).key
theorem okR (i : Int) (p q : Pair) (last : ByteArray) (hlast : last = if i ≤ 0 then none8 else q.key) (b : Bool)
    (hb : b = true ↔ ((((p.key = none8 ∨ 16 < (p.key.size : Int)) ∨ 64 < (p.value.size : Int)) ∨ p.version < 1) ∨ 0 < i ∧ ltb q.key p.key = false)) : okP1 last p = !b := by
  have e1 := empty_ltb p.key
  have e2 : 0 < i → ltb q.key p.key = true → p.key ≠ none8 := by
    intro _ h e
    rw [e, ltb_empty] at h
    cases h
  have e0 : ({ data := #[] } : ByteArray) = none8 := rfl
  rw [Bool.eq_iff_iff]
  simp only [okP1, Bool.and_eq_true, decide_eq_true_eq, Bool.not_eq_true', ← Bool.not_eq_true, hb]
  by_cases hi : i ≤ 0
  · rw [if_pos hi] at hlast
    subst hlast
    rw [e1]
    have h0 : ¬ (0 < i) := by omega
    simp only [h0, false_and, or_false, Bool.not_eq_true, Bool.not_eq_eq_eq_not, Bool.not_true, decide_eq_false_iff_not]
    constructor
    · rintro ⟨⟨⟨a, b⟩, c⟩, d⟩ (((h | h) | h) | h)
      · exact a h
      all_goals omega
    · intro h
      refine ⟨⟨⟨?_, ?_⟩, ?_⟩, ?_⟩
      · intro h2; exact h (.inl (.inl (.inl h2)))
      · apply Decidable.byContradiction; intro h2; exact h (.inl (.inl (.inr (by omega))))
      · apply Decidable.byContradiction; intro h2; exact h (.inl (.inr (by omega)))
      · apply Decidable.byContradiction; intro h2; exact h (.inr (by omega))
  · rw [if_neg hi] at hlast
    subst hlast
    have h0 : 0 < i := by omega
    simp only [h0, true_and]
    constructor
    · rintro ⟨⟨⟨a, b⟩, c⟩, d⟩ ((((h | h) | h) | h) | h)
      · exact e2 h0 a h
      · omega
      · omega
      · omega
      · rw [a] at h; exact absurd h (by decide)
    · intro h
      refine ⟨⟨⟨?_, ?_⟩, ?_⟩, ?_⟩
      · cases h2 : ltb q.key p.key
        · exact absurd (.inr (by rw [h2]; decide)) h
        · rfl
      · apply Decidable.byContradiction; intro h2; exact h (.inl (.inl (.inl (.inr (by omega)))))
      · apply Decidable.byContradiction; intro h2; exact h (.inl (.inl (.inr (by omega))))
      · apply Decidable.byContradiction; intro h2; exact h (.inl (.inr (by omega)))

set_option maxRecDepth 100000 in
theorem v_rightR (xs : List (List PD)) (hp0 : FsK0.isP xs) : FnV Try.prog 16 [.d (.slc 3 xs)] (boolD ((rightX xs))) := by
  obtain ⟨ps, hxs, hl⟩ := hp0
  have hlen : xs.length = ps.length := by rw [hxs]; exact pairsX_length ps
  have hof : pairsOf xs = ps := by rw [hxs]; exact pairsOf_X ps
  refine FnD_cbv (T := fun _ => tabY [12, 13, 19, 20, 28, 29, 37, 38, 49, 50, 54, 55] []) (H := fun _ => []) (tabY_ok _ _) noK_ok follows_mixed Try.func16 rfl Try.ntmps16 (by simp) fun A X W hA hX hW => ?_
  cbv
  refine loopL (T := fun _ => tabY [12, 13, 19, 20, 28, 29, 37, 38, 49, 50, 54, 55] []) (H := fun _ => []) (tabY_ok _ _) noK_ok follows_mixed hA hX (fun i : Int => 0 ≤ i ∧ i ≤ ps.length ∧ riseP none8 ps = riseP (lastK ps i) (ps.drop i.toNat))
    (fun i => [(0, .d (.slc 3 xs)), (3, .d (.sc (.int .i64 i)))]) (fun _ => [])
    (fun i => (ps.length : Int).toNat - i.toNat) 0 ?_ ?_ ?_
  · exact ⟨by omega, by omega, rfl⟩
  · subst hA; exact told_less (by simp [toldP, getS, A0, hlen])
  rintro R i hR ⟨i0, i1, i2⟩
  cbv
  refine part (fun h2 => ?_) (fun h2 => ?_)
  · cbv
    replace hlen : xs.length = ps.length := hlen
    replace i0 : 0 ≤ i := i0
    replace i1 : i ≤ (ps.length : Int) := i1
    replace hl : ps.length ≤ 4194304 := hl
    have hi : i < ps.length := by
      subst hA
      simp only [A0, decide_eq_true_eq] at h2
      omega
    have hw1 : IntKind.wrap .i64 (i - 1) = i - 1 := wrap_i64 (by unfold r64; omega)
    have hrow := prow hxs i0 hi
    have hd := pdrop i0 hi
    have hlt : (i - 1).toNat < ps.length := by omega
    have hrow1 : xs.getD (i - 1).toNat [] = (ps[(i - 1).toNat]'hlt).row := by
      rw [hxs, List.getD_eq_getElem?_getD, pairsX, List.getElem?_map, List.getElem?_eq_getElem hlt]
      rfl
    have hlast : lastK ps i = if i ≤ 0 then none8 else (ps[(i - 1).toNat]'hlt).key := by
      rw [lastK, List.getD_eq_getElem?_getD, List.getElem?_eq_getElem hlt]
      rfl
    generalize ps[i.toNat]'(by omega) = p at hrow hd
    generalize ps[(i - 1).toNat]'hlt = q at hrow1 hlast
    rw [hd] at i2
    have i3 : riseP (lastK ps i) (p :: ps.drop (i + 1).toNat) = (okP1 (lastK ps i) p && riseP p.key (ps.drop (i + 1).toNat)) := rfl
    rw [i3] at i2
    repeat' first
      | (refine part (fun h3 => ?_) (fun h3 => ?_) <;> try cbv)
      | (refine And.intro ?_ ?_)
    all_goals subst hA hX hW hR
    all_goals first
      | (show Region.lexB _ _ = true; kernel_rfl)
      | (intro _; trivial)
      | (intro hq; exact hq)
      | (intro hq; simpa [A0] using hq)
      | (show 0 ≤ i ∧ i < (xs.length : Int); omega)
      | (intro _; show 0 ≤ i ∧ i < (xs.length : Int); omega)
      | (simp only [A0, hrow]; simp [Pair.row]; done)
      | (intro _; simp only [A0, hrow]; simp [Pair.row]; done)
      | (intro _; simp only [A0, hw1, hrow1]; simp [Pair.row]; done)
      | (intro hq
         have h0 : 0 < i := by
           simp only [A0, Bool.and_eq_true, beq_iff_eq, decide_eq_true_eq] at hq
           exact hq.2
         simp only [A0, hw1]
         show 0 ≤ i - 1 ∧ i - 1 < (xs.length : Int)
         omega)
      | skip
    · have hk := okR i p q _ hlast _ ((Iff.of_eq (congrArg (fun x : Bool => x = true) h3.symm)).trans (by simp only [A0, hw1, hrow, hrow1]; simp [Pair.row]))
      rw [hk] at i2
      refine ret_v ?_ rfl
      simp [boolD, rightX, rightP, hof, i2]
    · have hk := okR i p q _ hlast _ ((Iff.of_eq (congrArg (fun x : Bool => x = true) h3.symm)).trans (by simp only [A0, hw1, hrow, hrow1]; simp [Pair.row]))
      rw [hk, Bool.not_false, Bool.true_and] at i2
      have hi' : i < (ps.length : Int) := hi
      have hl' : ps.length ≤ 4194304 := hl
      have i0' : 0 ≤ i := i0
      have hw : IntKind.wrap .i64 (i + 1) = i + 1 := wrap_i64 (by unfold r64; omega)
      have hl1 : lastK ps (i + 1) = p.key := by
        have h5 : i.toNat < ps.length := by omega
        rw [lastK, if_neg (by omega), show (i + 1 - 1).toNat = i.toNat by omega, List.getD_eq_getElem?_getD, List.getElem?_eq_getElem h5]
        rw [List.drop_eq_getElem_cons h5] at hd
        exact congrArg Pair.key (List.cons.inj hd).1
      refine ⟨i + 1, ⟨by omega, by omega, by rw [hl1]; exact i2⟩, by omega, told_less ?_⟩
      simp [toldP, getS, A0, hw]
  · cbv
    replace hlen : xs.length = ps.length := hlen
    replace i1 : i ≤ (ps.length : Int) := i1
    subst hA hX hW hR
    simp only [A0, decide_eq_false_iff_not] at h2
    replace h2 : ¬ i < (xs.length : Int) := h2
    refine ret_v ?_ rfl
    have hil : i.toNat = ps.length := by omega
    rw [hil, List.drop_length] at i2
    simp only [A0]
    rw [rightX, hof, rightP, i2]
    show boolD (decide ((xs.length : Int) ≤ 32)) = boolD (decide (ps.length ≤ 32) && true)
    rw [Bool.and_true]
    congr 1
    rw [decide_eq_decide]
    omega
def kn_rightR (F : FsK) : FuncId × (List DV → RV) := (16, fun args => match args with
  | [.d (.slc 3 xs)] => some ([F.isP xs], boolD ((F.rightR xs)))
  | [.d (.sc (.slice none 0 0))] => some ([F.isP []], boolD ((F.rightR [])))
  | _ => none)
theorem ok_rightR (args : List DV) (cs : List Prop) (r : DV) (h : (kn_rightR FsK0).2 args = some (cs, r)) (hc : allP cs True) : FnV Try.prog 16 args r ∧ closedL 0 args = true := by
  unfold kn_rightR at h
  simp only at h
  split at h
  · cases h; exact ⟨v_rightR _ hc.1, rfl⟩
  · cases h; exact ⟨FnP.nils (v_rightR [] hc.1) ⟨.inr ⟨rfl, _, rfl⟩, trivial⟩, rfl⟩
  · cases h
end Go.Proofs.Ytbceikkjogbgeaa
namespace Go.Proofs.Ytbceikkjogbgeaa
open Go.RowKit
set_option linter.all false
theorem exV {P : Program} {N : Nat} {X : Cps} (hX : X = X0 P N) {f : FuncId} (hf : OvlF P f) {s b v o n s' b' v' o' n' : Nat} {bx bx' : Box} {st : Store} {K : DV → Store → Prop} (hb : st[b]? = some bx) (hb' : st[b']? = some bx') (h1 : v = bx.ver) (h2 : v' = bx'.ver) (h3 : bx.live = true) (h4 : bx'.live = true) (h5 : b ≠ b')
    (h6 : bx'.cells ≠ []) (hk : K (boolD false) st) : X.ex f [.view s b v o n, .view s' b' v' o' n'] st K := by
  subst hX
  refine ⟨hf, ?_⟩
  simp only [hb, hb']
  exact ⟨h1, h2, h3, h4, h5, h6, hk⟩

theorem ovl_pair : OvlF Try.prog 31 := ⟨Try.f31, 22, 4, 29, Try.func31, by kernel_rfl, by kernel_rfl, by kernel_rfl, by kernel_rfl, by kernel_rfl, by kernel_rfl⟩
def insR (cs ds : List DV) (i : Int) : List DV := cs.take (i.toNat * 3) ++ ds ++ cs.drop (i.toNat * 3)
theorem flat3 (z : List DV) (hz : z.length = 3) (m : Nat) : (List.replicate m z).flatten.length = m * 3 := by
  rw [List.length_flatten]; simp [hz]
theorem ins_grow (cs ds z : List DV) (n k x : Nat) (hcs : cs.length = n * 3) (hds : ds.length = 3) (hz : z.length = 3) (hk : k < n) :
    splice (splice ((cs ++ List.replicate x DV.any).take (k * 3) ++ (List.replicate (n + 1 - k) z).flatten) (k * 3) ds) ((k + 1) * 3) (((cs ++ List.replicate x DV.any).drop (k * 3)).take ((n - k) * 3)) = insR cs ds (k : Int) := by
  have h1 : ((cs ++ List.replicate x DV.any).take (k * 3) ++ (List.replicate (n + 1 - k) z).flatten).length = (n + 1) * 3 := by
    rw [List.length_append, flat3 z hz]; simp [hcs]; omega
  have h2 : (((cs ++ List.replicate x DV.any).drop (k * 3)).take ((n - k) * 3)).length = (n - k) * 3 := by simp [hcs]; omega
  have h3 : (splice ((cs ++ List.replicate x DV.any).take (k * 3) ++ (List.replicate (n + 1 - k) z).flatten) (k * 3) ds).length = (n + 1) * 3 := by
    rw [splice_length _ _ _ (by rw [h1, hds]; omega), h1]
  apply List.ext_getElem?
  intro j
  rw [splice, splice_get _ _ _ (by rw [h2, h3]; omega), splice, splice_get _ _ _ (by rw [h1, hds]; omega)]
  simp only [insR, Int.toNat_natCast, h2, hds]
  by_cases c1 : j < k * 3
  · rw [if_neg (by omega), if_neg (by omega), List.append_assoc, List.getElem?_append_left (by simp [hcs]; omega), List.getElem?_append_left (by simp [hcs]; omega), List.getElem?_take, List.getElem?_take, if_pos c1, if_pos c1, List.getElem?_append_left (by omega)]
  by_cases c2 : j < (k + 1) * 3
  · rw [if_neg (by omega), if_pos (by omega), List.append_assoc, List.getElem?_append_right (by simp [hcs]; omega), List.getElem?_append_left (by simp [hcs, hds]; omega)]
    congr 1
    simp [hcs]; omega
  by_cases c3 : j < (n + 1) * 3
  · rw [if_pos (by omega), List.getElem?_take, if_pos (by omega), List.getElem?_drop, List.getElem?_append_left (by omega), List.append_assoc, List.getElem?_append_right (by simp [hcs]; omega), List.getElem?_append_right (by simp [hcs, hds]; omega), List.getElem?_drop]
    congr 1
    simp [hcs, hds]; omega
  · rw [if_neg (by omega), if_neg (by omega), List.getElem?_eq_none (by rw [h1]; omega), List.getElem?_eq_none (by simp [hcs, hds]; omega)]
theorem ins_room (cs ds : List DV) (n k x : Nat) (hcs : cs.length = n * 3) (hds : ds.length = 3) (hk : k < n) (hx : 3 ≤ x) :
    (splice (splice (cs ++ List.replicate x DV.any) ((k + 1) * 3) (((cs ++ List.replicate x DV.any).drop (k * 3)).take ((n - k) * 3))) (k * 3) ds).take ((n + 1) * 3) = insR cs ds (k : Int) := by
  have h1 : (cs ++ List.replicate x DV.any).length = n * 3 + x := by simp [hcs]
  have h2 : (((cs ++ List.replicate x DV.any).drop (k * 3)).take ((n - k) * 3)).length = (n - k) * 3 := by simp [hcs]; omega
  have h3 : (splice (cs ++ List.replicate x DV.any) ((k + 1) * 3) (((cs ++ List.replicate x DV.any).drop (k * 3)).take ((n - k) * 3))).length = n * 3 + x := by
    rw [splice_length _ _ _ (by rw [h1, h2]; omega), h1]
  apply List.ext_getElem?
  intro j
  rw [List.getElem?_take, splice, splice_get _ _ _ (by rw [h3, hds]; omega), splice, splice_get _ _ _ (by rw [h1, h2]; omega)]
  simp only [insR, Int.toNat_natCast, h2, hds]
  by_cases c1 : j < k * 3
  · rw [if_pos (by omega), if_neg (by omega), if_neg (by omega), List.append_assoc, List.getElem?_append_left (by omega), List.getElem?_append_left (by simp [hcs]; omega), List.getElem?_take, if_pos c1]
  by_cases c2 : j < (k + 1) * 3
  · rw [if_pos (by omega), if_pos (by omega), List.append_assoc, List.getElem?_append_right (by simp [hcs]; omega), List.getElem?_append_left (by simp [hcs, hds]; omega)]
    congr 1
    simp [hcs]; omega
  by_cases c3 : j < (n + 1) * 3
  · rw [if_pos (by omega), if_neg (by omega), if_pos (by omega), List.getElem?_take, if_pos (by omega), List.getElem?_drop, List.getElem?_append_left (by omega), List.append_assoc, List.getElem?_append_right (by simp [hcs]; omega), List.getElem?_append_right (by simp [hcs, hds]; omega), List.getElem?_drop]
    congr 1
    simp [hcs, hds]; omega
  · rw [if_neg (by omega), List.getElem?_eq_none (by simp [hcs, hds]; omega)]
def delR (cs : List DV) (i : Int) : List DV := cs.take (i.toNat * 3) ++ cs.drop (i.toNat * 3 + 3)
theorem del_room (cs z : List DV) (n k x : Nat) (hcs : cs.length = n * 3) (hz : z.length = 3) (hk : k < n) :
    (splice (splice (cs ++ List.replicate x DV.any) (k * 3) (((cs ++ List.replicate x DV.any).drop ((k + 1) * 3)).take ((n - (k + 1)) * 3))) ((n - 1) * 3) (List.replicate 1 z).flatten).take ((n - 1) * 3) = delR cs (k : Int) := by
  have h1 : (cs ++ List.replicate x DV.any).length = n * 3 + x := by simp [hcs]
  have h2 : (((cs ++ List.replicate x DV.any).drop ((k + 1) * 3)).take ((n - (k + 1)) * 3)).length = (n - (k + 1)) * 3 := by simp [hcs]; omega
  have h3 : (splice (cs ++ List.replicate x DV.any) (k * 3) (((cs ++ List.replicate x DV.any).drop ((k + 1) * 3)).take ((n - (k + 1)) * 3))).length = n * 3 + x := by
    rw [splice_length _ _ _ (by rw [h1, h2]; omega), h1]
  have h4 := flat3 z hz 1
  apply List.ext_getElem?
  intro j
  rw [List.getElem?_take, splice, splice_get _ _ _ (by rw [h3, h4]; omega), splice, splice_get _ _ _ (by rw [h1, h2]; omega)]
  simp only [delR, Int.toNat_natCast, h2, h4]
  by_cases c1 : j < k * 3
  · rw [if_pos (by omega), if_neg (by omega), if_neg (by omega), List.getElem?_append_left (by omega), List.getElem?_append_left (by simp [hcs]; omega), List.getElem?_take, if_pos c1]
  by_cases c3 : j < (n - 1) * 3
  · rw [if_pos (by omega), if_neg (by omega), if_pos (by omega), List.getElem?_take, if_pos (by omega), List.getElem?_drop, List.getElem?_append_left (by omega), List.getElem?_append_right (by simp [hcs]; omega), List.getElem?_drop]
    congr 1
    simp [hcs]; omega
  · rw [if_neg (by omega), List.getElem?_eq_none (by simp [hcs]; omega)]

set_option maxRecDepth 100000 in
set_option maxHeartbeats 8000000 in
theorem w_insert (cs ds : List DV) (n k : Nat) (i : Int) (v w : Nat) (hcs : cs.length = n * 3) (hds : ds.length = 3) (hi : i = k) (h1 : k < n) (hn : n ≤ 1000000) :
    FnD Try.prog 26 [.view 3 0 v 0 n, .d (.sc (.int .i64 i)), .view 3 1 w 0 1] [⟨29, cs, true, v, true⟩, ⟨29, ds, false, w, true⟩]
      (fun r st' => (r = .view 3 0 (v + 1) 0 (n + 1) ∧ st' = [⟨29, insR cs ds i, true, v + 1, true⟩, ⟨29, ds, false, w, true⟩]) ∨ (∃ st0, r = .view 3 2 0 0 (n + 1) ∧ st' = [⟨29, st0, false, v, true⟩, ⟨29, ds, false, w, true⟩, ⟨29, insR cs ds i, true, 0, true⟩])) := by
  refine FnD.reveal 0 3 n _ rfl rfl (by simp) hcs fun c hc => ?_
  obtain ⟨cs', hcs'⟩ : ∃ x, x = cs ++ List.replicate ((c - n) * 3) DV.any := ⟨_, rfl⟩
  have hlen : cs'.length = c * 3 := by rw [hcs', List.length_append, List.length_replicate, hcs]; omega
  show FnD Try.prog 26 [.view 3 0 v 0 n, .d (.sc (.int .i64 i)), .view 3 1 w 0 1] [⟨29, cs ++ List.replicate ((c - n) * 3) DV.any, false, v, true⟩, ⟨29, ds, false, w, true⟩] _
  rw [← hcs']
  refine FnD_cbv (T := fun _ => tabY [5000] []) (H := fun _ => []) (tabY_ok _ _) noK_ok follows_mixed Try.func26 rfl Try.ntmps26 (by simp) fun A X W hA hX hW => ?_
  cbv
  repeat' first
    | (refine part (fun h => ?_) (fun h => ?_) <;> try cbv)
    | (refine And.intro ?_ ?_)
    | (refine exV hX ovl_pair rfl rfl rfl rfl rfl rfl (by decide) ?_ ?_) <;> try cbv
  all_goals subst hA hX hW hi
  all_goals simp only [A0, nc, decide_eq_true_eq, decide_eq_false_iff_not, Bool.not_eq_true', Bool.not_eq_false'] at *
  all_goals have e1 : IntKind.wrap .i64 ((n : Int) + ((1 : Nat) : Int)) = ((n + 1 : Nat) : Int) := by rw [IntKind.wrap_i64]; omega
  all_goals have e2 : IntKind.wrap .i64 (((n + 1 : Nat) : Int) - (k : Int)) = ((n + 1 - k : Nat) : Int) := by rw [IntKind.wrap_i64]; omega
  all_goals have e3 : IntKind.wrap .i64 ((k : Int) + ((1 : Nat) : Int)) = ((k + 1 : Nat) : Int) := by rw [IntKind.wrap_i64]; omega
  all_goals have f2 : n ≠ k := by omega
  all_goals try simp only [e1, e2, e3, Int.toNat_natCast, Nat.zero_add, show Int.toNat 0 = 0 from rfl, Nat.zero_mul, List.drop_zero, Nat.sub_zero]
  all_goals have m1 : min 1 (n + 1 - k) = 1 := by omega
  all_goals have m2 : min (n - k) (n + 1 - (k + 1)) = n - k := by omega
  all_goals have m3 : min (n + 1 - k) (n + 1 - (k + 1)) = n - k := by omega
  all_goals have m4 : k + (n + 1 - k) = n + 1 := by omega
  all_goals have t1 : ds.take (1 * 3) = ds := List.take_of_length_le (by omega)
  all_goals have fl : ([DV.d (.sc (.string { data := { toList := [] } })), DV.d (.sc (.string { data := { toList := [] } })), DV.d (.sc (.int .i64 0))] : List DV).length = 3 := rfl
  all_goals have f3 := flat3 _ fl (n + 1 - k)
  all_goals try simp only [m1, m2, m3, m4, t1]
  all_goals first
    | rfl
    | assumption
    | omega
    | (exfalso; simp_all; done)
    | (exfalso; omega)
    | (show Region.lexB _ _ = true; kernel_rfl)
    | (show turnsB _ = true; kernel_rfl)
    | exact ⟨⟨by omega, by omega⟩, .inl (by omega), .inr (.inl (by omega))⟩
    | (refine ⟨⟨by omega, by omega⟩, ?_, ?_⟩ <;> first | exact .inl (by omega) | exact .inr (.inl (by omega)) | exact .inr ⟨rfl, by omega⟩ | exact .inr (.inr ⟨rfl, by omega⟩))
    | (intro e; rw [e] at hlen; simp at hlen; omega)
    | (simp only [List.length_append, f3, List.length_take]; omega)
    | (refine ⟨⟨by omega, by omega⟩, ?_, ?_⟩ <;> first | exact .inl (by omega) | exact .inr (.inl (by omega)) | exact .inr ⟨trivial, by omega⟩ | exact .inr (.inr ⟨trivial, by omega⟩))
    | (simp only [splice, List.length_append, f3, List.length_take, List.length_drop]; omega)
    | (refine RetW.refl (.inr ⟨cs', rfl, ?_⟩)
       rw [List.take_take, Nat.min_self, hcs', ins_grow cs ds _ n k _ hcs hds fl h1]
       done)
    | (refine ret_hide 0 ((n + 1) * 3) _ rfl ?_
       refine ret_bump rfl (RetW.refl (.inl ⟨rfl, ?_⟩))
       rw [List.take_take, Nat.min_eq_left (show (n - k) * 3 ≤ (n + 1 - k) * 3 by omega), hcs']
       simp only [List.set_cons_zero, ins_room cs ds n k _ hcs hds h1 (show 3 ≤ (c - n) * 3 by omega)]
       done)
end Go.Proofs.Ytbceikkjogbgeaa
namespace Go.Proofs.Ytbceikkjogbgeaa
open Go.RowKit
set_option linter.all false

set_option maxRecDepth 100000 in
set_option maxHeartbeats 8000000 in
theorem w_insertE (cs ds : List DV) (n : Nat) (i : Int) (v w : Nat) (hcs : cs.length = n * 3) (hds : ds.length = 3) (hi : i = n) (h0 : 0 < n) (hn : n ≤ 1000000) :
    FnD Try.prog 26 [.view 3 0 v 0 n, .d (.sc (.int .i64 i)), .view 3 1 w 0 1] [⟨29, cs, true, v, true⟩, ⟨29, ds, false, w, true⟩]
      (fun r st' => r = .view 3 0 (v + 1) 0 (n + 1) ∧ st' = [⟨29, cs ++ ds, true, v + 1, true⟩, ⟨29, ds, false, w, true⟩]) := by
  refine FnD_cbv (T := fun _ => tabY [5000, 5002] []) (H := fun _ => []) (tabY_ok _ _) noK_ok follows_mixed Try.func26 rfl Try.ntmps26 (by simp) fun A X W hA hX hW => ?_
  cbv
  refine And.intro ?_ (And.intro ?_ (And.intro ?_ (And.intro ?_ ?_)))
  · subst hA; simp only [A0]
  · subst hA hi; simp only [A0]
  · subst hA; simp only [A0]; exact h0
  · subst hA; simp only [A0]
  refine part (fun h => ?_) (fun h => ?_)
  · subst hA
    simp [A0] at h
  cbv
  refine And.intro (by subst hA; simp only [A0]) ?_
  refine part (fun h => ?_) (fun h => ?_)
  rotate_left
  · subst hA hi
    simp [A0] at h
  cbv
  subst hA hX hW hi
  simp only [A0, nc]
  refine ⟨trivial, by omega, trivial, by omega, by omega, RetW.refl ⟨rfl, ?_⟩⟩
  simp only [Nat.one_mul, List.drop_zero]
  rw [List.take_of_length_le (by omega)]
set_option maxRecDepth 100000 in
set_option maxHeartbeats 8000000 in
theorem w_delete (cs : List DV) (n k : Nat) (i j : Int) (v : Nat) (hcs : cs.length = n * 3) (hi : i = k) (hj : j = (k + 1 : Nat)) (h1 : k + 1 < n) (hn : n ≤ 4194304) :
    FnD Try.prog 27 [.view 3 0 v 0 n, .d (.sc (.int .i64 i)), .d (.sc (.int .i64 j))] [⟨29, cs, true, v, true⟩]
      (fun r st' => r = .view 3 0 (v + 1) 0 (n - 1) ∧ st' = [⟨29, delR cs k, true, v + 1, true⟩]) := by
  refine FnD.reveal 0 3 n _ rfl rfl (by simp) hcs fun c hc => ?_
  obtain ⟨cs', hcs'⟩ : ∃ x, x = cs ++ List.replicate ((c - n) * 3) DV.any := ⟨_, rfl⟩
  have hlen : cs'.length = c * 3 := by rw [hcs', List.length_append, List.length_replicate, hcs]; omega
  show FnD Try.prog 27 [.view 3 0 v 0 n, .d (.sc (.int .i64 i)), .d (.sc (.int .i64 j))] [⟨29, cs ++ List.replicate ((c - n) * 3) DV.any, false, v, true⟩] _
  rw [← hcs']
  refine FnD_cbv (T := fun _ => tabY [5000, 5001] []) (H := fun _ => []) (tabY_ok _ _) noK_ok follows_mixed Try.func27 rfl Try.ntmps27 (by simp) fun A X W hA hX hW => ?_
  cbv
  repeat' first
    | (refine part (fun h => ?_) (fun h => ?_) <;> try cbv)
    | (refine And.intro ?_ ?_)
  all_goals subst hA hX hW hi hj
  all_goals simp only [A0, nc, decide_eq_true_eq, decide_eq_false_iff_not, Bool.not_eq_true', Bool.not_eq_false'] at *
  all_goals have m1 : k + (n - (k + 1)) = n - 1 := by omega
  all_goals have m2 : ((n - 1 : Nat) : Int) = (n : Int) - 1 := by omega
  all_goals try simp only [m1, Int.toNat_natCast, Nat.zero_add, show Int.toNat 0 = 0 from rfl, Nat.zero_mul, List.drop_zero, Nat.sub_zero]
  all_goals have fl : ([DV.d (.sc (.string { data := { toList := [] } })), DV.d (.sc (.string { data := { toList := [] } })), DV.d (.sc (.int .i64 0))] : List DV).length = 3 := rfl
  all_goals have m3 : n - (n - 1) = 1 := by omega
  all_goals have f3 := flat3 _ fl 1
  all_goals have f4 : (splice cs' (k * 3) (List.take ((n - (k + 1)) * 3) (List.drop ((k + 1) * 3) cs'))).length = c * 3 := by rw [splice_length _ _ _ (by simp; omega), hlen]
  all_goals try simp only [m3, f4]
  all_goals first
    | rfl
    | assumption
    | omega
    | (exfalso; simp_all; done)
    | (exfalso; omega)
    | (show Region.lexB _ _ = true; kernel_rfl)
    | (show turnsB _ = true; kernel_rfl)
    | exact ⟨by omega, by omega, by omega, by omega⟩
    | (refine ⟨⟨by omega, by omega⟩, ?_, ?_⟩ <;> first | exact .inl (by omega) | exact .inr (.inl (by omega)) | exact .inr ⟨trivial, by omega⟩ | exact .inr (.inr ⟨trivial, by omega⟩))
    | (simp only [splice, List.length_append, f3, List.length_take, List.length_drop]; omega)
    | (refine ret_hide 0 ((n - 1) * 3) _ rfl ?_
       refine ret_bump rfl (RetW.refl ⟨rfl, ?_⟩)
       simp only [List.set_cons_zero, hcs', del_room cs _ n k _ hcs fl (show k < n by omega)]
       done)

theorem delE_room (cs z : List DV) (n k x : Nat) (hcs : cs.length = n * 3) (hz : z.length = 3) (hk : k + 1 = n) :
    (splice (splice (cs ++ List.replicate x DV.any) (k * 3) (rowsD [])) ((n - 1) * 3) (List.replicate 1 z).flatten).take ((n - 1) * 3) = delR cs (k : Int) := by
  have e : rowsD [] = [] := rfl
  rw [e, splice_nil]
  have h1 : (cs ++ List.replicate x DV.any).length = n * 3 + x := by simp [hcs]
  have h4 := flat3 z hz 1
  apply List.ext_getElem?
  intro j
  rw [List.getElem?_take, splice, splice_get _ _ _ (by rw [h1, h4]; omega)]
  simp only [delR, Int.toNat_natCast, h4]
  by_cases c1 : j < k * 3
  · rw [if_pos (by omega), if_neg (by omega), List.getElem?_append_left (by omega), List.getElem?_append_left (by simp [hcs]; omega), List.getElem?_take, if_pos c1]
  · rw [if_neg (by omega), List.getElem?_eq_none (by simp [hcs]; omega)]

set_option maxRecDepth 100000 in
set_option maxHeartbeats 8000000 in
theorem w_deleteE (cs : List DV) (n k : Nat) (i j : Int) (v : Nat) (hcs : cs.length = n * 3) (hi : i = k) (hj : j = (k + 1 : Nat)) (h1 : k + 1 = n) (hn : n ≤ 4194304) :
    FnD Try.prog 27 [.view 3 0 v 0 n, .d (.sc (.int .i64 i)), .d (.sc (.int .i64 j))] [⟨29, cs, true, v, true⟩]
      (fun r st' => r = .view 3 0 (v + 1) 0 (n - 1) ∧ st' = [⟨29, delR cs k, true, v + 1, true⟩]) := by
  refine FnD.reveal 0 3 n _ rfl rfl (by simp) hcs fun c hc => ?_
  obtain ⟨cs', hcs'⟩ : ∃ x, x = cs ++ List.replicate ((c - n) * 3) DV.any := ⟨_, rfl⟩
  have hlen : cs'.length = c * 3 := by rw [hcs', List.length_append, List.length_replicate, hcs]; omega
  show FnD Try.prog 27 [.view 3 0 v 0 n, .d (.sc (.int .i64 i)), .d (.sc (.int .i64 j))] [⟨29, cs ++ List.replicate ((c - n) * 3) DV.any, false, v, true⟩] _
  rw [← hcs']
  refine FnD_cbv (T := fun _ => tabY [5000, 5001, 5002] []) (H := fun _ => []) (tabY_ok _ _) noK_ok follows_mixed Try.func27 rfl Try.ntmps27 (by simp) fun A X W hA hX hW => ?_
  cbv
  repeat' first
    | (refine part (fun h => ?_) (fun h => ?_) <;> try cbv)
    | (refine And.intro ?_ ?_)
  all_goals subst hA hX hW hi hj
  all_goals simp only [A0, nc, decide_eq_true_eq, decide_eq_false_iff_not, Bool.not_eq_true', Bool.not_eq_false'] at *
  all_goals have m1 : k + ([] : List (List PD)).length = n - 1 := by simp; omega
  all_goals have m2 : ((n - 1 : Nat) : Int) = (n : Int) - 1 := by omega
  all_goals try simp only [m1, Int.toNat_natCast, Nat.zero_add, show Int.toNat 0 = 0 from rfl, Nat.zero_mul, List.drop_zero, Nat.sub_zero]
  all_goals have fl : ([DV.d (.sc (.string { data := { toList := [] } })), DV.d (.sc (.string { data := { toList := [] } })), DV.d (.sc (.int .i64 0))] : List DV).length = 3 := rfl
  all_goals have m3 : n - (n - 1) = 1 := by omega
  all_goals have f3 := flat3 _ fl 1
  all_goals have f4 : (splice cs' (k * 3) (rowsD [])).length = c * 3 := by rw [splice_length _ _ _ (by simp [rowsD]; omega), hlen]
  all_goals try simp only [m3, f4]
  all_goals first
    | rfl
    | assumption
    | omega
    | (exfalso; simp_all; done)
    | (exfalso; omega)
    | (show Region.lexB _ _ = true; kernel_rfl)
    | (show turnsB _ = true; kernel_rfl)
    | exact ⟨by omega, by omega, by omega, by omega⟩
    | (refine ⟨⟨by omega, by omega⟩, ?_, ?_⟩ <;> first | exact .inl (by omega) | exact .inr (.inl (by omega)) | exact .inr ⟨trivial, by omega⟩ | exact .inr (.inr ⟨trivial, by omega⟩))
    | (simp only [splice, List.length_append, f3, List.length_take, List.length_drop]; omega)
    | (refine ret_hide 0 ((n - 1) * 3) _ rfl ?_
       refine ret_bump rfl (RetW.refl ⟨rfl, ?_⟩)
       simp only [List.set_cons_zero, hcs', delE_room cs _ n k _ hcs fl h1]
       done)

end Go.Proofs.Ytbceikkjogbgeaa
namespace Go.Proofs.Ytbceikkjogbgeaa
open Go.RowKit
set_option linter.all false

/-- Nothing's part from its beginning. -/
theorem nilSliceL {P : Program} {N : Nat} {X : Cps} (hX : X = X0 P N) {T : Tab} (hT : TabOk P T) {t sz e : Nat} {k : IntKind} {x lo : Operand} {s : SL} {st : Store} {K : DV → Store → Prop}
    (h1 : T.sl t = some (e, sz)) (hx : ev (getS s) x = .d (.sc (.slice none 0 0))) (hl : ev (getS s) lo = .d (.sc (.int k 0))) (hk : K nilS st) : X.op (.slice t x (some lo) none none) s st K := by
  refine opL hX ?_
  simp only [opD, hx, sliceD, hT.sl _ _ h1, Option.map_some, hl, Option.map_none, boundD, intOfD]
  exact ⟨by simp, hk⟩
set_option maxRecDepth 100000 in
theorem w_insert0 (ds : List DV) (v w : Nat) (hds : ds.length = 3) :
    FnD Try.prog 26 [.view 3 0 v 0 0, .d (.sc (.int .i64 0)), .view 3 1 w 0 1] [⟨29, [], true, v, true⟩, ⟨29, ds, false, w, true⟩]
      (fun r st' => r = .view 3 0 (v + 1) 0 1 ∧ st' = [⟨29, ds, true, v + 1, true⟩, ⟨29, ds, false, w, true⟩]) := by
  refine FnD_cbv (T := fun _ => tabY [5000] []) (H := fun _ => []) (tabY_ok _ _) noK_ok follows_mixed Try.func26 rfl Try.ntmps26 (by simp) fun A X W hA hX hW => ?_
  cbv
  repeat' first
    | (refine part (fun h => ?_) (fun h => ?_) <;> try cbv)
    | (refine And.intro ?_ ?_)
  all_goals first
    | (subst hA; rfl)
    | (exfalso; subst hA; simp [A0] at *; done)
    | (subst hA hX hW
       simp only [A0, nc]
       refine RetW.refl ⟨rfl, ?_⟩
       simp only [Nat.one_mul, List.drop_zero, List.nil_append]
       rw [List.take_of_length_le (by omega)])
    | (subst hA; simp only [A0, nc]; simp; done)
    | (subst hA; simp only [A0, nc]; omega)
    | (exfalso; subst hA; simp_all [A0]; done)
set_option maxRecDepth 100000 in
theorem w_insertN (ds : List DV) (w : Nat) (i : Int) (hds : ds.length = 3) (hi : i = 0) :
    FnD Try.prog 26 [nilS, .d (.sc (.int .i64 i)), .view 3 0 w 0 1] [⟨29, ds, false, w, true⟩]
      (fun r st' => r = .view 3 1 0 0 1 ∧ st' = [⟨29, ds, false, w, true⟩, ⟨29, ds, true, 0, true⟩]) := by
  subst hi
  refine FnD_cbv (T := fun _ => tabY [] []) (H := fun _ => []) (tabY_ok _ _) noK_ok follows_mixed Try.func26 rfl Try.ntmps26 (by simp) fun A X W hA hX hW => ?_
  cbv
  refine nilSliceL hX tab_ok (sz := 3) (e := 29) rfl rfl rfl ?_
  cbv
  repeat' first
    | (refine part (fun h => ?_) (fun h => ?_) <;> try cbv)
    | (refine And.intro ?_ ?_)
  all_goals first
    | (subst hA; rfl)
    | (exfalso; subst hA; simp [A0] at *; done)
    | (subst hA hX hW
       simp only [A0, nc]
       refine RetW.refl ⟨rfl, ?_⟩
       simp only [Nat.one_mul, List.drop_zero, List.nil_append]
       rw [List.take_of_length_le (by omega)])
    | (subst hA; simp only [A0, nc]; simp; done)
    | (subst hA; simp only [A0, nc]; omega)
    | (exfalso; subst hA; simp_all [A0]; done)
theorem insR_end (cs ds : List DV) (n : Nat) (h : cs.length = n * 3) : insR cs ds (n : Int) = cs ++ ds := by
  simp only [insR, Int.toNat_natCast]
  rw [List.take_of_length_le (by omega), List.drop_eq_nil_of_le (by omega), List.append_nil]
/-- slices.Insert of one pair. -/
theorem w_ins (cs ds : List DV) (n k : Nat) (i : Int) (v w : Nat) (hcs : cs.length = n * 3) (hds : ds.length = 3) (hi : i = k) (h1 : k ≤ n) (hn : n ≤ 1000000) :
    FnD Try.prog 26 [.view 3 0 v 0 n, .d (.sc (.int .i64 i)), .view 3 1 w 0 1] [⟨29, cs, true, v, true⟩, ⟨29, ds, false, w, true⟩]
      (fun r st' => (r = .view 3 0 (v + 1) 0 (n + 1) ∧ st' = [⟨29, insR cs ds i, true, v + 1, true⟩, ⟨29, ds, false, w, true⟩]) ∨ (∃ st0, r = .view 3 2 0 0 (n + 1) ∧ st' = [⟨29, st0, false, v, true⟩, ⟨29, ds, false, w, true⟩, ⟨29, insR cs ds i, true, 0, true⟩])) := by
  rcases Nat.lt_or_ge k n with h | h
  · exact w_insert cs ds n k i v w hcs hds hi h hn
  · obtain rfl : k = n := by omega
    have e := insR_end cs ds k hcs
    rw [← hi] at e
    rw [e]
    cases k with
    | zero =>
      have hc : cs = [] := List.eq_nil_of_length_eq_zero (by omega)
      subst hc
      subst hi
      exact (w_insert0 ds v w hds).mono fun _ _ h => .inl h
    | succ k => exact (w_insertE cs ds (k + 1) i v w hcs hds hi (by omega) hn).mono fun _ _ h => .inl h
set_option maxRecDepth 100000 in
theorem w_clone (xs : List (List PD)) (hp0 : isP xs) : FnD Try.prog 25 [.d (.slc 3 xs)] [] (fun r st' => (xs = [] ∧ r = nilS ∧ st' = []) ∨ ∃ v m cs, cs = rowsD xs ∧ m = xs.length ∧ r = .view 3 0 v 0 m ∧ st' = [⟨29, cs, true, v, true⟩]) := by
  rcases xs with _ | ⟨x, xs⟩
  · refine FnD_cbv (T := fun _ => tabY [] []) (H := fun _ => []) (tabY_ok _ _) noK_ok follows_mixed Try.func25 rfl Try.ntmps25 (by simp) fun A X W hA hX hW => ?_
    cbv
    refine nilTestL hX tab_ok (sz := 3) (sz' := 3) (e := 29) rfl rfl ?_ ?_
    · cbv
      subst hA hX hW
      exact RetW.refl (.inl ⟨rfl, rfl, rfl⟩)
    · cbv
      subst hA hX hW
      refine ⟨rfl, rfl, ?_, ?_⟩
      · simp [A0]
      · exact RetW.refl (.inr ⟨1, 0, [], rfl, rfl, rfl, rfl⟩)
  · refine FnD_cbv (T := fun _ => tabY [] []) (H := fun _ => []) (tabY_ok _ _) noK_ok follows_mixed Try.func25 rfl Try.ntmps25 (by simp) fun A X W hA hX hW => ?_
    cbv
    subst hA hX hW
    refine ⟨rfl, rfl, ?_, ?_⟩
    · have := isP.len hp0
      simp only [A0]
      generalize (x :: xs).length = n at *
      omega
    · exact RetW.refl (.inr ⟨1, (x :: xs).length, rowsD (x :: xs), rfl, rfl, by simp [A0], rfl⟩)
/-- slices.Insert of one pair, the result in variables. -/
theorem w_ins2 (cs ds : List DV) (n k : Nat) (i : Int) (v w : Nat) (hcs : cs.length = n * 3) (hds : ds.length = 3) (hi : i = k) (h1 : k ≤ n) (hn : n ≤ 1000000) :
    FnD Try.prog 26 [.view 3 0 v 0 n, .d (.sc (.int .i64 i)), .view 3 1 w 0 1] [⟨29, cs, true, v, true⟩, ⟨29, ds, false, w, true⟩]
      (fun r st' => ∃ ics m' v', ics = insR cs ds i ∧ m' = n + 1 ∧ ((r = .view 3 0 v' 0 m' ∧ st' = [⟨29, ics, true, v', true⟩, ⟨29, ds, false, w, true⟩]) ∨ (∃ st0, r = .view 3 2 v' 0 m' ∧ st' = [⟨29, st0, false, v, true⟩, ⟨29, ds, false, w, true⟩, ⟨29, ics, true, v', true⟩]))) := by
  refine (w_ins cs ds n k i v w hcs hds hi h1 hn).mono ?_
  rintro r st (⟨rfl, rfl⟩ | ⟨st0, rfl, rfl⟩)
  · exact ⟨_, _, _, rfl, rfl, .inl ⟨rfl, rfl⟩⟩
  · exact ⟨_, _, _, rfl, rfl, .inr ⟨st0, rfl, rfl⟩⟩
theorem w_insertN2 (ds : List DV) (w : Nat) (i : Int) (hds : ds.length = 3) (hi : i = 0) :
    FnD Try.prog 26 [nilS, .d (.sc (.int .i64 i)), .view 3 0 w 0 1] [⟨29, ds, false, w, true⟩]
      (fun r st' => ∃ ics m' v', ics = ds ∧ m' = 1 ∧ v' = 0 ∧ r = .view 3 1 v' 0 m' ∧ st' = [⟨29, ds, false, w, true⟩, ⟨29, ics, true, v', true⟩]) := by
  refine (w_insertN ds w i hds hi).mono ?_
  rintro r st ⟨rfl, rfl⟩
  exact ⟨_, _, _, rfl, rfl, rfl, rfl, rfl⟩

end Go.Proofs.Ytbceikkjogbgeaa
namespace Go.Proofs.Ytbceikkjogbgeaa
open Go.RowKit
set_option linter.all false
/-- Where a key stands, or would. -/
def findL (key : ByteArray) : List Pair → Int → Int × Bool
  | [], i => (i, false)
  | p :: ps, i => if ltb p.key key = true then findL key ps (i + 1) else (i, decide (p.key = key))
def findX (xs : List (List PD)) (key : ByteArray) : Int × Bool := findL key (pairsOf xs) 0
theorem findL_range (key : ByteArray) : ∀ (ps : List Pair) (i : Int), i ≤ (findL key ps i).1 ∧ (findL key ps i).1 ≤ i + ps.length ∧ ((findL key ps i).2 = true → (findL key ps i).1 < i + ps.length)
  | [], i => by simp [findL]
  | p :: ps, i => by
      unfold findL
      split
      · obtain ⟨a, b, c⟩ := findL_range key ps (i + 1)
        simp only [List.length_cons]
        exact ⟨by omega, by omega, fun h => by have := c h; omega⟩
      · simp only [List.length_cons]
        exact ⟨by omega, by omega, fun _ => by omega⟩
theorem pairsOf_length (xs : List (List PD)) : (pairsOf xs).length = xs.length := by simp [pairsOf]
theorem findX_range (xs : List (List PD)) (key : ByteArray) : 0 ≤ (findX xs key).1 ∧ (findX xs key).1 ≤ xs.length ∧ ((findX xs key).2 = true → (findX xs key).1 < xs.length) := by
  obtain ⟨a, b, c⟩ := findL_range key (pairsOf xs) 0
  rw [pairsOf_length] at b c
  unfold findX
  exact ⟨a, by omega, fun h => by have := c h; omega⟩
def getX (xs : List (List PD)) (key : ByteArray) : Pair := if (findX xs key).2 = true then rowP (xs.getD (findX xs key).1.toNat []) else ⟨none8, none8, 0⟩
def thereX (xs : List (List PD)) (key : ByteArray) : Bool := (findX xs key).2
def Pair.D (p : Pair) : DV := .agg [.d (.sc (.string p.key)), .d (.sc (.string p.value)), .d (.sc (.int .i64 p.version))]

structure FsP where
  find : List (List PD) → ByteArray → Int × Bool
  findR : List (List PD) → ByteArray → Int × Bool
  get : List (List PD) → ByteArray → Pair
  there : List (List PD) → ByteArray → Bool
  isP : List (List PD) → Prop
def FsP0 : FsP where
  find := findX
  findR := findX
  get := getX
  there := thereX
  isP := isP
set_option maxRecDepth 100000 in
theorem v_find (xs : List (List PD)) (key : ByteArray) (hp0 : FsP0.isP xs) : FnV Try.prog 24 [.d (.slc 3 xs), strD key] (.tup [intD (((findX xs key)).1), boolD (((findX xs key)).2)]) := by
  obtain ⟨ps, hxs, hl⟩ := hp0
  have hlen : xs.length = ps.length := by rw [hxs]; exact pairsX_length ps
  have hof : findX xs key = findL key ps 0 := by rw [findX, hxs, pairsOf_X ps]
  obtain ⟨n, hn⟩ : ∃ n : Int, n = ps.length := ⟨_, rfl⟩
  rw [hof]
  obtain ⟨q, hq⟩ : ∃ q, q = findL key ps 0 := ⟨_, rfl⟩
  rw [← hq]
  refine FnD_cbv (T := fun _ => tabY [13] []) (H := fun _ => []) (tabY_ok _ _) noK_ok follows_mixed Try.func24 rfl Try.ntmps24 (by simp) fun A X W hA hX hW => ?_
  cbv
  replace hn : n = (ps.length : Int) := hn
  refine loopL (T := fun _ => tabY [13] []) (H := fun _ => []) (tabY_ok _ _) noK_ok follows_mixed hA hX (fun x : Int => (0 ≤ x ∧ x ≤ n) ∧ q = findL key (ps.drop x.toNat) x)
    (fun x => [(0, .d (.slc 3 xs)), (1, .d (.sc (.string key))), (8, .d (.slc 3 xs)), (9, .d (.sc (.int .i64 n))), (10, .d (.sc (.int .i64 x)))]) (fun _ => [])
    (fun x => n.toNat - x.toNat) 0 ?_ ?_ ?_
  · exact ⟨⟨by omega, by omega⟩, hq⟩
  · subst hA; exact told_less (by simp [toldP, getS, A0, hn, hlen])
  rintro R i hR ⟨hi, i2⟩
  cbv
  repeat' first
    | (refine part (fun h => ?_) (fun h => ?_) <;> try cbv)
    | (refine And.intro ?_ ?_)
  all_goals subst hA hX hW hR
  all_goals simp only [A0, nc, decide_eq_true_eq, decide_eq_false_iff_not, Bool.not_eq_true', Bool.not_eq_false'] at *
  all_goals try replace hi : 0 ≤ i ∧ i ≤ n := hi
  all_goals replace hn : n = (ps.length : Int) := hn
  all_goals have ei : IntKind.wrap .i64 (i + 1) = i + 1 := wrap_i64 (by unfold r64; omega)
  all_goals try
    have hlt : i < ps.length := by omega
    have hrow := prow hxs hi.1 hlt
    have hd := pdrop hi.1 hlt
    generalize ps[i.toNat]'(by omega) = p at hrow hd
    rw [hd] at i2
    simp only [hrow, Pair.row, List.map_cons, List.map_nil, Nat.zero_add, List.getElem?_cons_zero, List.getElem?_cons_succ] at *
  all_goals first
    | rfl
    | (show Region.lexB _ _ = true; kernel_rfl)
    | (show turnsB _ = true; kernel_rfl)
    | omega
    | (refine ⟨by omega, by omega⟩)
    | (simp; done)
    | (intros; first | assumption | trivial | (simp_all; done))
    | (have hk : ltb p.key key = true := by assumption
       have hk2 : findL key (p :: ps.drop (i + 1).toNat) i = findL key (ps.drop (i + 1).toNat) (i + 1) := by rw [findL, if_pos hk]
       rw [hk2] at i2
       refine ⟨i + 1, ⟨⟨by omega, by omega⟩, i2⟩, by omega, told_keep [] rfl rfl ?_⟩
       simp [toldP, getS, pullD, ei]
       done)
    | (have hk : ltb p.key key = false := by assumption
       have hk2 : findL key (p :: ps.drop (i + 1).toNat) i = (i, decide (p.key = key)) := by rw [findL, if_neg (by simp [hk])]
       rw [hk2] at i2
       refine ret_v ?_ rfl
       rw [i2]
       rfl)
    | (rw [show i.toNat = ps.length by omega, List.drop_length] at i2
       refine ret_v ?_ rfl
       rw [i2]
       simp only [findL, hlen, boolD, intD]
       rw [show i = (ps.length : Int) by omega]
       done)
    | (refine ret_v ?_ rfl
       rw [show i.toNat = ps.length by omega, List.drop_length] at i2
       rw [i2]
       simp only [findL, boolD, intD]
       rw [show i = (xs.length : Int) by omega]
       done)
def kn_find (F : FsP) : FuncId × (List DV → RV) := (24, fun args => match args with
  | [.d (.slc 3 xs), .d (.sc (.string key))] => some ([F.isP xs], .tup [intD (((F.find xs key)).1), boolD (((F.find xs key)).2)])
  | [.d (.sc (.slice none 0 0)), .d (.sc (.string key))] => some ([F.isP []], .tup [intD (((F.find [] key)).1), boolD (((F.find [] key)).2)])
  | _ => none)
theorem ok_find (args : List DV) (cs : List Prop) (r : DV) (h : (kn_find FsP0).2 args = some (cs, r)) (hc : allP cs True) : FnV Try.prog 24 args r ∧ closedL 0 args = true := by
  unfold kn_find at h
  simp only at h
  split at h
  · cases h; exact ⟨v_find _ _ hc.1, rfl⟩
  · cases h; exact ⟨FnP.nils (v_find [] _ hc.1) ⟨.inr ⟨rfl, _, rfl⟩, ⟨.inl rfl, trivial⟩⟩, rfl⟩
  · cases h
end Go.Proofs.Ytbceikkjogbgeaa
namespace Go.Proofs.Ytbceikkjogbgeaa
open Go.RowKit
set_option linter.all false
def getP (xs : List (List PD)) (key : ByteArray) : Pair × Bool := (getX xs key, thereX xs key)
theorem isP.row {xs : List (List PD)} (h : isP xs) {i : Int} (h0 : 0 ≤ i) (h1 : i < xs.length) : ∃ p : Pair, xs.getD i.toNat [] = p.row := by
  obtain ⟨ps, hxs, _⟩ := h
  have hl : xs.length = ps.length := by rw [hxs]; exact pairsX_length ps
  exact ⟨_, prow hxs h0 (by omega)⟩
theorem rowP_row (p : Pair) : rowP p.row = p := rfl

structure FsG where
  get : List (List PD) → ByteArray → Pair × Bool
  getR : List (List PD) → ByteArray → Pair × Bool
  isP : List (List PD) → Prop
def FsG0 : FsG where
  get := getP
  getR := getP
  isP := isP
set_option maxRecDepth 100000 in
theorem v_get (xs : List (List PD)) (key : ByteArray) (hp0 : FsG0.isP xs) : FnV Try.prog 11 [.d (.slc 3 xs), strD key] (.tup [Pair.D (((getP xs key)).1), boolD (((getP xs key)).2)]) := by
  have hr := findX_range xs key
  obtain ⟨GFsP, hGFsP⟩ : ∃ F, F = FsP0 := ⟨_, rfl⟩
  have hH : SoundK Try.prog [kn_find GFsP] := by subst hGFsP; exact orK_ok ok_find noK_ok
  refine FnD_cbv (T := fun _ => tabY [19] []) (H := fun _ => [kn_find GFsP]) (tabY_ok _ _) hH follows_mixed Try.func11 rfl Try.ntmps11 (by simp) fun A X W hA hX hW => ?_
  clear hH
  cbv
  repeat' first
    | (refine part (fun h => ?_) (fun h => ?_) <;> try cbv)
    | (refine And.intro ?_ ?_)
  all_goals subst hA hX hW hGFsP
  all_goals try (show Region.lexB _ _ = true; kernel_rfl)
  all_goals try (show turnsB _ = true; kernel_rfl)
  all_goals simp only [A0, FsP0, FsG0, decide_eq_true_eq, decide_eq_false_iff_not, Bool.not_eq_true', Bool.not_eq_false'] at *
  all_goals first
    | assumption
    | (refine ret_v ?_ rfl
       simp [getP, getX, thereX, *, Pair.D, boolD]
       done)
    | (have h := ‹(findX xs key).snd = true›
       obtain ⟨p, hp⟩ := hp0.row hr.1 (hr.2.2 h)
       first
         | exact ⟨hr.1, hr.2.2 h⟩
         | (rw [hp]; simp [Pair.row]; done)
         | (have hg : getP xs key = (p, true) := by
              unfold getP getX thereX
              rw [if_pos h, hp, h]; rfl
            refine ret_v ?_ rfl
            rw [hp, hg]
            simp [Pair.D, Pair.row, boolD]
            done))

def kn_get (F : FsG) : FuncId × (List DV → RV) := (11, fun args => match args with
  | [.d (.slc 3 xs), .d (.sc (.string key))] => some ([F.isP xs], .tup [Pair.D (((F.get xs key)).1), boolD (((F.get xs key)).2)])
  | [.d (.sc (.slice none 0 0)), .d (.sc (.string key))] => some ([F.isP []], .tup [Pair.D (((F.get [] key)).1), boolD (((F.get [] key)).2)])
  | _ => none)
theorem ok_get (args : List DV) (cs : List Prop) (r : DV) (h : (kn_get FsG0).2 args = some (cs, r)) (hc : allP cs True) : FnV Try.prog 11 args r ∧ closedL 0 args = true := by
  unfold kn_get at h
  simp only at h
  split at h
  · cases h; exact ⟨v_get _ _ hc.1, rfl⟩
  · cases h; exact ⟨FnP.nils (v_get [] _ hc.1) ⟨.inr ⟨rfl, _, rfl⟩, ⟨.inl rfl, trivial⟩⟩, rfl⟩
  · cases h
/-- A value put under a key. -/
def setP (xs : List (List PD)) (i : Nat) (value : ByteArray) : List (List PD) := xs.set i (Pair.row ⟨(rowP (xs.getD i [])).key, value, IntKind.wrap .i64 ((rowP (xs.getD i [])).version + 1)⟩)
def newP (xs : List (List PD)) (i : Nat) (key value : ByteArray) : List (List PD) := xs.take i ++ [Pair.row ⟨key, value, 1⟩] ++ xs.drop i
def putX (xs : List (List PD)) (key value : ByteArray) : List (List PD) × Int :=
  if (findX xs key).2 = true then (setP xs (findX xs key).1.toNat value, 0) else if 32 ≤ xs.length then ([], 7) else (newP xs (findX xs key).1.toNat key value, 0)
theorem findX_nil (key : ByteArray) : findX [] key = (0, false) := rfl
theorem isP.set {xs : List (List PD)} (h : isP xs) (i : Nat) (p : Pair) : isP (xs.set i p.row) := by
  obtain ⟨ps, rfl, hl⟩ := h
  exact ⟨ps.set i p, by simp [pairsX, List.map_set], by simpa using hl⟩
theorem isP.ins {xs : List (List PD)} (h : isP xs) (hl : xs.length ≤ 1000000) (i : Nat) (p : Pair) : isP (xs.take i ++ [p.row] ++ xs.drop i) := by
  obtain ⟨ps, rfl, _⟩ := h
  refine ⟨ps.take i ++ [p] ++ ps.drop i, by simp [pairsX, List.map_take, List.map_drop], ?_⟩
  rw [pairsX_length] at hl
  simp only [List.length_append, List.length_take, List.length_drop, List.length_singleton]
  omega
theorem rowsD_len {xs : List (List PD)} {sz : Nat} (h : ∀ x ∈ xs, x.length = sz) : (rowsD xs).length = xs.length * sz := by
  induction xs with
  | nil => simp [rowsD]
  | cons x xs ih =>
    have := ih fun y hy => h y (by simp [hy])
    have hx := h x (by simp)
    simp only [rowsD, List.flatten_cons, List.map_append, List.length_append, List.length_map, List.length_cons] at this ⊢
    rw [this, hx, Nat.add_mul]
    omega
theorem rowsD_cut {xs : List (List PD)} {sz : Nat} (h : ∀ x ∈ xs, x.length = sz) (i : Nat) (hi : i < xs.length) : rowsD xs = rowsD (xs.take i) ++ ((xs.getD i []).map .d ++ rowsD (xs.drop (i + 1))) := by
  have e : xs = xs.take i ++ (xs.getD i [] :: xs.drop (i + 1)) := by
    rw [List.getD_eq_getElem?_getD, List.getElem?_eq_getElem hi, Option.getD_some, ← List.drop_eq_getElem_cons hi, List.take_append_drop]
  conv => lhs; rw [e]
  simp [rowsD]
theorem rowsD_set {xs : List (List PD)} {sz : Nat} (h : ∀ x ∈ xs, x.length = sz) (i : Nat) (hi : i < xs.length) (y : List PD) : rowsD (xs.set i y) = rowsD (xs.take i) ++ (y.map .d ++ rowsD (xs.drop (i + 1))) := by
  rw [List.set_eq_take_append_cons_drop, if_pos hi]
  simp [rowsD]
theorem take_len {xs : List (List PD)} {sz : Nat} (h : ∀ x ∈ xs, x.length = sz) (i : Nat) (hi : i ≤ xs.length) : (rowsD (xs.take i)).length = i * sz := by
  rw [rowsD_len fun y hy => h y (List.mem_of_mem_take hy), List.length_take, Nat.min_eq_left hi]
theorem insR_rows {xs : List (List PD)} (h : ∀ x ∈ xs, x.length = 3) (i : Nat) (hi : i ≤ xs.length) (y : List PD) : insR (rowsD xs) (y.map .d) (i : Int) = rowsD (xs.take i ++ [y] ++ xs.drop i) := by
  have e : rowsD xs = rowsD (xs.take i) ++ rowsD (xs.drop i) := by rw [← rowsD_append, List.take_append_drop]
  have hl := take_len h i hi
  simp only [insR, Int.toNat_natCast]
  rw [e, List.take_append_of_le_length (by omega), List.take_of_length_le (by omega), List.drop_append_of_le_length (by omega), List.drop_eq_nil_of_le (by omega)]
  simp [rowsD]
/-- What is loaded of a row, and the row behind two stores. -/
theorem put_load {ys : List (List PD)} (h : isP ys) (i : Nat) (hi : i < ys.length) (value : ByteArray) :
    (splice (rowsD ys) (i * 3 + 1) [.d (.sc (.string value))])[i * 3 + 2]? = some (.d (.sc (.int .i64 (rowP (ys.getD i [])).version))) := by
  obtain ⟨p, hp⟩ := h.row (i := i) (by omega) (by omega)
  rw [Int.toNat_natCast] at hp
  have hl := take_len h.sz i (by omega)
  rw [hp, rowP_row, splice, splice_get _ _ _ (by rw [rowsD_len h.sz]; simp; omega), if_neg (by simp), rowsD_cut h.sz i hi, hp, List.getElem?_append_right (by omega), hl]
  simp [Pair.row]
theorem put_store {ys : List (List PD)} (h : isP ys) (i : Nat) (hi : i < ys.length) (value : ByteArray) (n : Int) (hn : n = IntKind.wrap .i64 ((rowP (ys.getD i [])).version + 1)) :
    splice (splice (rowsD ys) (i * 3 + 1) [.d (.sc (.string value))]) (i * 3 + 2) [.d (.sc (.int .i64 n))] = rowsD (setP ys i value) := by
  obtain ⟨p, hp⟩ := h.row (i := i) (by omega) (by omega)
  rw [Int.toNat_natCast] at hp
  have hl := take_len h.sz i (by omega)
  subst hn
  unfold setP
  rw [rowsD_set h.sz i hi, rowsD_cut h.sz i hi, hp, rowP_row]
  obtain ⟨a, ha⟩ : ∃ a, a = rowsD (ys.take i) := ⟨_, rfl⟩
  obtain ⟨b, hb⟩ : ∃ b, b = rowsD (ys.drop (i + 1)) := ⟨_, rfl⟩
  rw [← ha] at hl
  rw [← ha, ← hb]
  simp only [Pair.row, List.map_cons, List.map_nil, List.cons_append, List.nil_append]
  have e1 : ∀ (x y z w : DV), splice (a ++ x :: y :: z :: b) (i * 3 + 1) [w] = a ++ x :: w :: z :: b := by
    intro x y z w
    rw [splice, ← hl, List.take_append, List.drop_append]
    simp [List.take_of_length_le, show a.length + 1 + 1 - a.length = 2 by omega, List.drop_eq_nil_of_le (show a.length ≤ a.length + 1 + 1 by omega)]
  have e2 : ∀ (x y z w : DV), splice (a ++ x :: y :: z :: b) (i * 3 + 2) [w] = a ++ x :: y :: w :: b := by
    intro x y z w
    rw [splice, ← hl, List.take_append, List.drop_append]
    simp [List.take_of_length_le, show a.length + 2 + 1 - a.length = 3 by omega, List.drop_eq_nil_of_le (show a.length ≤ a.length + 2 + 1 by omega)]
  rw [e1, e2]
theorem setP_new {xs : List (List PD)} {i : Nat} (hi : i ≤ xs.length) (key value : ByteArray) : setP (xs.take i ++ [Pair.row ⟨key, none8, 0⟩] ++ xs.drop i) i value = newP xs i key value := by
  have hl : (xs.take i).length = i := by rw [List.length_take]; omega
  have hg : (xs.take i ++ [Pair.row ⟨key, none8, 0⟩] ++ xs.drop i).getD i [] = Pair.row ⟨key, none8, 0⟩ := by
    rw [List.getD_eq_getElem?_getD, List.append_assoc, List.getElem?_append_right (by omega), hl]
    simp
  unfold setP newP
  rw [hg, rowP_row, List.append_assoc, List.set_append_right _ _ (by omega), hl]
  simp [show IntKind.wrap .i64 (1 : Int) = 1 from rfl]
/-- The pair that is to be stored in stands in a row of one's own. -/
def PutF (cells : List DV) (m k : Nat) (value : ByteArray) (r : List (List PD)) : Prop := ∃ ys, cells = rowsD ys ∧ isP ys ∧ k < ys.length ∧ m = ys.length ∧ setP ys k value = r
theorem put_ins {xs : List (List PD)} (hp : isP xs) (hl : xs.length < 32) {k : Nat} (hk : k ≤ xs.length) (key value : ByteArray) {cs ics : List DV} {m m' : Nat} (hcs : cs = rowsD xs) (hm : m = xs.length)
    (h1 : ics = insR cs [.d (.sc (.string key)), .d (.sc (.string none8)), .d (.sc (.int .i64 0))] (k : Int)) (h2 : m' = m + 1) : PutF ics m' k value (newP xs k key value) := by
  subst hcs hm h1 h2
  refine ⟨xs.take k ++ [Pair.row ⟨key, none8, 0⟩] ++ xs.drop k, insR_rows hp.sz k hk (Pair.row ⟨key, none8, 0⟩), hp.ins (by omega) k _, ?_, ?_, setP_new hk key value⟩
  · simp only [List.length_append, List.length_take, List.length_drop, List.length_singleton]; omega
  · simp only [List.length_append, List.length_take, List.length_drop, List.length_singleton]; omega
theorem put_nil {k : Nat} (hk : k = 0) (key value : ByteArray) {ics : List DV} {m' : Nat} (h1 : ics = [.d (.sc (.string key)), .d (.sc (.string none8)), .d (.sc (.int .i64 0))]) (h2 : m' = 1) : PutF ics m' k value (newP [] k key value) := by
  subst hk h1 h2
  exact ⟨[Pair.row ⟨key, none8, 0⟩], rfl, ⟨[⟨key, none8, 0⟩], rfl, by simp⟩, by simp, by simp, setP_new (xs := []) (Nat.le_refl _) key value⟩
theorem PutF.isP {cells : List DV} {m k : Nat} {value : ByteArray} {r : List (List PD)} (h : PutF cells m k value r) : isP r := by
  obtain ⟨ys, _, h1, _, _, rfl⟩ := h
  exact h1.set _ _
theorem setP_len (ys : List (List PD)) (k : Nat) (value : ByteArray) : (setP ys k value).length = ys.length := by simp [setP]
theorem ret_slice2 {r : DV} {st : Store} {sz b ver n : Nat} {xs : List (List PD)} {bx : Box} {p : PD} (hb : st[b]? = some bx) (hl : bx.live = true) (hv : ver = bx.ver) (hn : n = xs.length) (hcells : bx.cells = rowsD xs) (hsz : ∀ x ∈ xs, x.length = sz) (hr : r = .tup [.d (.slc sz xs), .d p]) :
    RetW 0 (fun x st => st = [] ∧ pureD x = true ∧ x = r) (.tup [.view sz b ver 0 n, .d p]) st := by
  subst hv; subst hn; subst hr
  have h1 : TellsV 0 (.tup [.view sz b bx.ver 0 xs.length, .d p]) st (.tup [.d (.slc sz xs), .d p]) (fzSt b sz xs st) := TellsV.turn (Turn.freeze b sz xs bx hb hl (Nat.zero_le _) hcells hsz) (by simp [fzD, fzL])
  obtain ⟨d', st', h2, h3⟩ := ret_v (r := .tup [.d (.slc sz xs), .d p]) (d := .tup [.d (.slc sz xs), .d p]) (st := fzSt b sz xs st) rfl rfl
  exact ⟨d', st', TellsV.trans h1 h2, h3⟩
theorem load1 {l : List DV} {i : Nat} {d : DV} (h : l[i]? = some d) : i + 1 ≤ l.length ∧ List.take 1 (List.drop i l) = [d] := by
  have hl : i < l.length := (List.getElem?_eq_some_iff.1 h).1
  refine ⟨hl, ?_⟩
  rw [List.drop_eq_getElem_cons hl]
  simp [(List.getElem?_eq_some_iff.1 h).2]
theorem splice1_length (l : List DV) (i : Nat) (d : DV) (h : i + 1 ≤ l.length) : (splice l i [d]).length = l.length := by
  simp only [splice, List.length_append, List.length_take, List.length_drop, List.length_cons, List.length_nil]; omega
theorem upd2 {sz : Nat} {p : PD} : UpD (.tup [.d (.sc (.slice none 0 0)), .d p]) (.tup [.d (.slc sz []), .d p]) := by
  exact ⟨_, rfl, UpL.nil (UpL.keep UpL.done)⟩

structure FsH where
  put : List (List PD) → ByteArray → ByteArray → List (List PD) × Int
  isP : List (List PD) → Prop
def FsH0 : FsH where
  put := putX
  isP := isP
set_option maxRecDepth 100000 in
theorem v_put (xs : List (List PD)) (key : ByteArray) (value : ByteArray) (hp0 : FsH0.isP xs) : FnV Try.prog 9 [.d (.slc 3 xs), strD key, strD value] (.tup [.d (.slc 3 ((putX xs key value)).1), intD (((putX xs key value)).2)]) := by
  have hr := findX_range xs key
  have hsz := hp0.sz
  obtain ⟨GFsP, hGFsP⟩ : ∃ F, F = FsP0 := ⟨_, rfl⟩
  have hH : SoundK Try.prog [kn_find GFsP] := by subst hGFsP; exact orK_ok ok_find noK_ok
  refine FnD_cbv (T := fun _ => tabY [37, 38, 41, 42, 45, 46] []) (H := fun _ => [kn_find GFsP]) (tabY_ok _ _) hH follows_mixed Try.func9 rfl Try.ntmps9 (by simp) fun A X W hA hX hW => ?_
  clear hH
  cbv
  repeat' first
    | (refine part (fun h => ?_) (fun h => ?_) <;> try cbv)
    | (refine And.intro ?_ ?_)
  all_goals try
    refine callL hX ((w_clone xs hp0).mono ?_)
    rintro r st (⟨hx, rfl, rfl⟩ | ⟨v, m, cs, hcs, hm, rfl, rfl⟩) <;> cbv
  repeat' first
    | (refine part (fun h => ?_) (fun h => ?_) <;> try cbv)
    | (refine And.intro ?_ ?_)
  all_goals try
    refine callL hX ((w_insertN2 _ 0 _ rfl ?_).mono ?_)
    rotate_left
    rintro r st ⟨ics, m', v', hics, hm', hv', rfl, rfl⟩
    cbv
    rotate_left
  all_goals try
    refine callL hX ((w_ins2 cs _ m ((findX xs key).1.toNat) _ v 0 ?_ rfl ?_ ?_ ?_).mono ?_)
    rotate_left 4
    rintro r st ⟨ics, m', v', hics, hm', ⟨rfl, rfl⟩ | ⟨st0, rfl, rfl⟩⟩ <;> cbv
    rotate_left 2
  repeat' first
    | (refine part (fun h => ?_) (fun h => ?_) <;> try cbv)
    | (refine And.intro ?_ ?_)
  all_goals subst hA hX hW hGFsP
  all_goals try clear hH
  all_goals simp only [A0, nc, FsP0, Bool.not_eq_true', Bool.not_eq_false'] at *
  all_goals have e0 : xs = [] → (findX xs key).1 = 0 ∧ (findX xs key).2 = false := by rintro rfl; exact ⟨rfl, rfl⟩
  all_goals try unfold putX
  all_goals generalize findX xs key = q at *
  all_goals obtain ⟨i0, ok⟩ := q
  all_goals simp only at *
  all_goals obtain ⟨k, rfl⟩ : ∃ k : Nat, i0 = k := ⟨i0.toNat, by omega⟩
  all_goals have hk : k ≤ xs.length := by omega
  all_goals have hk2 : ok = true → k < xs.length := fun h => by have := hr.2.2 h; omega
  all_goals try simp only [Int.toNat_natCast, Nat.zero_add]
  all_goals first
    | assumption
    | (simp; done)
    | (simp_all; done)
    | skip
  all_goals first
    | (have hh := ‹ok = false›
       have hh2 := ‹(bif !ok then decide ((32 : Int) ≤ (xs.length : Int)) else false) = false›
       subst hh
       have hl : xs.length < 32 := by simp at hh2; omega
       have F : PutF ics m' k value (newP xs k key value) := by
         first
           | exact put_ins hp0 hl hk key value hcs hm hics hm'
           | (subst hx; exact put_nil (by have := (e0 rfl).1; omega) key value hics hm')
       obtain ⟨ys, hc, hpy, hky, hmy, hset⟩ := F
       have hL := put_load hpy k hky value
       have h3 := rowsD_len hpy.sz
       clear hics
       subst hc
       first
       | omega
       | (rw [splice1_length _ _ _ (by omega)]; omega)
       | (have hq := load1 hL
          simp only [hL]
          exact ⟨rfl, hq⟩)
       | (have hS := put_store hpy k hky value _ rfl
          rw [if_neg (by simp), if_neg (by omega)]
          refine ret_slice2 (xs := setP ys k value) rfl rfl rfl ?_ ?_ ?_ ?_
          · rw [setP_len]; exact hmy
          · simp only [hL]; exact hS
          · exact (hpy.set k _).sz
          · rw [hset]; rfl)
       | skip)
    | (have hh := ‹ok = true›
       subst hh
       have hky := hk2 rfl
       have hL := put_load hp0 k hky value
       have h3 := rowsD_len hp0.sz
       subst hcs hm
       first
       | omega
       | (rw [splice1_length _ _ _ (by omega)]; omega)
       | (have hq := load1 hL
          simp only [hL]
          exact ⟨rfl, hq⟩)
       | (have hS := put_store hp0 k hky value _ rfl
          rw [if_pos rfl]
          refine ret_slice2 (xs := setP xs k value) rfl rfl rfl ?_ ?_ ?_ ?_
          · rw [setP_len]
          · simp only [hL]; exact hS
          · exact (hp0.set k _).sz
          · rfl)
       | skip)
    | (subst hcs hm; rw [rowsD_len hp0.sz]; done)
    | (have hh := ‹ok = false›
       have hh2 := ‹(bif !ok then decide ((32 : Int) ≤ (xs.length : Int)) else false) = false›
       subst hh
       have hl : xs.length < 32 := by simp at hh2; omega
       omega)
    | (have hh := ‹(bif !ok then decide ((32 : Int) ≤ (xs.length : Int)) else false) = true›
       cases ok with
       | true => simp at hh
       | false =>
         have hl : 32 ≤ xs.length := by
           replace hh : decide ((32 : Int) ≤ (xs.length : Int)) = true := hh
           have := of_decide_eq_true hh
           omega
         refine ret_up ?_ ?_
         · rw [if_neg (by simp), if_pos hl]
           exact upd2
         · rfl)
def kn_put (F : FsH) : FuncId × (List DV → RV) := (9, fun args => match args with
  | [.d (.slc 3 xs), .d (.sc (.string key)), .d (.sc (.string value))] => some ([F.isP xs], .tup [.d (.slc 3 ((F.put xs key value)).1), intD (((F.put xs key value)).2)])
  | [.d (.sc (.slice none 0 0)), .d (.sc (.string key)), .d (.sc (.string value))] => some ([F.isP []], .tup [.d (.slc 3 ((F.put [] key value)).1), intD (((F.put [] key value)).2)])
  | _ => none)
theorem ok_put (args : List DV) (cs : List Prop) (r : DV) (h : (kn_put FsH0).2 args = some (cs, r)) (hc : allP cs True) : FnV Try.prog 9 args r ∧ closedL 0 args = true := by
  unfold kn_put at h
  simp only at h
  split at h
  · cases h; exact ⟨v_put _ _ _ hc.1, rfl⟩
  · cases h; exact ⟨FnP.nils (v_put [] _ _ hc.1) ⟨.inr ⟨rfl, _, rfl⟩, ⟨.inl rfl, ⟨.inl rfl, trivial⟩⟩⟩, rfl⟩
  · cases h
end Go.Proofs.Ytbceikkjogbgeaa
namespace Go.Proofs.Ytbceikkjogbgeaa
open Go.RowKit
set_option linter.all false

theorem w_del2 (cs : List DV) (n k : Nat) (i j : Int) (v : Nat) (hcs : cs.length = n * 3) (hi : i = k) (hj : j = (k + 1 : Nat)) (h1 : k < n) (hn : n ≤ 4194304) :
    FnD Try.prog 27 [.view 3 0 v 0 n, .d (.sc (.int .i64 i)), .d (.sc (.int .i64 j))] [⟨29, cs, true, v, true⟩]
      (fun r st' => ∃ ics m' v', ics = delR cs k ∧ m' = n - 1 ∧ r = .view 3 0 v' 0 m' ∧ st' = [⟨29, ics, true, v', true⟩]) := by
  rcases Nat.lt_or_ge (k + 1) n with h | h
  · refine (w_delete cs n k i j v hcs hi hj h hn).mono ?_
    rintro r st ⟨rfl, rfl⟩
    exact ⟨_, _, _, rfl, rfl, rfl, rfl⟩
  · refine (w_deleteE cs n k i j v hcs hi hj (by omega) hn).mono ?_
    rintro r st ⟨rfl, rfl⟩
    exact ⟨_, _, _, rfl, rfl, rfl, rfl⟩
/-- A pair taken out. -/
def delP (xs : List (List PD)) (i : Nat) : List (List PD) := xs.take i ++ xs.drop (i + 1)
def delX (xs : List (List PD)) (key : ByteArray) : List (List PD) × Bool :=
  if (findX xs key).2 = true then (delP xs (findX xs key).1.toNat, true) else (xs, false)
theorem isP.del {xs : List (List PD)} (h : isP xs) (i : Nat) : isP (delP xs i) := by
  obtain ⟨ps, rfl, hl⟩ := h
  refine ⟨ps.take i ++ ps.drop (i + 1), by simp [delP, pairsX, List.map_take, List.map_drop], ?_⟩
  simp only [List.length_append, List.length_take, List.length_drop]
  omega
theorem delP_len {xs : List (List PD)} {i : Nat} (hi : i < xs.length) : (delP xs i).length = xs.length - 1 := by
  simp only [delP, List.length_append, List.length_take, List.length_drop]; omega
theorem delR_rows {xs : List (List PD)} (h : ∀ x ∈ xs, x.length = 3) (i : Nat) (hi : i < xs.length) : delR (rowsD xs) (i : Int) = rowsD (delP xs i) := by
  have e : rowsD xs = rowsD (xs.take i) ++ rowsD (xs.drop i) := by rw [← rowsD_append, List.take_append_drop]
  have e2 : rowsD xs = rowsD (xs.take (i + 1)) ++ rowsD (xs.drop (i + 1)) := by rw [← rowsD_append, List.take_append_drop]
  have hl := take_len h i (by omega)
  have hl2 := take_len h (i + 1) hi
  simp only [delR, Int.toNat_natCast, delP, rowsD_append]
  congr 1
  · rw [e, List.take_append_of_le_length (by omega), List.take_of_length_le (by omega)]
  · rw [e2, List.drop_append_of_le_length (by omega), List.drop_eq_nil_of_le (by omega), List.nil_append]
theorem upd2b {sz : Nat} {p : PD} : UpD (.tup [.d (.sc (.slice none 0 0)), .d p]) (.tup [.d (.slc sz []), .d p]) := upd2

structure FsDl where
  del : List (List PD) → ByteArray → List (List PD) × Bool
  isP : List (List PD) → Prop
def FsDl0 : FsDl where
  del := delX
  isP := isP
set_option maxRecDepth 100000 in
theorem v_del (xs : List (List PD)) (key : ByteArray) (hp0 : FsDl0.isP xs) : FnV Try.prog 10 [.d (.slc 3 xs), strD key] (.tup [.d (.slc 3 ((delX xs key)).1), boolD (((delX xs key)).2)]) := by
  have hr := findX_range xs key
  have hsz := hp0.sz
  obtain ⟨GFsP, hGFsP⟩ : ∃ F, F = FsP0 := ⟨_, rfl⟩
  have hH : SoundK Try.prog [kn_find GFsP] := by subst hGFsP; exact orK_ok ok_find noK_ok
  refine FnD_cbv (T := fun _ => tabY [] []) (H := fun _ => [kn_find GFsP]) (tabY_ok _ _) hH follows_mixed Try.func10 rfl Try.ntmps10 (by simp) fun A X W hA hX hW => ?_
  clear hH
  cbv
  repeat' first
    | (refine part (fun h => ?_) (fun h => ?_) <;> try cbv)
    | (refine And.intro ?_ ?_)
  all_goals try
    refine callL hX ((w_clone xs hp0).mono ?_)
    rintro r st (⟨hx, rfl, rfl⟩ | ⟨v, m, cs, hcs, hm, rfl, rfl⟩) <;> cbv
  repeat' first
    | (refine part (fun h => ?_) (fun h => ?_) <;> try cbv)
    | (refine And.intro ?_ ?_)
  all_goals try
    refine callL hX ((w_del2 cs m ((findX xs key).1.toNat) _ _ v ?_ ?_ ?_ ?_ ?_).mono ?_)
    rotate_left 5
    rintro r st ⟨ics, m', v', hics, hm', rfl, rfl⟩ <;> cbv
    rotate_left 5
  repeat' first
    | (refine part (fun h => ?_) (fun h => ?_) <;> try cbv)
    | (refine And.intro ?_ ?_)
  all_goals subst hA hX hW hGFsP
  all_goals try clear hH
  all_goals simp only [A0, nc, FsP0, Bool.not_eq_true', Bool.not_eq_false'] at *
  all_goals have e0 : xs = [] → (findX xs key).1 = 0 ∧ (findX xs key).2 = false := by rintro rfl; exact ⟨rfl, rfl⟩
  all_goals try unfold delX
  all_goals generalize findX xs key = q at *
  all_goals obtain ⟨i0, ok⟩ := q
  all_goals simp only at *
  all_goals obtain ⟨k, rfl⟩ : ∃ k : Nat, i0 = k := ⟨i0.toNat, by omega⟩
  all_goals have hk : k ≤ xs.length := by omega
  all_goals have hk2 : ok = true → k < xs.length := fun h => by have := hr.2.2 h; omega
  all_goals try simp only [Int.toNat_natCast, Nat.zero_add]
  all_goals first
    | assumption
    | (simp; done)
    | (simp_all; done)
    | skip
  all_goals first
    | (subst hcs hm; rw [rowsD_len hp0.sz]; done)
    | (subst hcs hm; have := hp0.len; omega)
    | (have hh := ‹ok = true›
       have h1 := hk2 hh
       have h2 := hp0.len
       rw [wrap_i64 (by unfold r64; omega)]
       omega)
    | (have hh := ‹ok = false›
       rw [if_neg (by rw [hh]; simp)]
       first
         | (subst hx; exact ret_up upd2 rfl)
         | (refine ret_slice2 (xs := xs) rfl rfl rfl hm hcs hsz rfl))
    | (have hh := ‹ok = true›
       have hky := hk2 hh
       rw [if_pos hh]
       subst hm
       refine ret_slice2 (xs := delP xs k) rfl rfl rfl ?_ ?_ ?_ rfl
       · rw [delP_len hky]; exact hm'
       · rw [hics, hcs]; exact delR_rows hsz k hky
       · exact (hp0.del k).sz)

def kn_del (F : FsDl) : FuncId × (List DV → RV) := (10, fun args => match args with
  | [.d (.slc 3 xs), .d (.sc (.string key))] => some ([F.isP xs], .tup [.d (.slc 3 ((F.del xs key)).1), boolD (((F.del xs key)).2)])
  | [.d (.sc (.slice none 0 0)), .d (.sc (.string key))] => some ([F.isP []], .tup [.d (.slc 3 ((F.del [] key)).1), boolD (((F.del [] key)).2)])
  | _ => none)
theorem ok_del (args : List DV) (cs : List Prop) (r : DV) (h : (kn_del FsDl0).2 args = some (cs, r)) (hc : allP cs True) : FnV Try.prog 10 args r ∧ closedL 0 args = true := by
  unfold kn_del at h
  simp only at h
  split at h
  · cases h; exact ⟨v_del _ _ hc.1, rfl⟩
  · cases h; exact ⟨FnP.nils (v_del [] _ hc.1) ⟨.inr ⟨rfl, _, rfl⟩, ⟨.inl rfl, trivial⟩⟩, rfl⟩
  · cases h
end Go.Proofs.Ytbceikkjogbgeaa
namespace Go.Proofs.Ytbceikkjogbgeaa
open Go.RowKit
set_option linter.all false

structure Span where
  lo : ByteArray
  hi : ByteArray
  deriving DecidableEq
def Span.D (x : Span) : DV := .agg [strD x.lo, strD x.hi]
def under (k h : ByteArray) : Bool := decide (h = none8) || ltb k h
def hasS (s : Span) (k : ByteArray) : Bool := !ltb k s.lo && under k s.hi
deriving instance DecidableEq for Pair
def sameX (xs ys : List (List PD)) : Bool := decide (pairsOf xs = pairsOf ys)
theorem pairsX_inj : ∀ {ps qs : List Pair}, pairsX ps = pairsX qs ↔ ps = qs
  | [], [] => by simp [pairsX]
  | [], q :: qs => by simp [pairsX]
  | p :: ps, [] => by simp [pairsX]
  | ⟨a, b, c⟩ :: ps, ⟨d, e, f⟩ :: qs => by
      have := @pairsX_inj ps qs
      simp only [pairsX, List.map_cons, List.cons.injEq, Pair.row, Pair.mk.injEq] at this ⊢
      simp [this, and_assoc]

structure FsS where
  under : ByteArray → ByteArray → Bool
  has : Span → ByteArray → Bool
  same : List (List PD) → List (List PD) → Bool
  isP : List (List PD) → Prop
def FsS0 : FsS where
  under := under
  has := hasS
  same := sameX
  isP := isP
set_option maxRecDepth 100000 in
theorem v_under (k : ByteArray) (h : ByteArray) : FnV Try.prog 28 [strD k, strD h] (boolD ((under k h))) := by
  refine FnD_cbv (T := fun _ => tabY [] []) (H := fun _ => []) (tabY_ok _ _) noK_ok follows_mixed Try.func28 rfl Try.ntmps28 (by simp) fun A X W hA hX hW => ?_
  cbv
  repeat' first
    | (refine part (fun h => ?_) (fun h => ?_) <;> try cbv)
    | (refine And.intro ?_ ?_)
  all_goals subst hA hX hW
  all_goals try (show Region.lexB _ _ = true; kernel_rfl)
  all_goals try (show turnsB _ = true; kernel_rfl)
  all_goals simp only [A0, FsS0, decide_eq_true_eq, decide_eq_false_iff_not, Bool.not_eq_true', Bool.not_eq_false'] at *
  all_goals first
    | (refine ret_v ?_ rfl
       first
         | rfl
         | (simp_all [under, boolD, intD, strD]; done)
         | (simp_all [under, boolD, intD, strD]; rfl)
         | (simp only [under, boolD, intD, strD] at *; congr 3; grind)
         | (simp only [under, boolD, intD, strD] at *; grind))
    | (intros; simp_all [bytes1, maxLen]; done)
    | (intros; simp only [bytes1, maxLen] at *; omega)
    | grind
def kn_under (F : FsS) : FuncId × (List DV → RV) := (28, fun args => match args with
  | [.d (.sc (.string k)), .d (.sc (.string h))] => some ([], boolD ((F.under k h)))
  | _ => none)
theorem ok_under (args : List DV) (cs : List Prop) (r : DV) (h : (kn_under FsS0).2 args = some (cs, r)) (hc : allP cs True) : FnV Try.prog 28 args r ∧ closedL 0 args = true := by
  unfold kn_under at h
  simp only at h
  split at h
  · cases h; exact ⟨v_under _ _, rfl⟩
  · cases h
set_option maxRecDepth 100000 in
theorem v_has (s : Span) (k : ByteArray) : FnV Try.prog 15 [Span.D s, strD k] (boolD ((hasS s k))) := by
  obtain ⟨s_lo, s_hi⟩ := s
  obtain ⟨F, hF⟩ : ∃ F, F = FsS0 := ⟨_, rfl⟩
  have hH : SoundK Try.prog [kn_under F] := by subst hF; exact orK_ok ok_under noK_ok
  refine FnD_cbv (T := fun _ => tabY [] []) (H := fun _ => [kn_under F]) (tabY_ok _ _) hH follows_mixed Try.func15 rfl Try.ntmps15 (by simp) fun A X W hA hX hW => ?_
  clear hH
  cbv
  repeat' first
    | (refine part (fun h => ?_) (fun h => ?_) <;> try cbv)
    | (refine And.intro ?_ ?_)
  all_goals subst hA hX hW hF
  all_goals try (show Region.lexB _ _ = true; kernel_rfl)
  all_goals try (show turnsB _ = true; kernel_rfl)
  all_goals simp only [A0, FsS0, decide_eq_true_eq, decide_eq_false_iff_not, Bool.not_eq_true', Bool.not_eq_false'] at *
  all_goals first
    | (refine ret_v ?_ rfl
       first
         | rfl
         | (simp_all [hasS, Span.D, boolD, intD, strD]; done)
         | (simp_all [hasS, Span.D, boolD, intD, strD]; rfl)
         | (simp only [hasS, Span.D, boolD, intD, strD] at *; congr 3; grind)
         | (simp only [hasS, Span.D, boolD, intD, strD] at *; grind))
    | (intros; simp_all [bytes1, maxLen]; done)
    | (intros; simp only [bytes1, maxLen] at *; omega)
    | grind
def kn_has (F : FsS) : FuncId × (List DV → RV) := (15, fun args => match args with
  | [.agg [.d (.sc (.string s_lo)), .d (.sc (.string s_hi))], .d (.sc (.string k))] => some ([], boolD ((F.has ⟨s_lo, s_hi⟩ k)))
  | _ => none)
theorem ok_has (args : List DV) (cs : List Prop) (r : DV) (h : (kn_has FsS0).2 args = some (cs, r)) (hc : allP cs True) : FnV Try.prog 15 args r ∧ closedL 0 args = true := by
  unfold kn_has at h
  simp only at h
  split at h
  · cases h; exact ⟨v_has ⟨_, _⟩ _, rfl⟩
  · cases h
set_option maxRecDepth 100000 in
theorem v_same (xs : List (List PD)) (ys : List (List PD)) (hp0 : FsS0.isP xs) (hp1 : FsS0.isP ys) : FnV Try.prog 13 [.d (.slc 3 xs), .d (.slc 3 ys)] (boolD ((sameX xs ys))) := by
  obtain ⟨ps, hxs, hb⟩ := hp0
  obtain ⟨qs, hys, hd⟩ := hp1
  have hlx : xs.length = ps.length := by rw [hxs]; exact pairsX_length ps
  have hly : ys.length = qs.length := by rw [hys]; exact pairsX_length qs
  have heq : xs = ys ↔ ps = qs := by rw [hxs, hys]; exact pairsX_inj
  have hsame : sameX xs ys = decide (ps = qs) := by unfold sameX; rw [hxs, hys, pairsOf_X, pairsOf_X]
  rw [hsame]
  obtain ⟨sm, hsm⟩ : ∃ sm, sm = decide (ps = qs) := ⟨_, rfl⟩
  rw [← hsm]
  refine FnD_cbv (T := fun _ => tabY [19, 23] []) (H := fun _ => []) (tabY_ok _ _) noK_ok follows_mixed Try.func13 rfl Try.ntmps13 (by simp) fun A X W hA hX hW => ?_
  cbv
  refine part (fun h => ?_) (fun h => ?_)
  · cbv
    subst hA hX hW
    simp only [A0] at h
    refine ret_v ?_ rfl
    have hne : ¬ ps = qs := by
      intro e
      have e2 := heq.2 e
      subst e2
      simp at h
    subst hsm
    simp [boolD, hne]
  · cbv
    refine loopL (T := fun _ => tabY [19, 23] []) (H := fun _ => []) (tabY_ok _ _) noK_ok follows_mixed hA hX (fun i : Int => 0 ≤ i ∧ i ≤ ps.length ∧ ps.take i.toNat = qs.take i.toNat)
      (fun i => [(0, .d (.slc 3 xs)), (1, .d (.slc 3 ys)), (5, .d (.sc (.int .i64 i)))]) (fun _ => [])
      (fun i => (ps.length : Int).toNat - i.toNat) 0 ?_ ?_ ?_
    · exact ⟨by omega, by omega, by simp⟩
    · exact told_less (by simp [toldP, getS])
    rintro R i hR ⟨i0, i1, i2⟩
    cbv
    have hlen : ps.length = qs.length := by
      subst hA
      simp only [A0] at h
      simp only [Bool.not_eq_false', decide_eq_true_eq] at h
      omega
    repeat' first
      | (refine part (fun h => ?_) (fun h => ?_) <;> try cbv)
      | (refine And.intro ?_ ?_)
    all_goals subst hA hX hW hR
    all_goals simp only [A0, nc, decide_eq_true_eq, decide_eq_false_iff_not, Bool.not_eq_true', Bool.not_eq_false'] at *
    all_goals replace i1 : i ≤ (ps.length : Int) := i1
    all_goals have ei : IntKind.wrap .i64 (i + 1) = i + 1 := wrap_i64 (by unfold r64; omega)
    all_goals try
      have hi : i < ps.length := by omega
      have hj : i.toNat < ps.length := by omega
      have hj2 : i.toNat < qs.length := by omega
      have hrx := prow hxs i0 hi
      have hry := prow hys i0 (by omega)
      have ht1 := List.take_succ_eq_append_getElem hj
      have ht2 := List.take_succ_eq_append_getElem hj2
      have hg1 : ps[i.toNat]? = some (ps[i.toNat]'(by omega)) := List.getElem?_eq_getElem hj
      have hg2 : qs[i.toNat]? = some (qs[i.toNat]'(by omega)) := List.getElem?_eq_getElem hj2
      generalize ps[i.toNat]'(by omega) = p at hrx ht1 hg1
      generalize qs[i.toNat]'(by omega) = q at hry ht2 hg2
      simp only [hrx, hry, Pair.row, List.map_cons, List.map_nil, Nat.zero_add, List.getElem?_cons_zero, List.getElem?_cons_succ] at *
    all_goals first
      | rfl
      | (show Region.lexB _ _ = true; kernel_rfl)
      | (show turnsB _ = true; kernel_rfl)
      | omega
      | (refine ⟨by omega, by omega⟩)
      | (simp; done)
      | (have h4 := ‹(decide (p.key = q.key) && (decide (p.value = q.value) && (decide (p.version = q.version) && true))) = false›
         refine ret_v ?_ rfl
         have hne : ¬ ps = qs := by
           intro e
           subst e
           rw [hg1] at hg2
           cases hg2
           simp at h4
         subst hsm
         simp [boolD, hne]
         done)
      | (have h4 := ‹(decide (p.key = q.key) && (decide (p.value = q.value) && (decide (p.version = q.version) && true))) = true›
         have he : p = q := by
           simp only [Bool.and_true, Bool.and_eq_true, decide_eq_true_eq] at h4
           obtain ⟨a, b, c⟩ := p
           obtain ⟨d, e, f⟩ := q
           simp only at h4
           obtain ⟨rfl, rfl, rfl⟩ := h4
           rfl
         refine ⟨i + 1, ⟨by omega, by omega, ?_⟩, ?_, told_less ?_⟩
         · rw [show (i + 1).toNat = i.toNat + 1 by omega, ht1, ht2, i2, he]
         · simp only [Int.toNat_natCast]
           omega
         · simp [toldP, getS, ei])
      | (replace h : ¬ i < (xs.length : Int) := h
         refine ret_v ?_ rfl
         have hil : i.toNat = ps.length := by omega
         rw [hil, List.take_length] at i2
         have e : ps = qs := by rw [i2, hlen, List.take_length]
         subst hsm
         simp [boolD, e])
def kn_same (F : FsS) : FuncId × (List DV → RV) := (13, fun args => match args with
  | [.d (.slc 3 xs), .d (.slc 3 ys)] => some ([F.isP xs, F.isP ys], boolD ((F.same xs ys)))
  | [.d (.sc (.slice none 0 0)), .d (.slc 3 ys)] => some ([F.isP [], F.isP ys], boolD ((F.same [] ys)))
  | [.d (.slc 3 xs), .d (.sc (.slice none 0 0))] => some ([F.isP xs, F.isP []], boolD ((F.same xs [])))
  | [.d (.sc (.slice none 0 0)), .d (.sc (.slice none 0 0))] => some ([F.isP [], F.isP []], boolD ((F.same [] [])))
  | _ => none)
theorem ok_same (args : List DV) (cs : List Prop) (r : DV) (h : (kn_same FsS0).2 args = some (cs, r)) (hc : allP cs True) : FnV Try.prog 13 args r ∧ closedL 0 args = true := by
  unfold kn_same at h
  simp only at h
  split at h
  · cases h; exact ⟨v_same _ _ hc.1 hc.2.1, rfl⟩
  · cases h; exact ⟨FnP.nils (v_same [] _ hc.1 hc.2.1) ⟨.inr ⟨rfl, _, rfl⟩, ⟨.inl rfl, trivial⟩⟩, rfl⟩
  · cases h; exact ⟨FnP.nils (v_same _ [] hc.1 hc.2.1) ⟨.inl rfl, ⟨.inr ⟨rfl, _, rfl⟩, trivial⟩⟩, rfl⟩
  · cases h; exact ⟨FnP.nils (v_same [] [] hc.1 hc.2.1) ⟨.inr ⟨rfl, _, rfl⟩, ⟨.inr ⟨rfl, _, rfl⟩, trivial⟩⟩, rfl⟩
  · cases h
end Go.Proofs.Ytbceikkjogbgeaa
namespace Go.Proofs.Ytbceikkjogbgeaa
open Go.RowKit
set_option linter.all false

def rangeL (s : Span) : List Pair → List Pair → List Pair × Bool
  | [], acc => (acc, false)
  | p :: ps, acc => if hasS s p.key = true then (if acc.length = 8 then (acc, true) else rangeL s ps (acc ++ [p])) else rangeL s ps acc
def rangeX (xs : List (List PD)) (s : Span) : List (List PD) × Bool := (pairsX (rangeL s (pairsOf xs) []).1, (rangeL s (pairsOf xs) []).2)
def rgS (xs : List (List PD)) (n : Int) : Int → Option (List DV × Nat × Nat) → SL
  | i, none => [(3, .ref 0 0 0), (6, .d (.sc (.slice none 0 0))), (9, .d (.slc 3 xs)), (10, .d (.sc (.int .i64 n))), (11, .d (.sc (.int .i64 i)))]
  | i, some (_, v, m) => [(3, .ref 0 0 0), (6, .view 3 1 v 0 m), (9, .d (.slc 3 xs)), (10, .d (.sc (.int .i64 n))), (11, .d (.sc (.int .i64 i)))]
def rgT (s : Span) : Option (List DV × Nat × Nat) → Store
  | none => [⟨35, [.d (.sc (.string s.lo)), .d (.sc (.string s.hi))], false, 0, true⟩]
  | some (cs, v, _) => [⟨35, [.d (.sc (.string s.lo)), .d (.sc (.string s.hi))], false, 0, true⟩, ⟨29, cs, true, v, true⟩]
def rgI (acc : List Pair) : Option (List DV × Nat × Nat) → Prop
  | none => acc = []
  | some (cs, _, m) => cs = rowsD (pairsX acc) ∧ m = acc.length

structure FsR where
  range : List (List PD) → Span → List (List PD) × Bool
  isP : List (List PD) → Prop
def FsR0 : FsR where
  range := rangeX
  isP := isP
set_option maxRecDepth 100000 in
theorem v_range (xs : List (List PD)) (s : Span) (hp0 : FsR0.isP xs) : FnV Try.prog 12 [.d (.slc 3 xs), Span.D s] (.tup [.d (.slc 3 ((rangeX xs s)).1), boolD (((rangeX xs s)).2)]) := by
  obtain ⟨s_lo, s_hi⟩ := s
  obtain ⟨ps, hxs, hl⟩ := hp0
  have hlen : xs.length = ps.length := by rw [hxs]; exact pairsX_length ps
  have hof : pairsOf xs = ps := by rw [hxs]; exact pairsOf_X ps
  obtain ⟨n, hn⟩ : ∃ n : Int, n = ps.length := ⟨_, rfl⟩
  unfold rangeX
  rw [hof]
  obtain ⟨q, hq⟩ : ∃ q, q = rangeL ⟨s_lo, s_hi⟩ ps [] := ⟨_, rfl⟩
  rw [← hq]
  obtain ⟨GFsS, hGFsS⟩ : ∃ F, F = FsS0 := ⟨_, rfl⟩
  have hH : SoundK Try.prog [kn_has GFsS] := by subst hGFsS; exact orK_ok ok_has noK_ok
  refine FnD_cbv (T := fun _ => tabY [13] []) (H := fun _ => [kn_has GFsS]) (tabY_ok _ _) hH follows_mixed Try.func12 rfl Try.ntmps12 (by simp) fun A X W hA hX hW => ?_
  cbv
  replace hn : n = (ps.length : Int) := hn
  refine loopL (T := fun _ => tabY [13] []) (H := fun _ => [kn_has GFsS]) (tabY_ok _ _) hH follows_mixed hA hX (fun x : Int × List Pair × Option (List DV × Nat × Nat) => (0 ≤ x.1 ∧ x.1 ≤ n) ∧ q = rangeL ⟨s_lo, s_hi⟩ (ps.drop x.1.toNat) x.2.1 ∧ x.2.1.length ≤ 8 ∧ rgI x.2.1 x.2.2)
    (fun x => rgS xs n x.1 x.2.2) (fun x => rgT ⟨s_lo, s_hi⟩ x.2.2)
    (fun x => n.toNat - x.1.toNat) (0, [], none) ?_ ?_ ?_
  · exact ⟨⟨by omega, by omega⟩, hq, by simp, rfl⟩
  · subst hA; exact told_less (by simp [toldP, getS, A0, hn, hlen, rgS])
  rintro R ⟨i, acc, o⟩ hR ⟨hi, i2, i3, i4⟩
  replace hi : 0 ≤ i ∧ i ≤ n := hi
  replace i2 : q = rangeL ⟨s_lo, s_hi⟩ (ps.drop i.toNat) acc := i2
  replace i3 : acc.length ≤ 8 := i3
  have i5 : o = none ∧ acc = [] ∨ ∃ cs v m, o = some (cs, v, m) ∧ cs = rowsD (pairsX acc) ∧ m = acc.length := by
    rcases o with _ | ⟨cs, v, m⟩
    · exact .inl ⟨rfl, i4⟩
    · exact .inr ⟨cs, v, m, rfl, i4⟩
  clear i4
  rcases i5 with ⟨rfl, i4⟩ | ⟨cs, v, m, rfl, hcs, hm⟩ <;>
  cbv
  all_goals
    repeat' first
      | (refine part (fun h => ?_) (fun h => ?_) <;> try cbv)
      | (refine And.intro ?_ ?_)
  all_goals subst hA hX hW hR
  all_goals try clear hH
  all_goals simp only [A0, nc, decide_eq_true_eq, decide_eq_false_iff_not, Bool.not_eq_true', Bool.not_eq_false'] at *
  all_goals try replace hi : 0 ≤ i ∧ i ≤ n := hi
  all_goals replace hn : n = (ps.length : Int) := hn
  all_goals have ei : IntKind.wrap .i64 (i + 1) = i + 1 := wrap_i64 (by unfold r64; omega)
  all_goals try
    have hlt : i < ps.length := by omega
    have hrow := prow hxs hi.1 hlt
    have hd := pdrop hi.1 hlt
    generalize ps[i.toNat]'(by omega) = p at hrow hd
    rw [hd] at i2
    simp only [hrow, Pair.row, List.map_cons, List.map_nil, Nat.zero_add, List.getElem?_cons_zero, List.getElem?_cons_succ] at *
  all_goals first
    | rfl
    | (show Region.lexB _ _ = true; kernel_rfl)
    | (show turnsB _ = true; kernel_rfl)
    | omega
    | (refine ⟨by omega, by omega⟩)
    | (simp; done)
    | (intros; first | assumption | trivial | (simp_all; done))
    | (have h4 := ‹GFsS.has ⟨s_lo, s_hi⟩ p.key = false›
       subst hGFsS
       have h5 : hasS ⟨s_lo, s_hi⟩ p.key = false := h4
       rw [rangeL, if_neg (by rw [h5]; simp)] at i2
       first
         | (subst i4
            refine ⟨(i + 1, [], none), ⟨⟨by show (0 : Int) ≤ i + 1; omega, by show i + 1 ≤ n; omega⟩, i2, i3, rfl⟩, by show n.toNat - (i + 1).toNat < n.toNat - i.toNat; omega, told_keep [0] rfl rfl ?_⟩
            simp [toldP, getS, rgS, pullD, ei]
            done)
         | (refine ⟨(i + 1, acc, some (cs, v, m)), ⟨⟨by show (0 : Int) ≤ i + 1; omega, by show i + 1 ≤ n; omega⟩, i2, i3, hcs, hm⟩, by show n.toNat - (i + 1).toNat < n.toNat - i.toNat; omega, told_keep [0, 1] rfl ?_ ?_⟩
            · simp [keepSt, pullBox, pullL_eq, hcs, pull_rows, pullD, rgT]
            · simp [toldP, getS, rgS, pullD, ei]))
    | (have h4 := ‹GFsS.has ⟨s_lo, s_hi⟩ p.key = true›
       subst hGFsS
       have h5 : hasS ⟨s_lo, s_hi⟩ p.key = true := h4
       rw [rangeL, if_pos h5] at i2
       have hr : rowsD (pairsX [p]) = [.d (.sc (.string p.key)), .d (.sc (.string p.value)), .d (.sc (.int .i64 p.version))] := rfl
       first
         | (subst i4
            rw [if_neg (by simp)] at i2
            refine ⟨(i + 1, [p], some (rowsD (pairsX [p]), 0, 1)), ⟨⟨by show (0 : Int) ≤ i + 1; omega, by show i + 1 ≤ n; omega⟩, i2, by simp, rfl, rfl⟩, by show n.toNat - (i + 1).toNat < n.toNat - i.toNat; omega, told_keep [0, 3] rfl ?_ ?_⟩
            · simp [keepSt, pullBox, pullL_eq, pullD, rgT, hr]
            · simp [toldP, getS, rgS, pullD, ei])
         | (have h8 := ‹(m : Int) = 8›
            rw [if_pos (by omega)] at i2
            rw [i2]
            exact ret_slice2 (xs := pairsX acc) rfl rfl rfl (by rw [hm, pairsX_length]) hcs (isP.sz ⟨acc, rfl, by omega⟩) rfl)
         | (have h8 := ‹¬ (m : Int) = 8›
            rw [if_neg (by omega)] at i2
            refine ⟨(i + 1, acc ++ [p], some (cs ++ rowsD (pairsX [p]), v + 1, m + 1)), ⟨⟨by show (0 : Int) ≤ i + 1; omega, by show i + 1 ≤ n; omega⟩, i2, by show (acc ++ [p]).length ≤ 8; rw [List.length_append, List.length_singleton]; omega, by rw [hcs, ← rowsD_append]; simp [pairsX], by rw [hm]; simp⟩, by show n.toNat - (i + 1).toNat < n.toNat - i.toNat; omega, told_keep [0, 1] rfl ?_ ?_⟩
            · simp [keepSt, pullBox, pullL_eq, pullD, rgT, hr, hcs, pull_rows]
            · simp [toldP, getS, rgS, pullD, ei]))
    | (rw [hcs, rowsD_len (isP.sz ⟨acc, rfl, by omega⟩), hm, pairsX_length]
       done)
    | (rw [show i.toNat = ps.length by omega, List.drop_length] at i2
       rw [i2]
       first
         | (subst i4; exact ret_up upd2 rfl)
         | exact ret_slice2 (xs := pairsX acc) rfl rfl rfl (by rw [hm, pairsX_length]) hcs (isP.sz ⟨acc, rfl, by omega⟩) rfl)
    | skip
  · subst i4
    subst hGFsS
    have h5 : hasS ⟨s_lo, s_hi⟩ p.key = true := h
    rw [rangeL, if_pos h5, if_neg (by simp)] at i2
    have hr : rowsD (pairsX [p]) = [.d (.sc (.string p.key)), .d (.sc (.string p.value)), .d (.sc (.int .i64 p.version))] := rfl
    refine ⟨(i + 1, [p], some (rowsD (pairsX [p]), 0, 1)), ⟨⟨by show (0 : Int) ≤ i + 1; omega, by show i + 1 ≤ n; omega⟩, i2, by simp, rfl, rfl⟩, by show n.toNat - (i + 1).toNat < n.toNat - i.toNat; omega, told_keep [0, 3] rfl ?_ ?_⟩
    · simp [keepSt, pullBox, pullL_eq, pullD, rgT, hr]
    · simp [toldP, getS, rgS, pullD, ei]
      exact ⟨rfl, rfl⟩
  · subst hGFsS
    have h5 : hasS ⟨s_lo, s_hi⟩ p.key = false := h
    rw [rangeL, if_neg (by rw [h5]; simp)] at i2
    refine ⟨(i + 1, acc, some (cs, v, m)), ⟨⟨by show (0 : Int) ≤ i + 1; omega, by show i + 1 ≤ n; omega⟩, i2, i3, hcs, hm⟩, by show n.toNat - (i + 1).toNat < n.toNat - i.toNat; omega, told_keep [0, 1] rfl ?_ ?_⟩
    · simp [keepSt, pullBox, pullL_eq, hcs, pull_rows, pullD, rgT]
    · simp [toldP, getS, rgS, pullD, ei]
      exact ⟨rfl, rfl⟩
  · subst hGFsS
    have h5 : hasS ⟨s_lo, s_hi⟩ p.key = true := h
    have h8 := ‹¬ (m : Int) = 8›
    rw [rangeL, if_pos h5, if_neg (by omega)] at i2
    have hr : rowsD (pairsX [p]) = [.d (.sc (.string p.key)), .d (.sc (.string p.value)), .d (.sc (.int .i64 p.version))] := rfl
    refine ⟨(i + 1, acc ++ [p], some (cs ++ rowsD (pairsX [p]), v + 1, m + 1)), ⟨⟨by show (0 : Int) ≤ i + 1; omega, by show i + 1 ≤ n; omega⟩, i2, by show (acc ++ [p]).length ≤ 8; rw [List.length_append, List.length_singleton]; omega, by rw [hcs, ← rowsD_append]; simp [pairsX], by rw [hm]; simp⟩, by show n.toNat - (i + 1).toNat < n.toNat - i.toNat; omega, told_keep [0, 1] rfl ?_ ?_⟩
    · simp [keepSt, pullBox, pullL_eq, pullD, rgT, hr, hcs, pull_rows]
    · simp [toldP, getS, rgS, pullD, ei]
      exact ⟨rfl, rfl⟩
def kn_range (F : FsR) : FuncId × (List DV → RV) := (12, fun args => match args with
  | [.d (.slc 3 xs), .agg [.d (.sc (.string s_lo)), .d (.sc (.string s_hi))]] => some ([F.isP xs], .tup [.d (.slc 3 ((F.range xs ⟨s_lo, s_hi⟩)).1), boolD (((F.range xs ⟨s_lo, s_hi⟩)).2)])
  | [.d (.sc (.slice none 0 0)), .agg [.d (.sc (.string s_lo)), .d (.sc (.string s_hi))]] => some ([F.isP []], .tup [.d (.slc 3 ((F.range [] ⟨s_lo, s_hi⟩)).1), boolD (((F.range [] ⟨s_lo, s_hi⟩)).2)])
  | _ => none)
theorem ok_range (args : List DV) (cs : List Prop) (r : DV) (h : (kn_range FsR0).2 args = some (cs, r)) (hc : allP cs True) : FnV Try.prog 12 args r ∧ closedL 0 args = true := by
  unfold kn_range at h
  simp only at h
  split at h
  · cases h; exact ⟨v_range _ ⟨_, _⟩ hc.1, rfl⟩
  · cases h; exact ⟨FnP.nils (v_range [] ⟨_, _⟩ hc.1) ⟨.inr ⟨rfl, _, rfl⟩, ⟨.inl rfl, trivial⟩⟩, rfl⟩
  · cases h
end Go.Proofs.Ytbceikkjogbgeaa
namespace Go.Proofs.Ytbceikkjogbgeaa
open Go.RowKit
set_option linter.all false
def setF (T : Unit → Tab) (o : Op) (s : SL) : RV := match o with
  | .buildSlice t len parts => setV T t len (parts.toList.map fun p => (p.1, evL s p.2))
  | _ => none
def rowF (T : Unit → Tab) (A : Ar) (X : Cps) (H : Unit → Kn) (N : Nat) : List Oper → SL → Store → (SL → Store → Prop) → Prop
  | [], s, st, Q => Q s st
  | o :: rest, s, st, Q => match dstB N o.dst, o.guard with
    | true, none => match setF T o.op s with
      | some (cs, d) => allP cs (rowF T A X H N rest (putL o.dst d s) st Q)
      | none => opC T A X H o.op s st fun d st' => rowF T A X H N rest (putL o.dst d s) st' Q
    | _, _ => False
theorem setF_D {P : Program} {T : Unit → Tab} (hT : TabOk P (T ())) {o : Op} {s : SL} {st : Store} {cs : List Prop} {d : DV} (h : setF T o s = some (cs, d)) {K : DV → Store → Prop} (hk : K d st) : opD P o (getS s) st K := by
  unfold setF at h
  split at h
  · exact .inr (setV_D hT (K := fun d => K d st) h hk)
  · cases h
theorem rowF_ok {P : Program} {T : Unit → Tab} (hT : TabOk P (T ())) {H : Unit → Kn} (hH : SoundK P (H ())) {N : Nat} {ops : Array Oper} {Q : Exit → Act → World → Prop} : ∀ (l : List Oper) (s : SL) (E : Env) (a : Act) (K : SL → Store → Prop), Conc E → SlotsOk E N (getS s) a → rowF T A0 (X0 P N) H N l s E.st K →
    (∀ (s' : SL) (a' : Act) (E' : Env), K s' E'.st → Conc E' → Ext E E' → SlotsOk E' N (getS s') a' → Q .normal a' E'.w) → wpList P ops Q l a E.w
  | [], s, E, a, K, hc, hs, h, hn => hn s a E h hc (Ext.refl E) hs
  | o :: rest, s, E, a, K, hc, hs, h, hn => by
      unfold rowF at h
      split at h
      · rename_i hd hg
        have h1 : opD P o.op (getS s) E.st fun d st' => rowF T A0 (X0 P N) H N rest (putL o.dst d s) st' K := by
          split at h
          · rename_i cs d he
            exact setF_D hT he ((allP_iff _ _).1 h).2
          · exact opC_D hT hH h
        have e : (fun d st' => rowF T A0 (X0 P N) H N rest (putL o.dst d s) st' K) = fun d st' => rowF T A0 (X0 P N) H N rest (againL o.dst (putS o.dst d (getS s)) s) st' K ∧ getS (againL o.dst (putS o.dst d (getS s)) s) = putS o.dst d (getS s) := by
          funext d st'
          rw [againL_put, getS_putL]
          simp
        rw [e] at h1
        have hst : stepD P N ops o (getS s) E.st fun s' st' => rowF T A0 (X0 P N) H N rest (againL o.dst s' s) st' K ∧ getS (againL o.dst s' s) = s' := by
          unfold stepD
          have : wantedD ops o.guard (getS s) = some true := by rw [hg]; rfl
          simp only [this]
          exact ⟨dstB_ok hd, h1⟩
        have := step_ok (P := P) (Q := Q) (ops := ops) (next := wpList P ops Q rest) hc hs o hst fun s' a' E' hk h1 hx h3 => by
          rw [← hk.2] at h3
          exact rowF_ok hT hH rest _ E' a' K h1 h3 hk.1 fun s2 a2 E2 k1 k2 k3 k4 => hn s2 a2 E2 k1 k2 (Ext.trans hc.len h1.len hx k3) k4
        unfold wpList
        exact this
      · exact h.elim
theorem regionF {P : Program} {T : Unit → Tab} (hT : TabOk P (T ())) {H : Unit → Kn} (hH : SoundK P (H ())) {N : Nat} {Q : Exit → SL → Store → Prop} {s : SL} {st : Store} {id : Nat} {ops : Array Oper} {A : Ar} {X : Cps} (hA : A = A0) (hX : X = X0 P N)
    (h : rowF T A X H N ops.toList s st (Q .normal)) : X.st (.region id ops false) Q s st := by
  subst hA; subst hX
  obtain ⟨l⟩ := ops
  show wpD P N (.region id l.toArray false) (lessQ Q) (getS s) st
  refine region_less fun E a Q' hst hc hs hn => ?_
  subst hst
  exact rowF_ok hT hH l s E a _ hc hs h hn
end Go.Proofs.Ytbceikkjogbgeaa
namespace Go.Proofs.Ytbceikkjogbgeaa
open Go.RowKit
set_option linter.all false
theorem isP.put {xs : List (List PD)} (h : isP xs) (key value : ByteArray) : isP (putX xs key value).1 := by
  have hr := findX_range xs key
  unfold putX
  split
  · exact h.set _ _
  · split
    · exact isP.nil
    · exact h.ins (by omega) _ _
theorem isP.delX {xs : List (List PD)} (h : isP xs) (key : ByteArray) : isP (delX xs key).1 := by
  unfold Proofs.Ytbceikkjogbgeaa.delX
  split
  · exact h.del _
  · exact h
theorem letter {i : Int} (h0 : 0 ≤ i) (h1 : i < 10) : A0.isby [[.sc (.int .u8 (IntKind.wrap .u8 (IntKind.wrap .i64 (97 + i))))]] ∧ A0.bstr [[.sc (.int .u8 (IntKind.wrap .u8 (IntKind.wrap .i64 (97 + i))))]] = { data := #[UInt8.ofNat (97 + i.toNat)] } := by
  obtain ⟨k, rfl⟩ : ∃ k : Nat, i = k := ⟨i.toNat, by omega⟩
  have hk : k < 10 := by omega
  have e1 : IntKind.wrap .i64 (97 + (k : Int)) = 97 + k := wrap_i64 (by unfold r64; omega)
  have e2 : IntKind.wrap .u8 (97 + (k : Int)) = ((UInt8.ofNat (97 + k)).toNat : Int) := by
    rcases k with _ | _ | _ | _ | _ | _ | _ | _ | _ | _ | k
    all_goals first
      | rfl
      | omega
  have e3 : [[PD.sc (.int .u8 (IntKind.wrap .u8 (IntKind.wrap .i64 (97 + (k : Int)))))]] = bytesP [UInt8.ofNat (97 + k)] := by rw [e1, e2]; rfl
  rw [e3]
  refine ⟨⟨_, rfl⟩, ?_⟩
  simp only [A0, Int.toNat_natCast]
  rw [bytesOf_bytesP]
def run1 := putX [] { data := #[98] } { data := #[49] }
def run2 := putX run1.1 { data := #[97] } { data := #[50] }
def run3 := putX run2.1 { data := #[98] } { data := #[51] }
def run4 := delX run3.1 { data := #[97] }
def run5 := getP run4.1 { data := #[97] }
theorem run_1 : run1.2 = 0 := by kernel_rfl
theorem run_2 : run2.2 = 0 := by kernel_rfl
theorem run_3 : run3.2 = 0 := by kernel_rfl
theorem run_4 : run4.2 = true := by kernel_rfl
theorem run_5 : run5.2 = false := by kernel_rfl
/-- The list behind so many letters. -/
def mkL : Nat → List (List PD)
  | 0 => []
  | k + 1 => (putX (mkL k) { data := #[UInt8.ofNat (97 + k)] } none8).1
theorem mkL_p : ∀ k, isP (mkL k)
  | 0 => isP.nil
  | k + 1 => (mkL_p k).put _ _

theorem run_6 : sameX run3.1 (pairsX [⟨{ data := #[97] }, { data := #[50] }, 1⟩, ⟨{ data := #[98] }, { data := #[51] }, 2⟩]) = true := by kernel_rfl
theorem run_7 : (rangeX (mkL 10) ⟨none8, none8⟩).1.length = 8 := by kernel_rfl
theorem run_8 : (rangeX (mkL 10) ⟨none8, none8⟩).2 = true := by kernel_rfl

theorem closedL_l3 (a b : List (List PD)) : closedL 0 [.d (.slc 3 a), .d (.slc 3 b)] = true := rfl

structure FsU where
  runs : Bool
def FsU0 : FsU where
  runs := true
set_option maxRecDepth 100000 in
theorem v_runs : FnV Try.prog 3 [] (boolD true) := by
  obtain ⟨GFsH, hGFsH⟩ : ∃ F, F = FsH0 := ⟨_, rfl⟩
  obtain ⟨GFsDl, hGFsDl⟩ : ∃ F, F = FsDl0 := ⟨_, rfl⟩
  obtain ⟨GFsG, hGFsG⟩ : ∃ F, F = FsG0 := ⟨_, rfl⟩
  obtain ⟨GFsR, hGFsR⟩ : ∃ F, F = FsR0 := ⟨_, rfl⟩
  obtain ⟨GFsS, hGFsS⟩ : ∃ F, F = FsS0 := ⟨_, rfl⟩
  have hH : SoundK Try.prog [kn_put GFsH, kn_del GFsDl, kn_get GFsG, kn_range GFsR, kn_same GFsS] := by subst hGFsH hGFsDl hGFsG hGFsR hGFsS; exact orK_ok ok_put (orK_ok ok_del (orK_ok ok_get (orK_ok ok_range (orK_ok ok_same noK_ok))))
  refine FnD_cbv (T := fun _ => tabY [] []) (H := fun _ => [kn_put GFsH, kn_del GFsDl, kn_get GFsG, kn_range GFsR, kn_same GFsS]) (tabY_ok _ _) hH follows_mixed Try.func3 rfl Try.ntmps3 (by simp) fun A X W hA hX hW => ?_
  cbv
  refine And.intro ?_ (And.intro ?_ (And.intro ?_ (And.intro ?_ (And.intro ?_ ?_))))
  · subst hGFsH; exact isP.nil
  · subst hGFsH; exact isP.nil.put _ _
  · subst hGFsH; exact (isP.nil.put _ _).put _ _
  · subst hGFsH hGFsDl; exact ((isP.nil.put _ _).put _ _).put _ _
  · subst hGFsH hGFsDl hGFsG; exact isP.delX (((isP.nil.put _ _).put _ _).put _ _) _
  obtain ⟨⟨l1, w1⟩, hp1⟩ : ∃ p, p = GFsH.put [] { data := #[98] } { data := #[49] } := ⟨_, rfl⟩
  cbv at hp1
  simp only [← hp1]
  obtain ⟨⟨l2, w2⟩, hp2⟩ : ∃ p, p = GFsH.put l1 { data := #[97] } { data := #[50] } := ⟨_, rfl⟩
  cbv at hp2
  simp only [← hp2]
  obtain ⟨⟨l3, w3⟩, hp3⟩ : ∃ p, p = GFsH.put l2 { data := #[98] } { data := #[51] } := ⟨_, rfl⟩
  cbv at hp3
  simp only [← hp3]
  obtain ⟨⟨l4, w4⟩, hp4⟩ : ∃ p, p = GFsDl.del l3 { data := #[97] } := ⟨_, rfl⟩
  cbv at hp4
  simp only [← hp4]
  obtain ⟨⟨⟨g1, g2, g3⟩, w5⟩, hp5⟩ : ∃ p, p = GFsG.get l4 { data := #[97] } := ⟨_, rfl⟩
  cbv at hp5
  simp only [← hp5]
  refine loopL (T := fun _ => tabY [] [10]) (H := fun _ => [kn_put GFsH, kn_del GFsDl, kn_get GFsG, kn_range GFsR, kn_same GFsS]) (tabY_ok _ _) hH follows_mixed hA hX (fun x : Int × List (List PD) => (0 ≤ x.1 ∧ x.1 ≤ 10) ∧ x.2 = mkL x.1.toNat)
    (fun x => [(1, .d (.slc 3 l3)), (2, intD w1), (3, intD w2), (4, intD w3), (6, boolD w4), (8, boolD w5), (9, .d (.slc 3 x.2)), (10, .d (.sc (.int .i64 x.1)))]) (fun x => [⟨29, [.d (.sc (.string g1)), .d (.sc (.string g2)), .d (.sc (.int .i64 g3))], false, 0, true⟩])
    (fun x => 10 - x.1.toNat) (0, []) ?_ ?_ ?_
  · exact ⟨⟨by decide, by decide⟩, rfl⟩
  · refine told_up ?_
    simp [toldUP, UpD, getS, intD, boolD]
  rintro R ⟨i, xs⟩ hR ⟨hi, hxs⟩
  replace hi : 0 ≤ i ∧ i ≤ 10 := hi
  replace hxs : xs = mkL i.toNat := hxs
  cbv
  refine part (fun h => ?_) (fun h => ?_)
  · cbv
    refine regionF (T := fun _ => tabY [] []) (H := fun _ => [kn_put GFsH, kn_del GFsDl, kn_get GFsG, kn_range GFsR, kn_same GFsS]) (tabY_ok _ _) hH hA hX ?_
    cbv
    subst hA hX hR hGFsH hGFsDl hGFsG hGFsR hGFsS
    have hlt : i < 10 := by simpa [A0] using h
    obtain ⟨q1, q2⟩ := letter hi.1 hlt
    have ei : IntKind.wrap .i64 (i + 1) = i + 1 := wrap_i64 (by unfold r64; omega)
    refine ⟨q1, by show isP xs; rw [hxs]; exact mkL_p _, ?_⟩
    refine ⟨(i + 1, mkL (i + 1).toNat), ⟨⟨by show (0 : Int) ≤ i + 1; omega, by show i + 1 ≤ 10; omega⟩, rfl⟩, by show 10 - (i + 1).toNat < 10 - i.toNat; omega, ?_⟩
    have e9 : (FsH0.put xs (A0.bstr [[PD.sc (Value.int IntKind.u8 (A0.wrap IntKind.u8 (A0.bin BinOp.add IntKind.i64 97 i)))]]) { data := { toList := [] } }).1 = mkL (i + 1).toNat := by
      rw [show A0.bstr [[PD.sc (Value.int IntKind.u8 (A0.wrap IntKind.u8 (A0.bin BinOp.add IntKind.i64 97 i)))]] = _ from q2, hxs, show (i + 1).toNat = i.toNat + 1 by omega]
      rfl
    refine told_less ?_
    exact ⟨.inl rfl, .inl rfl, .inl rfl, .inl rfl, .inl rfl, .inl rfl, .inl (congrArg (fun l => DV.d (.slc 3 l)) e9.symm), .inl (congrArg (fun n => DV.d (.sc (.int .i64 n))) ei.symm), trivial⟩
  · have hi10 : i = 10 := by
      subst hA
      simp only [A0, decide_eq_false_iff_not] at h
      omega
    subst hi10
    have q1 : w1 = 0 := by subst hGFsH; exact (congrArg Prod.snd (show _ = run1 from hp1)).trans run_1
    have q2 : w2 = 0 := by
      subst hGFsH
      obtain ⟨rfl, rfl⟩ := Prod.mk.inj (show (l1, w1) = run1 from hp1)
      exact (congrArg Prod.snd (show _ = run2 from hp2)).trans run_2
    have q3 : w3 = 0 ∧ l3 = run3.1 := by
      subst hGFsH
      obtain ⟨rfl, rfl⟩ := Prod.mk.inj (show (l1, w1) = run1 from hp1)
      obtain ⟨rfl, rfl⟩ := Prod.mk.inj (show (l2, w2) = run2 from hp2)
      exact ⟨(congrArg Prod.snd (show _ = run3 from hp3)).trans run_3, congrArg Prod.fst (show _ = run3 from hp3)⟩
    obtain ⟨q3, q6⟩ := q3
    have q4 : w4 = true ∧ w5 = false := by
      subst hGFsDl hGFsG
      subst q6
      obtain ⟨rfl, rfl⟩ := Prod.mk.inj (show (l4, w4) = run4 from hp4)
      exact ⟨run_4, (congrArg Prod.snd (show _ = run5 from hp5)).trans run_5⟩
    obtain ⟨q4, q5⟩ := q4
    subst q1 q2 q3 q4 q5
    have c1 : A.cmp .eql 0 0 = true := by subst hA; rfl
    cbv at c1
    have c2 : A.cond true true false = true := by subst hA; rfl
    cbv at c2
    cbv
    obtain ⟨⟨l6, w6⟩, hp6⟩ : ∃ p, p = GFsR.range xs ⟨none8, none8⟩ := ⟨_, rfl⟩
    cbv at hp6
    simp only [← hp6, c1]
    refine And.intro (by subst hGFsR; rw [hxs]; exact mkL_p _) ?_
    cbv
    iterate 4 (try (simp only [c1, c2]; cbv))
    have hl3 : isP l3 := by rw [q6]; exact ((isP.nil.put _ _).put _ _).put _ _
    have hsame : FnV Try.prog 13 [.d (.slc 3 l3), .d (.slc 3 (pairsX [⟨{ data := #[97] }, { data := #[50] }, 1⟩, ⟨{ data := #[98] }, { data := #[51] }, 2⟩]))] (boolD true) := by
      have e : sameX l3 (pairsX [⟨{ data := #[97] }, { data := #[50] }, 1⟩, ⟨{ data := #[98] }, { data := #[51] }, 2⟩]) = true := by rw [q6]; exact run_6
      have := v_same l3 (pairsX [⟨{ data := #[97] }, { data := #[50] }, 1⟩, ⟨{ data := #[98] }, { data := #[51] }, 2⟩]) hl3 ⟨_, rfl, by decide⟩
      rwa [e] at this
    have q7 : l6.length = 8 ∧ w6 = true := by
      subst hGFsR
      subst hxs
      obtain ⟨rfl, rfl⟩ := Prod.mk.inj (show (l6, w6) = rangeX (mkL 10) ⟨none8, none8⟩ from hp6)
      exact ⟨run_7, run_8⟩
    refine callL hX (FnV.fz 1 3 (pairsX [⟨{ data := #[97] }, { data := #[50] }, 1⟩, ⟨{ data := #[98] }, { data := #[51] }, 2⟩]) ⟨29, _, false, 0, true⟩ rfl rfl rfl (isP.sz ⟨_, rfl, by decide⟩) hsame rfl (closedL_l3 l3 _) ?_)
    cbv
    have c3 : A.not false = true := by subst hA; rfl
    cbv at c3
    have c4 : A.cmp .eql (A.len l6) 8 = true := by subst hA; simp only [A0, q7.1]; rfl
    cbv at c4
    obtain ⟨q7, q8⟩ := q7
    subst q8
    iterate 6 (try (simp only [c1, c2, c3, c4]; cbv))
    subst hA hX hW
    refine ret_v (r := boolD true) ?_ rfl
    rfl
def kn_runs (F : FsU) : FuncId × (List DV → RV) := (3, fun args => match args with
  | [] => some ([], boolD F.runs)
  | _ => none)
theorem ok_runs (args : List DV) (cs : List Prop) (r : DV) (h : (kn_runs FsU0).2 args = some (cs, r)) (hc : allP cs True) : FnV Try.prog 3 args r ∧ closedL 0 args = true := by
  unfold kn_runs at h
  simp only at h
  split at h
  · cases h; exact ⟨v_runs, rfl⟩
  · cases h
end Go.Proofs.Ytbceikkjogbgeaa
namespace Go.Proofs.Ytbceikkjogbgeaa
open Go.RowKit
set_option linter.all false
/-- The keys rise. -/
def Srt (ps : List Pair) : Prop := ps.Pairwise fun p q => ltb p.key q.key = true
def look (ps : List Pair) (key : ByteArray) : Option Pair := ps.find? fun p => decide (p.key = key)
theorem findL_split (key : ByteArray) : ∀ (ps : List Pair) (i : Int), ∃ a b, ps = a ++ b ∧ (findL key ps i).1 = i + (a.length : Int) ∧ (∀ p ∈ a, ltb p.key key = true) ∧
    (b = [] ∧ (findL key ps i).2 = false ∨ ∃ q r, b = q :: r ∧ ltb q.key key = false ∧ (findL key ps i).2 = decide (q.key = key))
  | [], i => ⟨[], [], rfl, by simp [findL], by simp, .inl ⟨rfl, rfl⟩⟩
  | p :: ps, i => by
      unfold findL
      split
      · rename_i h
        obtain ⟨a, b, h1, h2, h3, h4⟩ := findL_split key ps (i + 1)
        refine ⟨p :: a, b, by rw [h1]; rfl, by rw [h2]; simp only [List.length_cons]; omega, ?_, h4⟩
        intro x hx
        simp only [List.mem_cons] at hx
        rcases hx with rfl | hx
        · exact h
        · exact h3 x hx
      · rename_i h
        exact ⟨[], p :: ps, rfl, by simp, by simp, .inr ⟨p, ps, rfl, by simpa using h, rfl⟩⟩
theorem ltb_ne {a b : ByteArray} (h : ltb a b = true) : a ≠ b := by
  rintro rfl
  rw [ltb_irrefl] at h
  cases h
theorem ltb_asymm {a b : ByteArray} (h : ltb a b = true) : ltb b a = false := by
  cases e : ltb b a with
  | false => rfl
  | true =>
    have := ltb_trans h e
    rw [ltb_irrefl] at this
    cases this
theorem ltb_not {a b : ByteArray} (h : ltb a b = false) (hn : a ≠ b) : ltb b a = true := by
  have := ltb_total a b
  rw [h] at this
  simp only [Bool.not_false, Bool.true_eq, Bool.or_eq_true, decide_eq_true_eq] at this
  rcases this with h | h
  · exact h
  · exact absurd h.symm hn
theorem look_none {ps : List Pair} {key : ByteArray} (h : ∀ p ∈ ps, p.key ≠ key) : look ps key = none := by
  simp only [look, List.find?_eq_none, decide_eq_true_eq]
  exact h
theorem look_append (a b : List Pair) (key : ByteArray) : look (a ++ b) key = (look a key).or (look b key) := by
  simp [look, List.find?_append]
theorem look_cons_ne {p : Pair} {ps : List Pair} {key : ByteArray} (h : p.key ≠ key) : look (p :: ps) key = look ps key := by
  simp [look, h]
theorem look_cons_eq {p : Pair} {ps : List Pair} : look (p :: ps) p.key = some p := by
  simp [look]
/-- What is got of a list that rises. -/
def gotL (ps : List Pair) (key : ByteArray) : Pair × Bool := match look ps key with
  | some p => (p, true)
  | none => (⟨none8, none8, 0⟩, false)
theorem rowP_at (a : List Pair) (q : Pair) (r : List Pair) : (pairsX (a ++ q :: r)).getD a.length [] = q.row := by
  simp [pairsX, List.getD_eq_getElem?_getD]
theorem Srt.split {a b : List Pair} {q : Pair} (h : Srt (a ++ q :: b)) : (∀ p ∈ b, ltb q.key p.key = true) := by
  unfold Srt at h
  rw [List.pairwise_append] at h
  exact fun p hp => (List.pairwise_cons.1 h.2.1).1 p hp
theorem get_look {ps : List Pair} (hs : Srt ps) (key : ByteArray) : getP (pairsX ps) key = gotL ps key := by
  obtain ⟨a, b, h1, h2, h3, h4⟩ := findL_split key ps 0
  have ha : look a key = none := look_none fun p hp => ltb_ne (h3 p hp)
  unfold getP getX thereX gotL findX
  rw [pairsOf_X]
  subst h1
  rcases h4 with ⟨rfl, h5⟩ | ⟨q, r, rfl, h5, h6⟩
  · rw [h5, if_neg (by simp), List.append_nil, ha]
  · rw [h6]
    by_cases e : q.key = key
    · rw [if_pos (by simpa using e), h2, look_append, ha]
      subst e
      rw [look_cons_eq]
      simp only [Option.none_or, decide_true]
      rw [show ((0 : Int) + (a.length : Int)).toNat = a.length by omega, rowP_at, rowP_row]
    · have hr : look r key = none := look_none fun p hp => (ltb_ne (ltb_trans (ltb_not h5 e) (hs.split p hp))).symm
      rw [if_neg (by simpa using e), look_append, ha, look_cons_ne e, hr]
      simp [e]
/-- Taken out. -/
theorem del_look {ps : List Pair} (hs : Srt ps) (key : ByteArray) : ∃ qs, (delX (pairsX ps) key).1 = pairsX qs ∧ Srt qs ∧ (∀ j, j ≠ key → look qs j = look ps j) ∧ look qs key = none := by
  obtain ⟨a, b, h1, h2, h3, h4⟩ := findL_split key ps 0
  have ha : look a key = none := look_none fun p hp => ltb_ne (h3 p hp)
  unfold delX findX
  rw [pairsOf_X]
  subst h1
  rcases h4 with ⟨rfl, h5⟩ | ⟨q, r, rfl, h5, h6⟩
  · rw [if_neg (by rw [h5]; simp)]
    exact ⟨_, rfl, hs, fun _ _ => rfl, by rw [List.append_nil]; exact ha⟩
  · by_cases e : q.key = key
    · rw [if_pos (by rw [h6]; simpa using e), h2, show ((0 : Int) + (a.length : Int)).toNat = a.length by omega]
      refine ⟨a ++ r, ?_, ?_, ?_, ?_⟩
      · simp only [delP, pairsX]
        rw [← List.map_take, ← List.map_drop, List.take_append_of_le_length (Nat.le_refl _), List.take_length, List.drop_append]
        simp
      · exact hs.sublist (List.Sublist.append (List.Sublist.refl a) (List.sublist_cons_self q r))
      · intro j hj
        rw [look_append, look_append, look_cons_ne (fun h => hj (by rw [← h, e]))]
      · rw [look_append, ha]
        exact look_none fun p hp => (ltb_ne (by rw [← e]; exact hs.split p hp)).symm
    · rw [if_neg (by rw [h6]; simpa using e)]
      have hr : look r key = none := look_none fun p hp => (ltb_ne (ltb_trans (ltb_not h5 e) (hs.split p hp))).symm
      exact ⟨_, rfl, hs, fun _ _ => rfl, by rw [look_append, ha, look_cons_ne e, hr]; rfl⟩
theorem Srt.keys {a b : List Pair} {p q : Pair} (h : Srt (a ++ q :: b)) (e : p.key = q.key) : Srt (a ++ p :: b) := by
  unfold Srt at *
  rw [List.pairwise_append, List.pairwise_cons] at *
  refine ⟨h.1, ⟨fun x hx => by rw [e]; exact h.2.1.1 x hx, h.2.1.2⟩, fun x hx y hy => ?_⟩
  simp only [List.mem_cons] at hy
  rcases hy with rfl | hy
  · rw [e]; exact h.2.2 x hx q (by simp)
  · exact h.2.2 x hx y (by simp [hy])
/-- Put, where there is room. -/
theorem put_look {ps : List Pair} (hs : Srt ps) (key value : ByteArray) (hw : (putX (pairsX ps) key value).2 = 0) : ∃ qs, (putX (pairsX ps) key value).1 = pairsX qs ∧ Srt qs ∧ (∀ j, j ≠ key → look qs j = look ps j) ∧
    look qs key = some ⟨key, value, match look ps key with | some p => IntKind.wrap .i64 (p.version + 1) | none => 1⟩ := by
  obtain ⟨a, b, h1, h2, h3, h4⟩ := findL_split key ps 0
  have ha : look a key = none := look_none fun p hp => ltb_ne (h3 p hp)
  revert hw
  unfold putX findX
  rw [pairsOf_X]
  subst h1
  rcases h4 with ⟨rfl, h5⟩ | ⟨q, r, rfl, h5, h6⟩
  · rw [if_neg (by rw [h5]; simp)]
    split
    · intro h; cases h
    · intro _
      rw [h2, show ((0 : Int) + (a.length : Int)).toNat = a.length by omega, List.append_nil]
      refine ⟨a ++ [⟨key, value, 1⟩], ?_, ?_, ?_, ?_⟩
      · simp only [newP, pairsX]
        rw [← List.map_take, ← List.map_drop]
        simp
      · unfold Srt
        rw [List.append_nil] at hs
        rw [List.pairwise_append]
        refine ⟨hs, by simp, fun x hx y hy => ?_⟩
        simp only [List.mem_singleton] at hy
        subst hy
        exact h3 x hx
      · intro j hj
        rw [look_append, look_cons_ne (fun h => hj h.symm)]
        simp [look]
      · rw [look_append, ha]
        simp [look]
  · by_cases e : q.key = key
    · rw [if_pos (by rw [h6]; simpa using e), h2, show ((0 : Int) + (a.length : Int)).toNat = a.length by omega]
      intro _
      subst e
      refine ⟨a ++ ⟨q.key, value, IntKind.wrap .i64 (q.version + 1)⟩ :: r, ?_, hs.keys rfl, ?_, ?_⟩
      · simp only [setP, rowP_at, rowP_row]
        simp [pairsX]
      · intro j hj
        rw [look_append, look_append, look_cons_ne (p := q) (fun h => hj h.symm), look_cons_ne (p := ⟨q.key, value, _⟩) (fun h => hj h.symm)]
      · rw [look_append, look_append, ha, show look (⟨q.key, value, IntKind.wrap .i64 (q.version + 1)⟩ :: r) q.key = some ⟨q.key, value, IntKind.wrap .i64 (q.version + 1)⟩ from look_cons_eq (p := ⟨q.key, value, IntKind.wrap .i64 (q.version + 1)⟩), look_cons_eq (p := q)]
        rfl
    · rw [if_neg (by rw [h6]; simpa using e)]
      have hr : look r key = none := look_none fun p hp => (ltb_ne (ltb_trans (ltb_not h5 e) (hs.split p hp))).symm
      split
      · intro h; cases h
      · intro _
        rw [h2, show ((0 : Int) + (a.length : Int)).toNat = a.length by omega]
        refine ⟨a ++ ⟨key, value, 1⟩ :: q :: r, ?_, ?_, ?_, ?_⟩
        · simp only [newP, pairsX]
          rw [← List.map_take, ← List.map_drop]
          simp
        · unfold Srt at *
          rw [List.pairwise_append, List.pairwise_cons] at *
          refine ⟨hs.1, ⟨fun x hx => ?_, by rw [List.pairwise_cons]; exact hs.2.1⟩, fun x hx y hy => ?_⟩
          · simp only [List.mem_cons] at hx
            rcases hx with rfl | hx
            · exact ltb_not h5 e
            · exact ltb_trans (ltb_not h5 e) (hs.2.1.1 x hx)
          · simp only [List.mem_cons] at hy
            rcases hy with rfl | hy
            · exact h3 x hx
            · exact hs.2.2 x hx y (by simpa using hy)
        · intro j hj
          rw [look_append, look_append, look_cons_ne (fun h => hj h.symm)]
        · rw [look_append, look_append, ha, look_cons_ne e, hr, show look (⟨key, value, 1⟩ :: q :: r) key = some ⟨key, value, 1⟩ from look_cons_eq (p := ⟨key, value, 1⟩)]
          rfl
/-- How many pairs rise behind one. -/
def riseI (last : Pair) : List Pair → Nat
  | [] => 0
  | p :: ps => if ltb last.key p.key = true then 1 + riseI p ps else 0
def riseN : List Pair → Nat
  | [] => 0
  | p :: ps => 1 + riseI p ps
def riseX (xs : List (List PD)) : List (List PD) := xs.take (riseN (pairsOf xs))
theorem riseI_srt : ∀ (p : Pair) (ps : List Pair), Srt (p :: ps.take (riseI p ps))
  | p, [] => by simp [Srt]
  | p, q :: ps => by
      unfold riseI
      split
      · rename_i h
        rw [Nat.add_comm, List.take_succ_cons]
        have ih := riseI_srt q ps
        unfold Srt at *
        rw [List.pairwise_cons]
        refine ⟨fun x hx => ?_, ih⟩
        simp only [List.mem_cons] at hx
        rcases hx with rfl | hx
        · exact h
        · exact ltb_trans h ((List.pairwise_cons.1 ih).1 x hx)
      · simp [Srt]
theorem riseN_srt (ps : List Pair) : Srt (ps.take (riseN ps)) := by
  cases ps with
  | nil => simp [Srt]
  | cons p ps =>
    show Srt ((p :: ps).take (1 + riseI p ps))
    rw [Nat.add_comm, List.take_succ_cons]
    exact riseI_srt p ps
theorem riseI_le : ∀ (p : Pair) (ps : List Pair), riseI p ps ≤ ps.length
  | p, [] => by simp [riseI]
  | p, q :: ps => by
      unfold riseI
      have := riseI_le q ps
      split <;> simp only [List.length_cons] <;> omega
theorem riseX_pairs (ps : List Pair) : riseX (pairsX ps) = pairsX (ps.take (riseN ps)) := by
  unfold riseX
  rw [pairsOf_X]
  simp [pairsX]
theorem isP.rise {xs : List (List PD)} (h : isP xs) : isP (riseX xs) := by
  obtain ⟨ps, rfl, hl⟩ := h
  refine ⟨ps.take (riseN ps), riseX_pairs ps, ?_⟩
  rw [List.length_take]
  omega
theorem rise_srt {xs : List (List PD)} (h : isP xs) : ∃ ps, riseX xs = pairsX ps ∧ Srt ps ∧ ps.length ≤ 4194304 := by
  obtain ⟨ps, rfl, hl⟩ := h
  exact ⟨ps.take (riseN ps), riseX_pairs ps, riseN_srt ps, by rw [List.length_take]; omega⟩

end Go.Proofs.Ytbceikkjogbgeaa
namespace Go.Proofs.Ytbceikkjogbgeaa
open Go.RowKit
set_option linter.all false
/-- May a pair be, its version at most so much? -/
def okPr (k : Int) (p : Pair) : Prop := ltb none8 p.key = true ∧ p.key.size ≤ 16 ∧ p.value.size ≤ 64 ∧ 1 ≤ p.version ∧ p.version ≤ k
def okP (k : Int) (ps : List Pair) : Prop := Srt ps ∧ ps.length ≤ 32 ∧ ∀ p ∈ ps, okPr k p
theorem okPr.mono {k n : Int} {p : Pair} (h : okPr k p) (hn : k ≤ n) : okPr n p := ⟨h.1, h.2.1, h.2.2.1, h.2.2.2.1, by have := h.2.2.2.2; omega⟩
theorem okP.mono {k n : Int} {ps : List Pair} (h : okP k ps) (hn : k ≤ n) : okP n ps := ⟨h.1, h.2.1, fun p hp => (h.2.2 p hp).mono hn⟩
theorem okP.nil {k : Int} : okP k [] := ⟨List.Pairwise.nil, by decide, by simp⟩
theorem okP.isP {k : Int} {ps : List Pair} (h : okP k ps) : isP (pairsX ps) := ⟨ps, rfl, by have := h.2.1; omega⟩
theorem riseP_ok {k : Int} : ∀ (ps : List Pair) (last : ByteArray), Srt ps → (∀ p ∈ ps, okPr k p ∧ ltb last p.key = true) → riseP last ps = true
  | [], _, _, _ => rfl
  | p :: ps, last, hs, h => by
      unfold Srt at hs
      rw [List.pairwise_cons] at hs
      obtain ⟨⟨h1, h2, h3, h4, h5⟩, h6⟩ := h p (by simp)
      have := riseP_ok ps p.key hs.2 fun q hq => ⟨(h q (by simp [hq])).1, hs.1 q hq⟩
      simp only [riseP, okP1, h6, this, Bool.and_true, Bool.true_and, Bool.and_eq_true, decide_eq_true_eq]
      exact ⟨⟨h2, h3⟩, h4⟩
theorem okP.right {k : Int} {ps : List Pair} (h : okP k ps) : rightX (pairsX ps) = true := by
  unfold rightX rightP
  rw [pairsOf_X, riseP_ok ps none8 h.1 fun p hp => ⟨h.2.2 p hp, (h.2.2 p hp).1⟩]
  simpa using h.2.1
theorem mem_look {ps : List Pair} (hs : Srt ps) {p : Pair} (hp : p ∈ ps) : look ps p.key = some p := by
  induction ps with
  | nil => simp at hp
  | cons q ps ih =>
    unfold Srt at hs
    rw [List.pairwise_cons] at hs
    rcases List.mem_cons.1 hp with rfl | hp
    · exact look_cons_eq
    · rw [look_cons_ne (ltb_ne (hs.1 p hp))]
      exact ih hs.2 hp
theorem look_mem {ps : List Pair} {key : ByteArray} {p : Pair} (h : look ps key = some p) : p ∈ ps ∧ p.key = key := by
  unfold look at h
  have h1 := List.mem_of_find?_eq_some h
  have h2 := List.find?_some h
  exact ⟨h1, by simpa using h2⟩
theorem putX_len {xs : List (List PD)} (h : xs.length ≤ 32) (key value : ByteArray) : (putX xs key value).1.length ≤ 32 := by
  unfold putX
  split
  · rw [setP_len]; exact h
  · split
    · decide
    · simp only [newP, List.length_append, List.length_take, List.length_drop, List.length_singleton]
      omega
theorem delX_len {xs : List (List PD)} (h : xs.length ≤ 32) (key : ByteArray) : (delX xs key).1.length ≤ 32 := by
  unfold delX
  split
  · simp only [delP, List.length_append, List.length_take, List.length_drop]
    omega
  · exact h
theorem put_ok {k : Int} {ps : List Pair} (h : okP k ps) {key value : ByteArray} (h1 : ltb none8 key = true) (h2 : key.size ≤ 16) (h3 : value.size ≤ 64) (hk : 0 ≤ k) (hk2 : k ≤ 4611686018427387904) (hw : (putX (pairsX ps) key value).2 = 0) :
    ∃ qs, (putX (pairsX ps) key value).1 = pairsX qs ∧ okP (k + 1) qs ∧ (∀ j, j ≠ key → look qs j = look ps j) ∧ look qs key = some ⟨key, value, match look ps key with | some p => p.version + 1 | none => 1⟩ := by
  obtain ⟨qs, e, hs, hj, hq⟩ := put_look h.1 key value hw
  have hl := putX_len (xs := pairsX ps) (by rw [pairsX_length]; exact h.2.1) key value
  rw [e, pairsX_length] at hl
  have hq2 : look qs key = some ⟨key, value, match look ps key with | some p => p.version + 1 | none => 1⟩ := by
    rw [hq]
    cases hlk : look ps key with
    | none => rfl
    | some p =>
      have := h.2.2 p (look_mem hlk).1
      simp only
      rw [wrap_i64 (by unfold r64; have := this.2.2.2; omega)]
  refine ⟨qs, e, ⟨hs, hl, fun p hp => ?_⟩, hj, hq2⟩
  have hlp := mem_look hs hp
  by_cases hpk : p.key = key
  · rw [hpk, hq2] at hlp
    cases hlp
    refine ⟨h1, h2, h3, ?_, ?_⟩
    · cases hlk : look ps key with
      | none => simp
      | some q => have := (h.2.2 q (look_mem hlk).1).2.2.2; simp only; omega
    · cases hlk : look ps key with
      | none => simp only; omega
      | some q => have := (h.2.2 q (look_mem hlk).1).2.2.2; simp only; omega
  · rw [hj _ hpk] at hlp
    exact (h.2.2 p (look_mem hlp).1).mono (by omega)
theorem del_ok {k : Int} {ps : List Pair} (h : okP k ps) (key : ByteArray) : ∃ qs, (delX (pairsX ps) key).1 = pairsX qs ∧ okP k qs ∧ (∀ j, j ≠ key → look qs j = look ps j) ∧ look qs key = none := by
  obtain ⟨qs, e, hs, hj, hq⟩ := del_look h.1 key
  have hl := delX_len (xs := pairsX ps) (by rw [pairsX_length]; exact h.2.1) key
  rw [e, pairsX_length] at hl
  refine ⟨qs, e, ⟨hs, hl, fun p hp => ?_⟩, hj, hq⟩
  have hlp := mem_look hs hp
  by_cases hpk : p.key = key
  · rw [hpk, hq] at hlp; cases hlp
  · rw [hj _ hpk] at hlp
    exact h.2.2 p (look_mem hlp).1
theorem rangeL_filterP (s : Span) : ∀ (ps acc : List Pair), acc.length ≤ 8 → rangeL s ps acc = (acc ++ (ps.filter fun p => hasS s p.key).take (8 - acc.length), decide (8 < acc.length + (ps.filter fun p => hasS s p.key).length))
  | [], acc, h => Prod.ext (by simp [rangeL]) (by
      show false = decide _
      exact (decide_eq_false (by simp only [List.filter_nil, List.length_nil]; omega)).symm)
  | p :: ps, acc, h => by
      unfold rangeL
      by_cases hp : hasS s p.key = true
      · rw [if_pos hp]
        have e : (p :: ps).filter (fun p => hasS s p.key) = p :: ps.filter fun p => hasS s p.key := by simp [hp]
        rw [e]
        by_cases h8 : acc.length = 8
        · rw [if_pos h8, h8]
          simp
        · rw [if_neg h8, rangeL_filterP s ps (acc ++ [p]) (by simp; omega)]
          rw [show 8 - acc.length = (8 - (acc ++ [p]).length) + 1 by simp; omega, List.take_succ_cons]
          simp only [List.append_assoc, List.singleton_append, List.length_append, List.length_cons, List.length_nil]
          congr 1
          congr 1
          apply propext
          omega
      · rw [if_neg hp, rangeL_filterP s ps acc h]
        simp [hp]
theorem range_eq (ps : List Pair) (s : Span) : rangeX (pairsX ps) s = (pairsX ((ps.filter fun p => hasS s p.key).take 8), decide (8 < (ps.filter fun p => hasS s p.key).length)) := by
  unfold rangeX
  rw [pairsOf_X, rangeL_filterP s ps [] (by simp)]
  simp
theorem Srt.sub {ps qs : List Pair} (h : Srt ps) (hq : qs.Sublist ps) : Srt qs := List.Pairwise.sublist hq h
theorem range_ok {k : Int} {ps : List Pair} (h : okP k ps) (s : Span) : okP k ((ps.filter fun p => hasS s p.key).take 8) ∧ ((ps.filter fun p => hasS s p.key).take 8).length ≤ 8 := by
  have hsub : ((ps.filter fun p => hasS s p.key).take 8).Sublist ps := (List.take_sublist _ _).trans List.filter_sublist
  refine ⟨⟨h.1.sub hsub, ?_, fun p hp => h.2.2 p (hsub.subset hp)⟩, ?_⟩
  · exact Nat.le_trans hsub.length_le h.2.1
  · rw [List.length_take]; omega
theorem findL_at (key : ByteArray) : ∀ (a : List Pair) (q : Pair) (r : List Pair) (i : Int), (∀ p ∈ a, ltb p.key key = true) → q.key = key → findL key (a ++ q :: r) i = (i + (a.length : Int), true)
  | [], q, r, i, _, h => by
      subst h
      simp [findL, ltb_irrefl]
  | p :: a, q, r, i, h, hq => by
      rw [List.cons_append, findL, if_pos (h p (by simp)), findL_at key a q r (i + 1) (fun x hx => h x (by simp [hx])) hq]
      simp only [List.length_cons, Prod.mk.injEq, and_true]
      omega
theorem put_shape {ps : List Pair} (key value : ByteArray) (hl : look ps key = none) (hw : (putX (pairsX ps) key value).2 = 0) :
    ∃ a b, ps = a ++ b ∧ (∀ p ∈ a, ltb p.key key = true) ∧ (putX (pairsX ps) key value).1 = pairsX (a ++ ⟨key, value, 1⟩ :: b) := by
  obtain ⟨a, b, h1, h2, h3, h4⟩ := findL_split key ps 0
  revert hw
  unfold putX findX
  rw [pairsOf_X]
  have hf : (findL key ps 0).2 = false := by
    rcases h4 with ⟨_, h5⟩ | ⟨q, r, hb, h5, h6⟩
    · exact h5
    · rw [h6]
      simp only [decide_eq_false_iff_not]
      intro e
      subst h1 hb
      rw [look_append, show look (q :: r) key = some q from by rw [← e]; exact look_cons_eq] at hl
      cases look a key <;> simp at hl
  rw [if_neg (by rw [hf]; simp)]
  split
  · intro h; cases h
  · intro _
    refine ⟨a, b, h1, h3, ?_⟩
    rw [h2, show ((0 : Int) + (a.length : Int)).toNat = a.length by omega]
    subst h1
    simp only [newP, pairsX]
    rw [← List.map_take, ← List.map_drop]
    simp
theorem del_at (a b : List Pair) (q : Pair) (key : ByteArray) (h : ∀ p ∈ a, ltb p.key key = true) (hq : q.key = key) : delX (pairsX (a ++ q :: b)) key = (pairsX (a ++ b), true) := by
  unfold delX findX
  rw [pairsOf_X, findL_at key a q b 0 h hq, if_pos rfl]
  simp only [delP, show ((0 : Int) + (a.length : Int)).toNat = a.length by omega, pairsX]
  rw [← List.map_take, ← List.map_drop, List.take_append_of_le_length (Nat.le_refl _), List.take_length, List.drop_append]
  simp
theorem find_none {ps : List Pair} {key : ByteArray} (h : look ps key = none) : (findL key ps 0).2 = false := by
  obtain ⟨a, b, h1, h2, h3, h4⟩ := findL_split key ps 0
  rcases h4 with ⟨_, h5⟩ | ⟨q, r, hb, h5, h6⟩
  · exact h5
  · rw [h6]
    simp only [decide_eq_false_iff_not]
    intro e
    subst h1 hb
    rw [look_append, show look (q :: r) key = some q from by rw [← e]; exact look_cons_eq] at h
    cases look a key <;> simp at h
theorem find_some {ps : List Pair} (hs : Srt ps) {key : ByteArray} {p : Pair} (h : look ps key = some p) : (findL key ps 0).2 = true := by
  obtain ⟨a, b, h1, h2, h3, h4⟩ := findL_split key ps 0
  have ha : look a key = none := look_none fun p hp => ltb_ne (h3 p hp)
  rcases h4 with ⟨rfl, h5⟩ | ⟨q, r, hb, h5, h6⟩
  · rw [List.append_nil] at h1
    rw [h1, ha] at h
    cases h
  · rw [h6, decide_eq_true_eq]
    subst h1 hb
    by_cases e : q.key = key
    · exact e
    · exfalso
      have hr : look r key = none := look_none fun p hp => (ltb_ne (ltb_trans (ltb_not h5 e) (hs.split p hp))).symm
      rw [look_append, ha, look_cons_ne e, hr] at h
      cases h
/-- The row of keys, values and times tells what the list holds. -/
structure PlI (k : Int) (ps : List Pair) (K V : List ByteArray) (T : List Int) : Prop where
  ok : okP k ps
  nd : K.Nodup
  lv : V.length = K.length
  lt : T.length = K.length
  at_ : ∀ (i : Nat) (key v : ByteArray) (t : Int), K[i]? = some key → V[i]? = some v → T[i]? = some t → look ps key = some ⟨key, v, t⟩
  no : ∀ key, key ∉ K → look ps key = none
  cnt : ∀ f : ByteArray → Bool, (K.filter f).length = (ps.filter fun p => f p.key).length
theorem PlI.nil : PlI 0 [] [] [] [] := ⟨okP.nil, List.nodup_nil, rfl, rfl, fun i key v t h => by simp at h, fun _ _ => rfl, fun _ => rfl⟩
theorem PlI.len {k : Int} {ps : List Pair} {K V : List ByteArray} {T : List Int} (h : PlI k ps K V T) : K.length = ps.length := by
  have e : ∀ {α : Type} (l : List α), l.filter (fun _ => true) = l := fun l => List.filter_eq_self.2 (by simp)
  have := h.cnt fun _ => true
  rwa [e, e] at this
theorem PlI.mono {k n : Int} {ps : List Pair} {K V : List ByteArray} {T : List Int} (h : PlI k ps K V T) (hn : k ≤ n) : PlI n ps K V T := ⟨h.ok.mono hn, h.nd, h.lv, h.lt, h.at_, h.no, h.cnt⟩
theorem PlI.get {k : Int} {ps : List Pair} {K V : List ByteArray} {T : List Int} (h : PlI k ps K V T) {i : Nat} {key : ByteArray} (hi : K[i]? = some key) : ∃ v t, V[i]? = some v ∧ T[i]? = some t ∧ look ps key = some ⟨key, v, t⟩ ∧ 1 ≤ t ∧ t ≤ k := by
  have hl := (List.getElem?_eq_some_iff.1 hi).1
  have h1 : V[i]? = some (V[i]'(by rw [h.lv]; exact hl)) := List.getElem?_eq_getElem _
  have h2 : T[i]? = some (T[i]'(by rw [h.lt]; exact hl)) := List.getElem?_eq_getElem _
  have h3 := h.at_ i key _ _ hi h1 h2
  have h4 := h.ok.2.2 _ (look_mem h3).1
  exact ⟨_, _, h1, h2, h3, h4.2.2.2.1, h4.2.2.2.2⟩
theorem PlI.full {k : Int} {ps : List Pair} {K V : List ByteArray} {T : List Int} (h : PlI k ps K V T) {key value : ByteArray} (hk : key ∉ K) (hl : 32 ≤ K.length) : putX (pairsX ps) key value = ([], 7) := by
  unfold putX findX
  rw [pairsOf_X, find_none (h.no key hk), if_neg (by simp), if_pos (by rw [pairsX_length, ← h.len]; exact hl)]
theorem PlI.putNew {k : Int} {ps : List Pair} {K V : List ByteArray} {T : List Int} (h : PlI k ps K V T) {key value : ByteArray} (hk : key ∉ K) (hl : K.length < 32) (h1 : ltb none8 key = true) (h2 : key.size ≤ 16) (h3 : value.size ≤ 64) (h0 : 0 ≤ k) (hk2 : k ≤ 4611686018427387904) : ∃ qs, putX (pairsX ps) key value = (pairsX qs, 0) ∧ PlI (k + 1) qs (K ++ [key]) (V ++ [value]) (T ++ [1]) := by
  have hno := h.no key hk
  have hw : (putX (pairsX ps) key value).2 = 0 := by
    unfold putX findX
    rw [pairsOf_X, find_none hno, if_neg (by simp), if_neg (by rw [pairsX_length, ← h.len]; omega)]
  obtain ⟨qs, e, hq, hj, hqk⟩ := put_ok h.ok h1 h2 h3 h0 hk2 hw
  obtain ⟨a, b, e1, e2, e3⟩ := put_shape key value hno hw
  have hqe : qs = a ++ ⟨key, value, 1⟩ :: b := pairsX_inj.1 (e.symm.trans e3)
  refine ⟨qs, by rw [← e, ← hw], hq, ?_, by simp [h.lv], by simp [h.lt], ?_, ?_, ?_⟩
  · rw [List.nodup_append]
    exact ⟨h.nd, by simp, fun x hx y hy => by rw [List.mem_singleton] at hy; subst hy; intro e; exact hk (e ▸ hx)⟩
  · intro i ky v t a1 a2 a3
    rcases Nat.lt_trichotomy i K.length with hi | hi | hi
    · rw [List.getElem?_append_left hi] at a1
      rw [List.getElem?_append_left (by rw [h.lv]; exact hi)] at a2
      rw [List.getElem?_append_left (by rw [h.lt]; exact hi)] at a3
      have hne : ky ≠ key := fun e => hk (e ▸ List.mem_of_getElem? a1)
      rw [hj ky hne]
      exact h.at_ i ky v t a1 a2 a3
    · subst hi
      rw [List.getElem?_append_right (Nat.le_refl _)] at a1
      rw [List.getElem?_append_right (by rw [h.lv]; exact Nat.le_refl _), h.lv] at a2
      rw [List.getElem?_append_right (by rw [h.lt]; exact Nat.le_refl _), h.lt] at a3
      simp at a1 a2 a3
      subst a1 a2 a3
      rw [hqk, hno]
    · rw [List.getElem?_eq_none (by simp; omega)] at a1
      cases a1
  · intro ky hky
    rw [List.mem_append, List.mem_singleton] at hky
    rw [hj ky fun e => hky (.inr e)]
    exact h.no ky fun e => hky (.inl e)
  · intro f
    have hc := h.cnt f
    rw [e1] at hc
    rw [hqe]
    simp only [List.filter_append, List.length_append, List.filter_cons, List.filter_nil] at hc ⊢
    rw [hc]
    cases f key <;> simp
    omega
theorem PlI.putOld {k : Int} {ps : List Pair} {K V : List ByteArray} {T : List Int} (h : PlI k ps K V T) {i : Nat} {key value : ByteArray} {t : Int} (hi : K[i]? = some key) (ht : T[i]? = some t) (h1 : ltb none8 key = true) (h2 : key.size ≤ 16) (h3 : value.size ≤ 64) (h0 : 0 ≤ k) (hk2 : k ≤ 4611686018427387904) : ∃ qs, putX (pairsX ps) key value = (pairsX qs, 0) ∧ PlI (k + 1) qs K (V.set i value) (T.set i (t + 1)) := by
  obtain ⟨v, t', hv, ht', hlk, _, _⟩ := h.get hi
  rw [ht] at ht'
  cases ht'
  have hw : (putX (pairsX ps) key value).2 = 0 := by
    unfold putX findX
    rw [pairsOf_X, find_some h.ok.1 hlk, if_pos rfl]
  obtain ⟨qs, e, hq, hj, hqk⟩ := put_ok h.ok h1 h2 h3 h0 hk2 hw
  rw [hlk] at hqk
  have hkm : key ∈ K := List.mem_of_getElem? hi
  have hil := (List.getElem?_eq_some_iff.1 hi).1
  refine ⟨qs, by rw [← e, ← hw], hq, h.nd, by simp [h.lv], by simp [h.lt], ?_, ?_, ?_⟩
  · intro j ky w u a1 a2 a3
    by_cases hji : i = j
    · subst hji
      rw [hi] at a1
      cases a1
      rw [List.getElem?_set_self (by rw [h.lv]; exact hil)] at a2
      rw [List.getElem?_set_self (by rw [h.lt]; exact hil)] at a3
      cases a2
      cases a3
      exact hqk
    · rw [List.getElem?_set_ne hji] at a2 a3
      have hne : ky ≠ key := fun e => by
        subst e
        have hjl := (List.getElem?_eq_some_iff.1 a1).1
        exact hji ((List.getElem?_inj hil h.nd).1 (hi.trans a1.symm))
      rw [hj ky hne]
      exact h.at_ j ky w u a1 a2 a3
  · intro ky hky
    rw [hj ky fun e => hky (e ▸ hkm)]
    exact h.no ky hky
  · intro f
    rw [h.cnt f]
    obtain ⟨a, b, b1, b2, b3, b4⟩ := findL_split key ps 0
    have hft := find_some h.ok.1 hlk
    rcases b4 with ⟨_, h5⟩ | ⟨q, r, hb, h5, h6⟩
    · rw [hft] at h5; cases h5
    · rw [hft] at h6
      have hqk2 : q.key = key := of_decide_eq_true h6.symm
      have e9 : pairsX qs = pairsX (a ++ ⟨q.key, value, IntKind.wrap .i64 (q.version + 1)⟩ :: r) := by
        rw [← e]
        unfold putX findX
        rw [pairsOf_X, hft, if_pos rfl, b2, show ((0 : Int) + (a.length : Int)).toNat = a.length by omega, b1, hb]
        simp only [setP, rowP_at, rowP_row]
        simp [pairsX]
      rw [pairsX_inj.1 e9, b1, hb]
      simp only [List.filter_append, List.length_append, List.filter_cons]
      cases f q.key <;> rfl
theorem PlI.delNo {k : Int} {ps : List Pair} {K V : List ByteArray} {T : List Int} (h : PlI k ps K V T) {key : ByteArray} (hk : key ∉ K) : delX (pairsX ps) key = (pairsX ps, false) := by
  unfold delX findX
  rw [pairsOf_X, find_none (h.no key hk), if_neg (by simp)]
theorem PlI.del {k : Int} {ps : List Pair} {K V : List ByteArray} {T : List Int} (h : PlI k ps K V T) {i : Nat} {key : ByteArray} (hi : K[i]? = some key) : ∃ qs, delX (pairsX ps) key = (pairsX qs, true) ∧ PlI k qs (K.take i ++ K.drop (i + 1)) (V.take i ++ V.drop (i + 1)) (T.take i ++ T.drop (i + 1)) := by
  obtain ⟨v, t, hv, ht, hlk, _, _⟩ := h.get hi
  obtain ⟨qs, e, hq, hj, hqk⟩ := del_ok h.ok key
  have hft := find_some h.ok.1 hlk
  have hil := (List.getElem?_eq_some_iff.1 hi).1
  obtain ⟨a, b, b1, b2, b3, b4⟩ := findL_split key ps 0
  rcases b4 with ⟨_, h5⟩ | ⟨q, r, hb, h5, h6⟩
  · rw [hft] at h5; cases h5
  rw [hft] at h6
  have hqk2 : q.key = key := of_decide_eq_true h6.symm
  have hpe : ps = a ++ q :: r := by rw [b1, hb]
  have hd := del_at a r q key b3 hqk2
  rw [← hpe] at hd
  have hqe : qs = a ++ r := pairsX_inj.1 (by rw [← e, hd])
  have hK : K = K.take i ++ key :: K.drop (i + 1) := by
    have := List.take_append_drop i K
    rw [List.drop_eq_getElem_cons hil, show K[i] = key from by rw [List.getElem?_eq_getElem hil] at hi; exact Option.some.inj hi] at this
    exact this.symm
  have hnd := h.nd
  rw [hK, List.nodup_append] at hnd
  have hnk : key ∉ K.take i ++ K.drop (i + 1) := by
    rw [List.mem_append]
    rintro (hm | hm)
    · exact hnd.2.2 key hm key (by simp) rfl
    · exact (List.nodup_cons.1 hnd.2.1).1 hm
  have hsub : ∀ x, x ∈ K.take i ++ K.drop (i + 1) → x ∈ K := fun x hx => by
    rw [List.mem_append] at hx
    rcases hx with hx | hx
    · exact List.mem_of_mem_take hx
    · exact List.mem_of_mem_drop hx
  refine ⟨qs, by rw [hd, hqe], hq, ?_, ?_, ?_, ?_, ?_, ?_⟩
  · rw [List.nodup_append]
    exact ⟨hnd.1, (List.nodup_cons.1 hnd.2.1).2, fun x hx y hy => hnd.2.2 x hx y (by simp [hy])⟩
  · simp only [List.length_append, List.length_take, List.length_drop, h.lv]
  · simp only [List.length_append, List.length_take, List.length_drop, h.lt]
  · intro j ky w u a1 a2 a3
    have hne : ky ≠ key := fun e9 => hnk (e9 ▸ List.mem_of_getElem? a1)
    rw [hj ky hne]
    have up : ∀ {α : Type} (L : List α), L.length = K.length → ∀ x, (L.take i ++ L.drop (i + 1))[j]? = some x → L[if j < i then j else j + 1]? = some x := fun L hL x hx => by
      rw [List.getElem?_append] at hx
      split at hx
      · rename_i hlt
        rw [List.length_take] at hlt
        rw [if_pos (by omega)]
        rw [List.getElem?_take] at hx
        split at hx
        · exact hx
        · cases hx
      · rename_i hge
        rw [List.length_take] at hge
        rw [if_neg (by omega)]
        rw [List.getElem?_drop, List.length_take, Nat.min_eq_left (by omega)] at hx
        rw [← hx]
        congr 1
        omega
    exact h.at_ _ ky w u (up K rfl _ a1) (up V h.lv _ a2) (up T h.lt _ a3)
  · intro ky hky
    by_cases hne : ky = key
    · rw [hne]; exact hqk
    · rw [hj ky hne]
      refine h.no ky fun hm => hky ?_
      rw [hK, List.mem_append, List.mem_cons] at hm
      rw [List.mem_append]
      rcases hm with hm | hm | hm
      · exact .inl hm
      · exact absurd hm hne
      · exact .inr hm
  · intro f
    have hc := h.cnt f
    rw [hpe] at hc
    rw [hK] at hc
    rw [hqe]
    simp only [List.filter_append, List.length_append, List.filter_cons, hqk2] at hc ⊢
    cases hf : f key <;> rw [hf] at hc <;> simp at hc ⊢ <;> omega
theorem PlI.got {k : Int} {ps : List Pair} {K V : List ByteArray} {T : List Int} (h : PlI k ps K V T) {i : Nat} {key v : ByteArray} {t : Int} (hi : K[i]? = some key) (hv : V[i]? = some v) (ht : T[i]? = some t) : getP (pairsX ps) key = (⟨key, v, t⟩, true) := by
  rw [get_look h.ok.1]
  unfold gotL
  rw [h.at_ i key v t hi hv ht]
theorem PlI.gotNo {k : Int} {ps : List Pair} {K V : List ByteArray} {T : List Int} (h : PlI k ps K V T) {key : ByteArray} (hk : key ∉ K) : getP (pairsX ps) key = (⟨none8, none8, 0⟩, false) := by
  rw [get_look h.ok.1]
  unfold gotL
  rw [h.no key hk]
/-- Where a key stands, of the first so many; -1: it doesn't. -/
def atJ (K : List ByteArray) (key : ByteArray) : Nat → Int
  | 0 => -1
  | j + 1 => if K[j]? = some key then (j : Int) else atJ K key j
theorem atJ_spec (K : List ByteArray) (key : ByteArray) : ∀ j, j ≤ K.length → (atJ K key j = -1 ∧ key ∉ K.take j) ∨ ∃ i : Nat, atJ K key j = (i : Int) ∧ i < j ∧ K[i]? = some key
  | 0, _ => .inl ⟨rfl, by simp⟩
  | j + 1, hj => by
      unfold atJ
      split
      · rename_i e
        exact .inr ⟨j, rfl, by omega, e⟩
      · rename_i e
        rcases atJ_spec K key j (by omega) with ⟨h1, h2⟩ | ⟨i, h1, h2, h3⟩
        · refine .inl ⟨h1, fun hm => ?_⟩
          rw [List.take_succ, List.mem_append] at hm
          rcases hm with hm | hm
          · exact h2 hm
          · rw [Option.mem_toList] at hm
            exact e hm
        · exact .inr ⟨i, h1, by omega, h3⟩
theorem atJ_all (K : List ByteArray) (key : ByteArray) : (atJ K key K.length = -1 ∧ key ∉ K) ∨ ∃ i : Nat, atJ K key K.length = (i : Int) ∧ i < K.length ∧ K[i]? = some key := by
  have := atJ_spec K key K.length (Nat.le_refl _)
  rwa [List.take_length] at this
/-- How many of the first so many keys a span has. -/
def cntJ (K : List ByteArray) (s : Span) (j : Nat) : Nat := ((K.take j).filter (hasS s)).length
theorem cntJ_succ {K : List ByteArray} {s : Span} {j : Nat} (h : j < K.length) : cntJ K s (j + 1) = cntJ K s j + if hasS s (K[j]'h) = true then 1 else 0 := by
  unfold cntJ
  rw [List.take_succ_eq_append_getElem h, List.filter_append, List.length_append, List.filter_cons]
  split <;> simp
theorem PlI.range {k : Int} {ps : List Pair} {K V : List ByteArray} {T : List Int} (h : PlI k ps K V T) (s : Span) : (rangeX (pairsX ps) s).1.length = min (cntJ K s K.length) 8 ∧ (rangeX (pairsX ps) s).2 = decide (8 < cntJ K s K.length) := by
  have hc := h.cnt (hasS s)
  have e : cntJ K s K.length = (ps.filter fun p => hasS s p.key).length := by unfold cntJ; rw [List.take_length]; exact hc
  rw [range_eq, e, pairsX_length, List.length_take]
  exact ⟨Nat.min_comm _ _, rfl⟩

end Go.Proofs.Ytbceikkjogbgeaa
