/- Pairs and replies: what the functions give. No condition. -/
import Derived.Test.YtadnpgkddgbhkaaZX5
import Derived.Test.YtadnpgkddgbhkaaZX12
import Derived.Test.YtadnpgkddgbhkaaZX14
import Derived.Test.YtadnpgkddgbhkaaZX13
namespace Go.Proofs.Ytadnpgkddgbhkaa
open Go.RowKit
set_option linter.all false
abbrev none8 : ByteArray := { data := #[] }
structure Pair where
 key : ByteArray
 value : ByteArray
 version : Int
def Pair.row (p : Pair) : List PD := [.sc (.string p.key), .sc (.string p.value), .sc (.int .i64 p.version)]
def pairsX (ps : List Pair) : List (List PD) := ps.map Pair.row
def isP (xs : List (List PD)) : Prop := ∃ ps, xs = pairsX ps ∧ ps.length ≤ 4194304
theorem isP.len {xs : List (List PD)} (h : isP xs) : xs.length ≤ 4194304 := by obtain ⟨ps, rfl, h⟩ := h; simpa [pairsX] using h
theorem isP.sz {xs : List (List PD)} (h : isP xs) : ∀ x ∈ xs, x.length = 3 := by
 obtain ⟨ps, rfl, h⟩ := h
 intro x hx
 simp only [pairsX, List.mem_map] at hx
 obtain ⟨_, _, rfl⟩ := hx
 rfl
theorem isP.nil : isP [] := ⟨[], rfl, by decide⟩
structure Reply where
 why : Int
 found : Bool
 value : ByteArray
 version : Int
 pairs : List (List PD)
def Reply.D (x : Reply) : DV := .agg [.d (.sc (.int .i64 x.why)), .d (.sc (.bool x.found)), .d (.sc (.string x.value)), .d (.sc (.int .i64 x.version)), .d (.slc 3 x.pairs)]
def r64 (n : Int) : Prop := -9223372036854775808 ≤ n ∧ n ≤ 9223372036854775807
theorem wrap_i64 {a : Int} (h : r64 a) : IntKind.wrap .i64 a = a := by
 unfold r64 at h
 simp only [IntKind.wrap, IntKind.bits, IntKind.signed]
 simp
 omega
instance : Inhabited Pair := ⟨⟨none8, none8, 0⟩⟩
def rowP : List PD → Pair
 | [.sc (.string k), .sc (.string v), .sc (.int _ n)] => ⟨k, v, n⟩
 | _ => ⟨none8, none8, 0⟩
def pairsOf (xs : List (List PD)) : List Pair := xs.map rowP
theorem pairsOf_X (ps : List Pair) : pairsOf (pairsX ps) = ps := by
 induction ps with
 | nil => rfl
 | cons p ps ih =>
   have : pairsOf (pairsX (p :: ps)) = p :: pairsOf (pairsX ps) := rfl
   rw [this, ih]
def okP1 (last : ByteArray) (p : Pair) : Bool := ltb last p.key && decide (p.key.size ≤ 16) && decide (p.value.size ≤ 64) && decide (1 ≤ p.version)
def riseP : ByteArray → List Pair → Bool
 | _, [] => true
 | last, p :: ps => okP1 last p && riseP p.key ps
def rightP (ps : List Pair) : Bool := decide (ps.length ≤ 32) && riseP none8 ps
def rightX (xs : List (List PD)) : Bool := rightP (pairsOf xs)
theorem prow {xs : List (List PD)} {ps : List Pair} (hxs : xs = pairsX ps) {i : Int} (h0 : 0 ≤ i) (h1 : i < ps.length) : xs.getD i.toNat [] = (ps[i.toNat]'(by omega)).row := by
 subst hxs
 have : i.toNat < ps.length := by omega
 simp [pairsX, List.getD_eq_getElem?_getD, this]
theorem pairsX_length (ps : List Pair) : (pairsX ps).length = ps.length := by simp [pairsX]
theorem pdrop {ps : List Pair} {i : Int} (h0 : 0 ≤ i) (h1 : i < ps.length) : ps.drop i.toNat = (ps[i.toNat]'(by omega)) :: ps.drop (i + 1).toNat := by
 have h : i.toNat < ps.length := by omega
 rw [List.drop_eq_getElem_cons h]
 congr 2
 omega
def idX (xs : List (List PD)) : List (List PD) := xs
structure FsK where
 rightR : List (List PD) → Bool
 right : List (List PD) → Bool
 clone : List (List PD) → List (List PD)
 isP : List (List PD) → Prop
def FsK0 : FsK where
 rightR := rightX
 right := rightX
 clone := idX
 isP := isP
set_option maxRecDepth 100000 in
theorem v_clone (xs : List (List PD)) (hp0 : FsK0.isP xs) : FnV Try.prog 46 [.d (.slc 3 xs)] (.d (.slc 3 (idX xs))) := by
 rcases xs with _ | ⟨x, xs⟩
 ·refine FnD_cbv (T := fun _ => tabY [] []) (H := fun _ => []) (tabY_ok _ _) noK_ok follows_mixed Try.func46 rfl Try.ntmps46 (by simp) fun A X W hA hX hW => ?_
  cbv
  refine nilTestL hX tab_ok (sz := 3) (sz' := 3) (e := 43) rfl rfl ?_ ?_
  ·cbv
   subst hA hX hW
   exact ret_nil rfl
  ·cbv
   subst hA hX hW
   refine ⟨rfl, rfl, ?_, ?_⟩
   ·simp [A0]
   ·exact ret_slice (bx := ⟨43, _, true, 1, true⟩) rfl rfl rfl rfl rfl (by simp) rfl
 ·refine FnD_cbv (T := fun _ => tabY [] []) (H := fun _ => []) (tabY_ok _ _) noK_ok follows_mixed Try.func46 rfl Try.ntmps46 (by simp) fun A X W hA hX hW => ?_
  cbv
  subst hA hX hW
  refine ⟨rfl, rfl, ?_, ?_⟩
  ·have := isP.len hp0
   simp only [A0]
   generalize (x :: xs).length = n at *
   omega
  ·exact ret_slice (bx := ⟨43, _, true, 1, true⟩) rfl rfl rfl (Nat.zero_add _) rfl (isP.sz hp0) rfl
def kn_clone (F : FsK) : FuncId × (List DV → RV) := (46, fun args => match args with
 | [.d (.slc 3 xs)] => some ([F.isP xs], .d (.slc 3 (F.clone xs)))
 | [.d (.sc (.slice none 0 0))] => some ([F.isP []], .d (.slc 3 (F.clone [])))
 | _ => none)
theorem ok_clone (args : List DV) (cs : List Prop) (r : DV) (h : (kn_clone FsK0).2 args = some (cs, r)) (hc : allP cs True) : FnV Try.prog 46 args r ∧ closedL 0 args = true := by
 unfold kn_clone at h
 simp only at h
 split at h
 ·cases h; exact ⟨v_clone _ hc.1, rfl⟩
 ·cases h; exact ⟨FnP.nils (v_clone [] hc.1) ⟨.inr ⟨rfl, _, rfl⟩, trivial⟩, rfl⟩
 ·cases h
set_option maxRecDepth 100000 in
theorem v_right (xs : List (List PD)) (hp0 : FsK0.isP xs) : FnV Try.prog 41 [.d (.slc 3 xs)] (boolD ((rightX xs))) := by
 obtain ⟨ps, hxs, hl⟩ := hp0
 have hlen : xs.length = ps.length := by rw [hxs]; exact pairsX_length ps
 have hof : pairsOf xs = ps := by rw [hxs]; exact pairsOf_X ps
 obtain ⟨n, hn⟩ : ∃ n : Int, n = ps.length := ⟨_, rfl⟩
 refine FnD_cbv (T := fun _ => tabY [13] []) (H := fun _ => []) (tabY_ok _ _) noK_ok follows_mixed Try.func41 rfl Try.ntmps41 (by simp) fun A X W hA hX hW => ?_
 cbv
 refine part (fun h => ?_) (fun h => ?_)
 ·cbv
  subst hA hX hW
  simp only [A0, decide_eq_true_eq] at h
  refine ret_v ?_ rfl
  have : ¬ ps.length ≤ 32 := by omega
  simp [boolD, rightX, rightP, hof, this]
 ·cbv
  refine loopL (T := fun _ => tabY [13] []) (H := fun _ => []) (tabY_ok _ _) noK_ok follows_mixed hA hX (fun x : Int × ByteArray => 0 ≤ x.1 ∧ x.1 ≤ ps.length ∧ riseP none8 ps = riseP x.2 (ps.drop x.1.toNat))
   (fun x => [(3, .d (.sc (.string x.2))), (9, .d (.slc 3 xs)), (10, .d (.sc (.int .i64 n))), (11, .d (.sc (.int .i64 x.1)))]) (fun _ => [])
   (fun x => (ps.length : Int).toNat - x.1.toNat) (0, none8) ?_ ?_ ?_
  ·exact ⟨by omega, by omega, rfl⟩
  ·subst hA; exact told_less (by simp [toldP, getS, A0, hn, hlen])
  rintro R ⟨i, last⟩ hR ⟨i0, i1, i2⟩
  replace i0 : 0 ≤ i := i0
  replace i1 : i ≤ ps.length := i1
  replace i2 : riseP none8 ps = riseP last (ps.drop i.toNat) := i2
  cbv
  refine part (fun h2 => ?_) (fun h2 => ?_)
  ·cbv
   replace hn : n = (ps.length : Int) := hn
   replace hlen : xs.length = ps.length := hlen
   replace i0 : 0 ≤ i := i0
   replace i1 : i ≤ (ps.length : Int) := i1
   replace hl : ps.length ≤ 4194304 := hl
   have hi : i < ps.length := by
    subst hA
    simp only [A0, decide_eq_true_eq] at h2
    omega
   have hrow := prow hxs i0 hi
   have hd := pdrop i0 hi
   generalize ps[i.toNat]'(by omega) = p at hrow hd
   rw [hd] at i2
   have i3 : riseP last (p :: ps.drop (i + 1).toNat) = (okP1 last p && riseP p.key (ps.drop (i + 1).toNat)) := rfl
   rw [i3] at i2
   repeat' first
    | (refine part (fun h3 => ?_) (fun h3 => ?_) <;> try cbv)
    | (refine And.intro ?_ ?_)
   all_goals subst hA hX hW hR
   all_goals first
    | (intro _; trivial)
    | (intro hq; exact hq)
    | (intro hq; simpa [A0] using hq)
    | (show 0 ≤ i ∧ i < (xs.length : Int); omega)
    | (simp only [A0, hrow]; simp [Pair.row]; done)
    | skip
   ·refine ret_v ?_ rfl
    have hk : okP1 last p = false := by
     simp only [A0, hrow] at h3
     simp [Pair.row] at h3
     have t := ltb_total last p.key
     simp only [okP1, Bool.and_eq_false_iff, decide_eq_false_iff_not]
     rcases h3 with ((h3 | h3) | h3) | h3
     ·rcases h3 with h3 | h3
      ·simp_all
      ·simp_all [ltb_irrefl]
     ·omega
     ·omega
     ·omega
    rw [hk] at i2
    simp [boolD, rightX, rightP, hof, i2]
   ·have hk : okP1 last p = true := by
     simp only [A0, hrow] at h3
     simp [Pair.row] at h3
     have t := ltb_total last p.key
     simp only [okP1, Bool.and_eq_true, decide_eq_true_eq]
     obtain ⟨⟨⟨⟨a1, a2⟩, a3⟩, a4⟩, a5⟩ := h3
     refine ⟨⟨⟨?_, by omega⟩, by omega⟩, by omega⟩
     simp_all
    rw [hk, Bool.true_and] at i2
    have hi' : i < (ps.length : Int) := hi
    have hl' : ps.length ≤ 4194304 := hl
    have i0' : 0 ≤ i := i0
    have hw : IntKind.wrap .i64 (i + 1) = i + 1 := wrap_i64 (by unfold r64; omega)
    have hkey : A0.gs (A0.lift (A0.row xs i)) 0 = p.key := by simp only [A0, hrow]; simp [Pair.row]
    refine ⟨(i + 1, p.key), ⟨by simp only; omega, by simp only; omega, i2⟩, by simp only; omega, told_keep [] rfl rfl ?_⟩
    simp [toldP, getS, A0, hw, pullD]
    simp [A0] at hkey
    exact hkey.symm
  ·cbv
   replace hn : n = (ps.length : Int) := hn
   replace hlen : xs.length = ps.length := hlen
   replace i1 : i ≤ (ps.length : Int) := i1
   subst hA hX hW hR
   simp only [A0, decide_eq_false_iff_not] at h2 h
   refine ret_v ?_ rfl
   have hil : i.toNat = ps.length := by omega
   rw [hil, List.drop_length] at i2
   have h5 : ps.length ≤ 32 := by omega
   simp [boolD, rightX, rightP, hof, i2, h5, riseP]
def kn_right (F : FsK) : FuncId × (List DV → RV) := (41, fun args => match args with
 | [.d (.slc 3 xs)] => some ([F.isP xs], boolD ((F.right xs)))
 | [.d (.sc (.slice none 0 0))] => some ([F.isP []], boolD ((F.right [])))
 | _ => none)
theorem ok_right (args : List DV) (cs : List Prop) (r : DV) (h : (kn_right FsK0).2 args = some (cs, r)) (hc : allP cs True) : FnV Try.prog 41 args r ∧ closedL 0 args = true := by
 unfold kn_right at h
 simp only at h
 split at h
 ·cases h; exact ⟨v_right _ hc.1, rfl⟩
 ·cases h; exact ⟨FnP.nils (v_right [] hc.1) ⟨.inr ⟨rfl, _, rfl⟩, trivial⟩, rfl⟩
 ·cases h
def lastK (ps : List Pair) (i : Int) : ByteArray := if i ≤ 0 then none8 else (ps.getD (i - 1).toNat default).key
theorem okR (i : Int) (p q : Pair) (last : ByteArray) (hlast : last = if i ≤ 0 then none8 else q.key) (b : Bool)
  (hb : b = true ↔ ((((p.key = none8 ∨ 16 < (p.key.size : Int)) ∨ 64 < (p.value.size : Int)) ∨ p.version < 1) ∨ 0 < i ∧ ltb q.key p.key = false)) : okP1 last p = !b := by
 have e1 := empty_ltb p.key
 have e2 : 0 < i → ltb q.key p.key = true → p.key ≠ none8 := by
  intro _ h e
  rw [e, ltb_empty] at h
  cases h
 have e0 : ({ data := #[] } : ByteArray) = none8 := rfl
 rw [Bool.eq_iff_iff]
 simp only [okP1, Bool.and_eq_true, decide_eq_true_eq, Bool.not_eq_true', ← Bool.not_eq_true, hb]
 by_cases hi : i ≤ 0
 ·rw [if_pos hi] at hlast
  subst hlast
  rw [e1]
  have h0 : ¬ (0 < i) := by omega
  simp only [h0, false_and, or_false, Bool.not_eq_true, Bool.not_eq_eq_eq_not, Bool.not_true, decide_eq_false_iff_not]
  constructor
  ·rintro ⟨⟨⟨a, b⟩, c⟩, d⟩ (((h | h) | h) | h)
   ·exact a h
   all_goals omega
  ·intro h
   refine ⟨⟨⟨?_, ?_⟩, ?_⟩, ?_⟩
   ·intro h2; exact h (.inl (.inl (.inl h2)))
   ·apply Decidable.byContradiction; intro h2; exact h (.inl (.inl (.inr (by omega))))
   ·apply Decidable.byContradiction; intro h2; exact h (.inl (.inr (by omega)))
   ·apply Decidable.byContradiction; intro h2; exact h (.inr (by omega))
 ·rw [if_neg hi] at hlast
  subst hlast
  have h0 : 0 < i := by omega
  simp only [h0, true_and]
  constructor
  ·rintro ⟨⟨⟨a, b⟩, c⟩, d⟩ ((((h | h) | h) | h) | h)
   ·exact e2 h0 a h
   ·omega
   ·omega
   ·omega
   ·rw [a] at h; exact absurd h (by decide)
  ·intro h
   refine ⟨⟨⟨?_, ?_⟩, ?_⟩, ?_⟩
   ·cases h2 : ltb q.key p.key
    ·exact absurd (.inr (by rw [h2]; decide)) h
    ·rfl
   ·apply Decidable.byContradiction; intro h2; exact h (.inl (.inl (.inl (.inr (by omega)))))
   ·apply Decidable.byContradiction; intro h2; exact h (.inl (.inl (.inr (by omega))))
   ·apply Decidable.byContradiction; intro h2; exact h (.inl (.inr (by omega)))
set_option maxRecDepth 100000 in
theorem v_rightR (xs : List (List PD)) (hp0 : FsK0.isP xs) : FnV Try.prog 87 [.d (.slc 3 xs)] (boolD ((rightX xs))) := by
 obtain ⟨ps, hxs, hl⟩ := hp0
 have hlen : xs.length = ps.length := by rw [hxs]; exact pairsX_length ps
 have hof : pairsOf xs = ps := by rw [hxs]; exact pairsOf_X ps
 refine FnD_cbv (T := fun _ => tabY [12, 13, 19, 20, 28, 29, 37, 38, 49, 50, 54, 55] []) (H := fun _ => []) (tabY_ok _ _) noK_ok follows_mixed Try.func87 rfl Try.ntmps87 (by simp) fun A X W hA hX hW => ?_
 cbv
 refine loopL (T := fun _ => tabY [12, 13, 19, 20, 28, 29, 37, 38, 49, 50, 54, 55] []) (H := fun _ => []) (tabY_ok _ _) noK_ok follows_mixed hA hX (fun i : Int => 0 ≤ i ∧ i ≤ ps.length ∧ riseP none8 ps = riseP (lastK ps i) (ps.drop i.toNat))
  (fun i => [(0, .d (.slc 3 xs)), (3, .d (.sc (.int .i64 i)))]) (fun _ => [])
  (fun i => (ps.length : Int).toNat - i.toNat) 0 ?_ ?_ ?_
 ·exact ⟨by omega, by omega, rfl⟩
 ·subst hA; exact told_less (by simp [toldP, getS, A0, hlen])
 rintro R i hR ⟨i0, i1, i2⟩
 cbv
 refine part (fun h2 => ?_) (fun h2 => ?_)
 ·cbv
  replace hlen : xs.length = ps.length := hlen
  replace i0 : 0 ≤ i := i0
  replace i1 : i ≤ (ps.length : Int) := i1
  replace hl : ps.length ≤ 4194304 := hl
  have hi : i < ps.length := by
   subst hA
   simp only [A0, decide_eq_true_eq] at h2
   omega
  have hw1 : IntKind.wrap .i64 (i - 1) = i - 1 := wrap_i64 (by unfold r64; omega)
  have hrow := prow hxs i0 hi
  have hd := pdrop i0 hi
  have hlt : (i - 1).toNat < ps.length := by omega
  have hrow1 : xs.getD (i - 1).toNat [] = (ps[(i - 1).toNat]'hlt).row := by
   rw [hxs, List.getD_eq_getElem?_getD, pairsX, List.getElem?_map, List.getElem?_eq_getElem hlt]
   rfl
  have hlast : lastK ps i = if i ≤ 0 then none8 else (ps[(i - 1).toNat]'hlt).key := by
   rw [lastK, List.getD_eq_getElem?_getD, List.getElem?_eq_getElem hlt]
   rfl
  generalize ps[i.toNat]'(by omega) = p at hrow hd
  generalize ps[(i - 1).toNat]'hlt = q at hrow1 hlast
  rw [hd] at i2
  have i3 : riseP (lastK ps i) (p :: ps.drop (i + 1).toNat) = (okP1 (lastK ps i) p && riseP p.key (ps.drop (i + 1).toNat)) := rfl
  rw [i3] at i2
  repeat' first
   | (refine part (fun h3 => ?_) (fun h3 => ?_) <;> try cbv)
   | (refine And.intro ?_ ?_)
  all_goals subst hA hX hW hR
  all_goals first
   | (show Region.lexB _ _ = true; kernel_rfl)
   | (intro _; trivial)
   | (intro hq; exact hq)
   | (intro hq; simpa [A0] using hq)
   | (show 0 ≤ i ∧ i < (xs.length : Int); omega)
   | (intro _; show 0 ≤ i ∧ i < (xs.length : Int); omega)
   | (simp only [A0, hrow]; simp [Pair.row]; done)
   | (intro _; simp only [A0, hrow]; simp [Pair.row]; done)
   | (intro _; simp only [A0, hw1, hrow1]; simp [Pair.row]; done)
   | (intro hq
      have h0 : 0 < i := by
       simp only [A0, Bool.and_eq_true, beq_iff_eq, decide_eq_true_eq] at hq
       exact hq.2
      simp only [A0, hw1]
      show 0 ≤ i - 1 ∧ i - 1 < (xs.length : Int)
      omega)
   | skip
  ·have hk := okR i p q _ hlast _ ((Iff.of_eq (congrArg (fun x : Bool => x = true) h3.symm)).trans (by simp only [A0, hw1, hrow, hrow1]; simp [Pair.row]))
   rw [hk] at i2
   refine ret_v ?_ rfl
   simp [boolD, rightX, rightP, hof, i2]
  ·have hk := okR i p q _ hlast _ ((Iff.of_eq (congrArg (fun x : Bool => x = true) h3.symm)).trans (by simp only [A0, hw1, hrow, hrow1]; simp [Pair.row]))
   rw [hk, Bool.not_false, Bool.true_and] at i2
   have hi' : i < (ps.length : Int) := hi
   have hl' : ps.length ≤ 4194304 := hl
   have i0' : 0 ≤ i := i0
   have hw : IntKind.wrap .i64 (i + 1) = i + 1 := wrap_i64 (by unfold r64; omega)
   have hl1 : lastK ps (i + 1) = p.key := by
    have h5 : i.toNat < ps.length := by omega
    rw [lastK, if_neg (by omega), show (i + 1 - 1).toNat = i.toNat by omega, List.getD_eq_getElem?_getD, List.getElem?_eq_getElem h5]
    rw [List.drop_eq_getElem_cons h5] at hd
    exact congrArg Pair.key (List.cons.inj hd).1
   refine ⟨i + 1, ⟨by omega, by omega, by rw [hl1]; exact i2⟩, by omega, told_less ?_⟩
   simp [toldP, getS, A0, hw]
 ·cbv
  replace hlen : xs.length = ps.length := hlen
  replace i1 : i ≤ (ps.length : Int) := i1
  subst hA hX hW hR
  simp only [A0, decide_eq_false_iff_not] at h2
  replace h2 : ¬ i < (xs.length : Int) := h2
  refine ret_v ?_ rfl
  have hil : i.toNat = ps.length := by omega
  rw [hil, List.drop_length] at i2
  simp only [A0]
  rw [rightX, hof, rightP, i2]
  show boolD (decide ((xs.length : Int) ≤ 32)) = boolD (decide (ps.length ≤ 32) && true)
  rw [Bool.and_true]
  congr 1
  rw [decide_eq_decide]
  omega
def kn_rightR (F : FsK) : FuncId × (List DV → RV) := (87, fun args => match args with
 | [.d (.slc 3 xs)] => some ([F.isP xs], boolD ((F.rightR xs)))
 | [.d (.sc (.slice none 0 0))] => some ([F.isP []], boolD ((F.rightR [])))
 | _ => none)
theorem ok_rightR (args : List DV) (cs : List Prop) (r : DV) (h : (kn_rightR FsK0).2 args = some (cs, r)) (hc : allP cs True) : FnV Try.prog 87 args r ∧ closedL 0 args = true := by
 unfold kn_rightR at h
 simp only at h
 split at h
 ·cases h; exact ⟨v_rightR _ hc.1, rfl⟩
 ·cases h; exact ⟨FnP.nils (v_rightR [] hc.1) ⟨.inr ⟨rfl, _, rfl⟩, trivial⟩, rfl⟩
 ·cases h
end Go.Proofs.Ytadnpgkddgbhkaa
namespace Go.Proofs.Ytadnpgkddgbhkaa
open Go.RowKit
set_option linter.all false
def findL (key : ByteArray) : List Pair → Int → Int × Bool
 | [], i => (i, false)
 | p :: ps, i => if ltb p.key key = true then findL key ps (i + 1) else (i, decide (p.key = key))
def findX (xs : List (List PD)) (key : ByteArray) : Int × Bool := findL key (pairsOf xs) 0
theorem findL_range (key : ByteArray) : ∀ (ps : List Pair) (i : Int), i ≤ (findL key ps i).1 ∧ (findL key ps i).1 ≤ i + ps.length ∧ ((findL key ps i).2 = true → (findL key ps i).1 < i + ps.length)
 | [], i => by simp [findL]
 | p :: ps, i => by
     unfold findL
     split
     ·obtain ⟨a, b, c⟩ := findL_range key ps (i + 1)
      simp only [List.length_cons]
      exact ⟨by omega, by omega, fun h => by have := c h; omega⟩
     ·simp only [List.length_cons]
      exact ⟨by omega, by omega, fun _ => by omega⟩
theorem pairsOf_length (xs : List (List PD)) : (pairsOf xs).length = xs.length := by simp [pairsOf]
theorem findX_range (xs : List (List PD)) (key : ByteArray) : 0 ≤ (findX xs key).1 ∧ (findX xs key).1 ≤ xs.length ∧ ((findX xs key).2 = true → (findX xs key).1 < xs.length) := by
 obtain ⟨a, b, c⟩ := findL_range key (pairsOf xs) 0
 rw [pairsOf_length] at b c
 unfold findX
 exact ⟨a, by omega, fun h => by have := c h; omega⟩
def getX (xs : List (List PD)) (key : ByteArray) : Pair := if (findX xs key).2 = true then rowP (xs.getD (findX xs key).1.toNat []) else ⟨none8, none8, 0⟩
def thereX (xs : List (List PD)) (key : ByteArray) : Bool := (findX xs key).2
def Pair.D (p : Pair) : DV := .agg [.d (.sc (.string p.key)), .d (.sc (.string p.value)), .d (.sc (.int .i64 p.version))]
structure FsP where
 find : List (List PD) → ByteArray → Int × Bool
 findR : List (List PD) → ByteArray → Int × Bool
 get : List (List PD) → ByteArray → Pair
 there : List (List PD) → ByteArray → Bool
 isP : List (List PD) → Prop
def FsP0 : FsP where
 find := findX
 findR := findX
 get := getX
 there := thereX
 isP := isP
set_option maxRecDepth 100000 in
theorem v_find (xs : List (List PD)) (key : ByteArray) (hp0 : FsP0.isP xs) : FnV Try.prog 66 [.d (.slc 3 xs), strD key] (.tup [intD (((findX xs key)).1), boolD (((findX xs key)).2)]) := by
 obtain ⟨ps, hxs, hl⟩ := hp0
 have hlen : xs.length = ps.length := by rw [hxs]; exact pairsX_length ps
 have hof : findX xs key = findL key ps 0 := by rw [findX, hxs, pairsOf_X ps]
 obtain ⟨n, hn⟩ : ∃ n : Int, n = ps.length := ⟨_, rfl⟩
 rw [hof]
 obtain ⟨q, hq⟩ : ∃ q, q = findL key ps 0 := ⟨_, rfl⟩
 rw [← hq]
 refine FnD_cbv (T := fun _ => tabY [13] []) (H := fun _ => []) (tabY_ok _ _) noK_ok follows_mixed Try.func66 rfl Try.ntmps66 (by simp) fun A X W hA hX hW => ?_
 cbv
 replace hn : n = (ps.length : Int) := hn
 refine loopL (T := fun _ => tabY [13] []) (H := fun _ => []) (tabY_ok _ _) noK_ok follows_mixed hA hX (fun x : Int => (0 ≤ x ∧ x ≤ n) ∧ q = findL key (ps.drop x.toNat) x)
  (fun x => [(0, .d (.slc 3 xs)), (1, .d (.sc (.string key))), (8, .d (.slc 3 xs)), (9, .d (.sc (.int .i64 n))), (10, .d (.sc (.int .i64 x)))]) (fun _ => [])
  (fun x => n.toNat - x.toNat) 0 ?_ ?_ ?_
 ·exact ⟨⟨by omega, by omega⟩, hq⟩
 ·subst hA; exact told_less (by simp [toldP, getS, A0, hn, hlen])
 rintro R i hR ⟨hi, i2⟩
 cbv
 repeat' first
  | (refine part (fun h => ?_) (fun h => ?_) <;> try cbv)
  | (refine And.intro ?_ ?_)
 all_goals subst hA hX hW hR
 all_goals simp only [A0, nc, decide_eq_true_eq, decide_eq_false_iff_not, Bool.not_eq_true', Bool.not_eq_false'] at *
 all_goals try replace hi : 0 ≤ i ∧ i ≤ n := hi
 all_goals replace hn : n = (ps.length : Int) := hn
 all_goals have ei : IntKind.wrap .i64 (i + 1) = i + 1 := wrap_i64 (by unfold r64; omega)
 all_goals try
  have hlt : i < ps.length := by omega
  have hrow := prow hxs hi.1 hlt
  have hd := pdrop hi.1 hlt
  generalize ps[i.toNat]'(by omega) = p at hrow hd
  rw [hd] at i2
  simp only [hrow, Pair.row, List.map_cons, List.map_nil, Nat.zero_add, List.getElem?_cons_zero, List.getElem?_cons_succ] at *
 all_goals first
  | rfl
  | (show Region.lexB _ _ = true; kernel_rfl)
  | (show turnsB _ = true; kernel_rfl)
  | omega
  | (refine ⟨by omega, by omega⟩)
  | (simp; done)
  | (intros; first | assumption | trivial | (simp_all; done))
  | (have hk : ltb p.key key = true := by assumption
     have hk2 : findL key (p :: ps.drop (i + 1).toNat) i = findL key (ps.drop (i + 1).toNat) (i + 1) := by rw [findL, if_pos hk]
     rw [hk2] at i2
     refine ⟨i + 1, ⟨⟨by omega, by omega⟩, i2⟩, by omega, told_keep [] rfl rfl ?_⟩
     simp [toldP, getS, pullD, ei]
     done)
  | (have hk : ltb p.key key = false := by assumption
     have hk2 : findL key (p :: ps.drop (i + 1).toNat) i = (i, decide (p.key = key)) := by rw [findL, if_neg (by simp [hk])]
     rw [hk2] at i2
     refine ret_v ?_ rfl
     rw [i2]
     rfl)
  | (rw [show i.toNat = ps.length by omega, List.drop_length] at i2
     refine ret_v ?_ rfl
     rw [i2]
     simp only [findL, hlen, boolD, intD]
     rw [show i = (ps.length : Int) by omega]
     done)
  | (refine ret_v ?_ rfl
     rw [show i.toNat = ps.length by omega, List.drop_length] at i2
     rw [i2]
     simp only [findL, boolD, intD]
     rw [show i = (xs.length : Int) by omega]
     done)
def kn_find (F : FsP) : FuncId × (List DV → RV) := (66, fun args => match args with
 | [.d (.slc 3 xs), .d (.sc (.string key))] => some ([F.isP xs], .tup [intD (((F.find xs key)).1), boolD (((F.find xs key)).2)])
 | [.d (.sc (.slice none 0 0)), .d (.sc (.string key))] => some ([F.isP []], .tup [intD (((F.find [] key)).1), boolD (((F.find [] key)).2)])
 | _ => none)
theorem ok_find (args : List DV) (cs : List Prop) (r : DV) (h : (kn_find FsP0).2 args = some (cs, r)) (hc : allP cs True) : FnV Try.prog 66 args r ∧ closedL 0 args = true := by
 unfold kn_find at h
 simp only at h
 split at h
 ·cases h; exact ⟨v_find _ _ hc.1, rfl⟩
 ·cases h; exact ⟨FnP.nils (v_find [] _ hc.1) ⟨.inr ⟨rfl, _, rfl⟩, ⟨.inl rfl, trivial⟩⟩, rfl⟩
 ·cases h
end Go.Proofs.Ytadnpgkddgbhkaa
namespace Go.Proofs.Ytadnpgkddgbhkaa
open Go.RowKit
set_option linter.all false
theorem exV {P : Program} {N : Nat} {X : Cps} (hX : X = X0 P N) {f : FuncId} (hf : OvlF P f) {s b v o n s' b' v' o' n' : Nat} {bx bx' : Box} {st : Store} {K : DV → Store → Prop} (hb : st[b]? = some bx) (hb' : st[b']? = some bx') (h1 : v = bx.ver) (h2 : v' = bx'.ver) (h3 : bx.live = true) (h4 : bx'.live = true) (h5 : b ≠ b')
  (h6 : bx'.cells ≠ []) (hk : K (boolD false) st) : X.ex f [.view s b v o n, .view s' b' v' o' n'] st K := by
 subst hX
 refine ⟨hf, ?_⟩
 simp only [hb, hb']
 exact ⟨h1, h2, h3, h4, h5, h6, hk⟩
theorem ovl_pair : OvlF Try.prog 81 := ⟨Try.f81, 24, 4, 43, Try.func81, by kernel_rfl, by kernel_rfl, by kernel_rfl, by kernel_rfl, by kernel_rfl, by kernel_rfl⟩
def insR (cs ds : List DV) (i : Int) : List DV := cs.take (i.toNat * 3) ++ ds ++ cs.drop (i.toNat * 3)
theorem flat3 (z : List DV) (hz : z.length = 3) (m : Nat) : (List.replicate m z).flatten.length = m * 3 := by
 rw [List.length_flatten]; simp [hz]
theorem ins_grow (cs ds z : List DV) (n k x : Nat) (hcs : cs.length = n * 3) (hds : ds.length = 3) (hz : z.length = 3) (hk : k < n) :
  splice (splice ((cs ++ List.replicate x DV.any).take (k * 3) ++ (List.replicate (n + 1 - k) z).flatten) (k * 3) ds) ((k + 1) * 3) (((cs ++ List.replicate x DV.any).drop (k * 3)).take ((n - k) * 3)) = insR cs ds (k : Int) := by
 have h1 : ((cs ++ List.replicate x DV.any).take (k * 3) ++ (List.replicate (n + 1 - k) z).flatten).length = (n + 1) * 3 := by
  rw [List.length_append, flat3 z hz]; simp [hcs]; omega
 have h2 : (((cs ++ List.replicate x DV.any).drop (k * 3)).take ((n - k) * 3)).length = (n - k) * 3 := by simp [hcs]; omega
 have h3 : (splice ((cs ++ List.replicate x DV.any).take (k * 3) ++ (List.replicate (n + 1 - k) z).flatten) (k * 3) ds).length = (n + 1) * 3 := by
  rw [splice_length _ _ _ (by rw [h1, hds]; omega), h1]
 apply List.ext_getElem?
 intro j
 rw [splice, splice_get _ _ _ (by rw [h2, h3]; omega), splice, splice_get _ _ _ (by rw [h1, hds]; omega)]
 simp only [insR, Int.toNat_natCast, h2, hds]
 by_cases c1 : j < k * 3
 ·rw [if_neg (by omega), if_neg (by omega), List.append_assoc, List.getElem?_append_left (by simp [hcs]; omega), List.getElem?_append_left (by simp [hcs]; omega), List.getElem?_take, List.getElem?_take, if_pos c1, if_pos c1, List.getElem?_append_left (by omega)]
 by_cases c2 : j < (k + 1) * 3
 ·rw [if_neg (by omega), if_pos (by omega), List.append_assoc, List.getElem?_append_right (by simp [hcs]; omega), List.getElem?_append_left (by simp [hcs, hds]; omega)]
  congr 1
  simp [hcs]; omega
 by_cases c3 : j < (n + 1) * 3
 ·rw [if_pos (by omega), List.getElem?_take, if_pos (by omega), List.getElem?_drop, List.getElem?_append_left (by omega), List.append_assoc, List.getElem?_append_right (by simp [hcs]; omega), List.getElem?_append_right (by simp [hcs, hds]; omega), List.getElem?_drop]
  congr 1
  simp [hcs, hds]; omega
 ·rw [if_neg (by omega), if_neg (by omega), List.getElem?_eq_none (by rw [h1]; omega), List.getElem?_eq_none (by simp [hcs, hds]; omega)]
theorem ins_room (cs ds : List DV) (n k x : Nat) (hcs : cs.length = n * 3) (hds : ds.length = 3) (hk : k < n) (hx : 3 ≤ x) :
  (splice (splice (cs ++ List.replicate x DV.any) ((k + 1) * 3) (((cs ++ List.replicate x DV.any).drop (k * 3)).take ((n - k) * 3))) (k * 3) ds).take ((n + 1) * 3) = insR cs ds (k : Int) := by
 have h1 : (cs ++ List.replicate x DV.any).length = n * 3 + x := by simp [hcs]
 have h2 : (((cs ++ List.replicate x DV.any).drop (k * 3)).take ((n - k) * 3)).length = (n - k) * 3 := by simp [hcs]; omega
 have h3 : (splice (cs ++ List.replicate x DV.any) ((k + 1) * 3) (((cs ++ List.replicate x DV.any).drop (k * 3)).take ((n - k) * 3))).length = n * 3 + x := by
  rw [splice_length _ _ _ (by rw [h1, h2]; omega), h1]
 apply List.ext_getElem?
 intro j
 rw [List.getElem?_take, splice, splice_get _ _ _ (by rw [h3, hds]; omega), splice, splice_get _ _ _ (by rw [h1, h2]; omega)]
 simp only [insR, Int.toNat_natCast, h2, hds]
 by_cases c1 : j < k * 3
 ·rw [if_pos (by omega), if_neg (by omega), if_neg (by omega), List.append_assoc, List.getElem?_append_left (by omega), List.getElem?_append_left (by simp [hcs]; omega), List.getElem?_take, if_pos c1]
 by_cases c2 : j < (k + 1) * 3
 ·rw [if_pos (by omega), if_pos (by omega), List.append_assoc, List.getElem?_append_right (by simp [hcs]; omega), List.getElem?_append_left (by simp [hcs, hds]; omega)]
  congr 1
  simp [hcs]; omega
 by_cases c3 : j < (n + 1) * 3
 ·rw [if_pos (by omega), if_neg (by omega), if_pos (by omega), List.getElem?_take, if_pos (by omega), List.getElem?_drop, List.getElem?_append_left (by omega), List.append_assoc, List.getElem?_append_right (by simp [hcs]; omega), List.getElem?_append_right (by simp [hcs, hds]; omega), List.getElem?_drop]
  congr 1
  simp [hcs, hds]; omega
 ·rw [if_neg (by omega), List.getElem?_eq_none (by simp [hcs, hds]; omega)]
def delR (cs : List DV) (i : Int) : List DV := cs.take (i.toNat * 3) ++ cs.drop (i.toNat * 3 + 3)
theorem del_room (cs z : List DV) (n k x : Nat) (hcs : cs.length = n * 3) (hz : z.length = 3) (hk : k < n) :
  (splice (splice (cs ++ List.replicate x DV.any) (k * 3) (((cs ++ List.replicate x DV.any).drop ((k + 1) * 3)).take ((n - (k + 1)) * 3))) ((n - 1) * 3) (List.replicate 1 z).flatten).take ((n - 1) * 3) = delR cs (k : Int) := by
 have h1 : (cs ++ List.replicate x DV.any).length = n * 3 + x := by simp [hcs]
 have h2 : (((cs ++ List.replicate x DV.any).drop ((k + 1) * 3)).take ((n - (k + 1)) * 3)).length = (n - (k + 1)) * 3 := by simp [hcs]; omega
 have h3 : (splice (cs ++ List.replicate x DV.any) (k * 3) (((cs ++ List.replicate x DV.any).drop ((k + 1) * 3)).take ((n - (k + 1)) * 3))).length = n * 3 + x := by
  rw [splice_length _ _ _ (by rw [h1, h2]; omega), h1]
 have h4 := flat3 z hz 1
 apply List.ext_getElem?
 intro j
 rw [List.getElem?_take, splice, splice_get _ _ _ (by rw [h3, h4]; omega), splice, splice_get _ _ _ (by rw [h1, h2]; omega)]
 simp only [delR, Int.toNat_natCast, h2, h4]
 by_cases c1 : j < k * 3
 ·rw [if_pos (by omega), if_neg (by omega), if_neg (by omega), List.getElem?_append_left (by omega), List.getElem?_append_left (by simp [hcs]; omega), List.getElem?_take, if_pos c1]
 by_cases c3 : j < (n - 1) * 3
 ·rw [if_pos (by omega), if_neg (by omega), if_pos (by omega), List.getElem?_take, if_pos (by omega), List.getElem?_drop, List.getElem?_append_left (by omega), List.getElem?_append_right (by simp [hcs]; omega), List.getElem?_drop]
  congr 1
  simp [hcs]; omega
 ·rw [if_neg (by omega), List.getElem?_eq_none (by simp [hcs]; omega)]
set_option maxRecDepth 100000 in
set_option maxHeartbeats 8000000 in
theorem w_insert (cs ds : List DV) (n k : Nat) (i : Int) (v w : Nat) (hcs : cs.length = n * 3) (hds : ds.length = 3) (hi : i = k) (h1 : k < n) (hn : n ≤ 1000000) :
  FnD Try.prog 67 [.view 3 0 v 0 n, .d (.sc (.int .i64 i)), .view 3 1 w 0 1] [⟨43, cs, true, v, true⟩, ⟨43, ds, false, w, true⟩]
   (fun r st' => (r = .view 3 0 (v + 1) 0 (n + 1) ∧ st' = [⟨43, insR cs ds i, true, v + 1, true⟩, ⟨43, ds, false, w, true⟩]) ∨ (∃ st0, r = .view 3 2 0 0 (n + 1) ∧ st' = [⟨43, st0, false, v, true⟩, ⟨43, ds, false, w, true⟩, ⟨43, insR cs ds i, true, 0, true⟩])) := by
 refine FnD.reveal 0 3 n _ rfl rfl (by simp) hcs fun c hc => ?_
 obtain ⟨cs', hcs'⟩ : ∃ x, x = cs ++ List.replicate ((c - n) * 3) DV.any := ⟨_, rfl⟩
 have hlen : cs'.length = c * 3 := by rw [hcs', List.length_append, List.length_replicate, hcs]; omega
 show FnD Try.prog 67 [.view 3 0 v 0 n, .d (.sc (.int .i64 i)), .view 3 1 w 0 1] [⟨43, cs ++ List.replicate ((c - n) * 3) DV.any, false, v, true⟩, ⟨43, ds, false, w, true⟩] _
 rw [← hcs']
 refine FnD_cbv (T := fun _ => tabY [5000] []) (H := fun _ => []) (tabY_ok _ _) noK_ok follows_mixed Try.func67 rfl Try.ntmps67 (by simp) fun A X W hA hX hW => ?_
 cbv
 repeat' first
  | (refine part (fun h => ?_) (fun h => ?_) <;> try cbv)
  | (refine And.intro ?_ ?_)
  | (refine exV hX ovl_pair rfl rfl rfl rfl rfl rfl (by decide) ?_ ?_) <;> try cbv
 all_goals subst hA hX hW hi
 all_goals simp only [A0, nc, decide_eq_true_eq, decide_eq_false_iff_not, Bool.not_eq_true', Bool.not_eq_false'] at *
 all_goals have e1 : IntKind.wrap .i64 ((n : Int) + ((1 : Nat) : Int)) = ((n + 1 : Nat) : Int) := by rw [IntKind.wrap_i64]; omega
 all_goals have e2 : IntKind.wrap .i64 (((n + 1 : Nat) : Int) - (k : Int)) = ((n + 1 - k : Nat) : Int) := by rw [IntKind.wrap_i64]; omega
 all_goals have e3 : IntKind.wrap .i64 ((k : Int) + ((1 : Nat) : Int)) = ((k + 1 : Nat) : Int) := by rw [IntKind.wrap_i64]; omega
 all_goals have f2 : n ≠ k := by omega
 all_goals try simp only [e1, e2, e3, Int.toNat_natCast, Nat.zero_add, show Int.toNat 0 = 0 from rfl, Nat.zero_mul, List.drop_zero, Nat.sub_zero]
 all_goals have m1 : min 1 (n + 1 - k) = 1 := by omega
 all_goals have m2 : min (n - k) (n + 1 - (k + 1)) = n - k := by omega
 all_goals have m3 : min (n + 1 - k) (n + 1 - (k + 1)) = n - k := by omega
 all_goals have m4 : k + (n + 1 - k) = n + 1 := by omega
 all_goals have t1 : ds.take (1 * 3) = ds := List.take_of_length_le (by omega)
 all_goals have fl : ([DV.d (.sc (.string { data := { toList := [] } })), DV.d (.sc (.string { data := { toList := [] } })), DV.d (.sc (.int .i64 0))] : List DV).length = 3 := rfl
 all_goals have f3 := flat3 _ fl (n + 1 - k)
 all_goals try simp only [m1, m2, m3, m4, t1]
 all_goals first
  | rfl
  | assumption
  | omega
  | (exfalso; simp_all; done)
  | (exfalso; omega)
  | (show Region.lexB _ _ = true; kernel_rfl)
  | (show turnsB _ = true; kernel_rfl)
  | exact ⟨⟨by omega, by omega⟩, .inl (by omega), .inr (.inl (by omega))⟩
  | (refine ⟨⟨by omega, by omega⟩, ?_, ?_⟩ <;> first | exact .inl (by omega) | exact .inr (.inl (by omega)) | exact .inr ⟨rfl, by omega⟩ | exact .inr (.inr ⟨rfl, by omega⟩))
  | (intro e; rw [e] at hlen; simp at hlen; omega)
  | (simp only [List.length_append, f3, List.length_take]; omega)
  | (refine ⟨⟨by omega, by omega⟩, ?_, ?_⟩ <;> first | exact .inl (by omega) | exact .inr (.inl (by omega)) | exact .inr ⟨trivial, by omega⟩ | exact .inr (.inr ⟨trivial, by omega⟩))
  | (simp only [splice, List.length_append, f3, List.length_take, List.length_drop]; omega)
  | (refine RetW.refl (.inr ⟨cs', rfl, ?_⟩)
     rw [List.take_take, Nat.min_self, hcs', ins_grow cs ds _ n k _ hcs hds fl h1]
     done)
  | (refine ret_hide 0 ((n + 1) * 3) _ rfl ?_
     refine ret_bump rfl (RetW.refl (.inl ⟨rfl, ?_⟩))
     rw [List.take_take, Nat.min_eq_left (show (n - k) * 3 ≤ (n + 1 - k) * 3 by omega), hcs']
     simp only [List.set_cons_zero, ins_room cs ds n k _ hcs hds h1 (show 3 ≤ (c - n) * 3 by omega)]
     done)
end Go.Proofs.Ytadnpgkddgbhkaa
namespace Go.Proofs.Ytadnpgkddgbhkaa
open Go.RowKit
set_option linter.all false
set_option maxRecDepth 100000 in
set_option maxHeartbeats 8000000 in
theorem w_insertE (cs ds : List DV) (n : Nat) (i : Int) (v w : Nat) (hcs : cs.length = n * 3) (hds : ds.length = 3) (hi : i = n) (h0 : 0 < n) (hn : n ≤ 1000000) :
  FnD Try.prog 67 [.view 3 0 v 0 n, .d (.sc (.int .i64 i)), .view 3 1 w 0 1] [⟨43, cs, true, v, true⟩, ⟨43, ds, false, w, true⟩]
   (fun r st' => r = .view 3 0 (v + 1) 0 (n + 1) ∧ st' = [⟨43, cs ++ ds, true, v + 1, true⟩, ⟨43, ds, false, w, true⟩]) := by
 refine FnD_cbv (T := fun _ => tabY [5000, 5002] []) (H := fun _ => []) (tabY_ok _ _) noK_ok follows_mixed Try.func67 rfl Try.ntmps67 (by simp) fun A X W hA hX hW => ?_
 cbv
 refine And.intro ?_ (And.intro ?_ (And.intro ?_ (And.intro ?_ ?_)))
 ·subst hA; simp only [A0]
 ·subst hA hi; simp only [A0]
 ·subst hA; simp only [A0]; exact h0
 ·subst hA; simp only [A0]
 refine part (fun h => ?_) (fun h => ?_)
 ·subst hA
  simp [A0] at h
 cbv
 refine And.intro (by subst hA; simp only [A0]) ?_
 refine part (fun h => ?_) (fun h => ?_)
 rotate_left
 ·subst hA hi
  simp [A0] at h
 cbv
 subst hA hX hW hi
 simp only [A0, nc]
 refine ⟨trivial, by omega, trivial, by omega, by omega, RetW.refl ⟨rfl, ?_⟩⟩
 simp only [Nat.one_mul, List.drop_zero]
 rw [List.take_of_length_le (by omega)]
set_option maxRecDepth 100000 in
set_option maxHeartbeats 8000000 in
theorem w_delete (cs : List DV) (n k : Nat) (i j : Int) (v : Nat) (hcs : cs.length = n * 3) (hi : i = k) (hj : j = (k + 1 : Nat)) (h1 : k + 1 < n) (hn : n ≤ 4194304) :
  FnD Try.prog 68 [.view 3 0 v 0 n, .d (.sc (.int .i64 i)), .d (.sc (.int .i64 j))] [⟨43, cs, true, v, true⟩]
   (fun r st' => r = .view 3 0 (v + 1) 0 (n - 1) ∧ st' = [⟨43, delR cs k, true, v + 1, true⟩]) := by
 refine FnD.reveal 0 3 n _ rfl rfl (by simp) hcs fun c hc => ?_
 obtain ⟨cs', hcs'⟩ : ∃ x, x = cs ++ List.replicate ((c - n) * 3) DV.any := ⟨_, rfl⟩
 have hlen : cs'.length = c * 3 := by rw [hcs', List.length_append, List.length_replicate, hcs]; omega
 show FnD Try.prog 68 [.view 3 0 v 0 n, .d (.sc (.int .i64 i)), .d (.sc (.int .i64 j))] [⟨43, cs ++ List.replicate ((c - n) * 3) DV.any, false, v, true⟩] _
 rw [← hcs']
 refine FnD_cbv (T := fun _ => tabY [5000, 5001] []) (H := fun _ => []) (tabY_ok _ _) noK_ok follows_mixed Try.func68 rfl Try.ntmps68 (by simp) fun A X W hA hX hW => ?_
 cbv
 repeat' first
  | (refine part (fun h => ?_) (fun h => ?_) <;> try cbv)
  | (refine And.intro ?_ ?_)
 all_goals subst hA hX hW hi hj
 all_goals simp only [A0, nc, decide_eq_true_eq, decide_eq_false_iff_not, Bool.not_eq_true', Bool.not_eq_false'] at *
 all_goals have m1 : k + (n - (k + 1)) = n - 1 := by omega
 all_goals have m2 : ((n - 1 : Nat) : Int) = (n : Int) - 1 := by omega
 all_goals try simp only [m1, Int.toNat_natCast, Nat.zero_add, show Int.toNat 0 = 0 from rfl, Nat.zero_mul, List.drop_zero, Nat.sub_zero]
 all_goals have fl : ([DV.d (.sc (.string { data := { toList := [] } })), DV.d (.sc (.string { data := { toList := [] } })), DV.d (.sc (.int .i64 0))] : List DV).length = 3 := rfl
 all_goals have m3 : n - (n - 1) = 1 := by omega
 all_goals have f3 := flat3 _ fl 1
 all_goals have f4 : (splice cs' (k * 3) (List.take ((n - (k + 1)) * 3) (List.drop ((k + 1) * 3) cs'))).length = c * 3 := by rw [splice_length _ _ _ (by simp; omega), hlen]
 all_goals try simp only [m3, f4]
 all_goals first
  | rfl
  | assumption
  | omega
  | (exfalso; simp_all; done)
  | (exfalso; omega)
  | (show Region.lexB _ _ = true; kernel_rfl)
  | (show turnsB _ = true; kernel_rfl)
  | exact ⟨by omega, by omega, by omega, by omega⟩
  | (refine ⟨⟨by omega, by omega⟩, ?_, ?_⟩ <;> first | exact .inl (by omega) | exact .inr (.inl (by omega)) | exact .inr ⟨trivial, by omega⟩ | exact .inr (.inr ⟨trivial, by omega⟩))
  | (simp only [splice, List.length_append, f3, List.length_take, List.length_drop]; omega)
  | (refine ret_hide 0 ((n - 1) * 3) _ rfl ?_
     refine ret_bump rfl (RetW.refl ⟨rfl, ?_⟩)
     simp only [List.set_cons_zero, hcs', del_room cs _ n k _ hcs fl (show k < n by omega)]
     done)
theorem delE_room (cs z : List DV) (n k x : Nat) (hcs : cs.length = n * 3) (hz : z.length = 3) (hk : k + 1 = n) :
  (splice (splice (cs ++ List.replicate x DV.any) (k * 3) (rowsD [])) ((n - 1) * 3) (List.replicate 1 z).flatten).take ((n - 1) * 3) = delR cs (k : Int) := by
 have e : rowsD [] = [] := rfl
 rw [e, splice_nil]
 have h1 : (cs ++ List.replicate x DV.any).length = n * 3 + x := by simp [hcs]
 have h4 := flat3 z hz 1
 apply List.ext_getElem?
 intro j
 rw [List.getElem?_take, splice, splice_get _ _ _ (by rw [h1, h4]; omega)]
 simp only [delR, Int.toNat_natCast, h4]
 by_cases c1 : j < k * 3
 ·rw [if_pos (by omega), if_neg (by omega), List.getElem?_append_left (by omega), List.getElem?_append_left (by simp [hcs]; omega), List.getElem?_take, if_pos c1]
 ·rw [if_neg (by omega), List.getElem?_eq_none (by simp [hcs]; omega)]
set_option maxRecDepth 100000 in
set_option maxHeartbeats 8000000 in
theorem w_deleteE (cs : List DV) (n k : Nat) (i j : Int) (v : Nat) (hcs : cs.length = n * 3) (hi : i = k) (hj : j = (k + 1 : Nat)) (h1 : k + 1 = n) (hn : n ≤ 4194304) :
  FnD Try.prog 68 [.view 3 0 v 0 n, .d (.sc (.int .i64 i)), .d (.sc (.int .i64 j))] [⟨43, cs, true, v, true⟩]
   (fun r st' => r = .view 3 0 (v + 1) 0 (n - 1) ∧ st' = [⟨43, delR cs k, true, v + 1, true⟩]) := by
 refine FnD.reveal 0 3 n _ rfl rfl (by simp) hcs fun c hc => ?_
 obtain ⟨cs', hcs'⟩ : ∃ x, x = cs ++ List.replicate ((c - n) * 3) DV.any := ⟨_, rfl⟩
 have hlen : cs'.length = c * 3 := by rw [hcs', List.length_append, List.length_replicate, hcs]; omega
 show FnD Try.prog 68 [.view 3 0 v 0 n, .d (.sc (.int .i64 i)), .d (.sc (.int .i64 j))] [⟨43, cs ++ List.replicate ((c - n) * 3) DV.any, false, v, true⟩] _
 rw [← hcs']
 refine FnD_cbv (T := fun _ => tabY [5000, 5001, 5002] []) (H := fun _ => []) (tabY_ok _ _) noK_ok follows_mixed Try.func68 rfl Try.ntmps68 (by simp) fun A X W hA hX hW => ?_
 cbv
 repeat' first
  | (refine part (fun h => ?_) (fun h => ?_) <;> try cbv)
  | (refine And.intro ?_ ?_)
 all_goals subst hA hX hW hi hj
 all_goals simp only [A0, nc, decide_eq_true_eq, decide_eq_false_iff_not, Bool.not_eq_true', Bool.not_eq_false'] at *
 all_goals have m1 : k + ([] : List (List PD)).length = n - 1 := by simp; omega
 all_goals have m2 : ((n - 1 : Nat) : Int) = (n : Int) - 1 := by omega
 all_goals try simp only [m1, Int.toNat_natCast, Nat.zero_add, show Int.toNat 0 = 0 from rfl, Nat.zero_mul, List.drop_zero, Nat.sub_zero]
 all_goals have fl : ([DV.d (.sc (.string { data := { toList := [] } })), DV.d (.sc (.string { data := { toList := [] } })), DV.d (.sc (.int .i64 0))] : List DV).length = 3 := rfl
 all_goals have m3 : n - (n - 1) = 1 := by omega
 all_goals have f3 := flat3 _ fl 1
 all_goals have f4 : (splice cs' (k * 3) (rowsD [])).length = c * 3 := by rw [splice_length _ _ _ (by simp [rowsD]; omega), hlen]
 all_goals try simp only [m3, f4]
 all_goals first
  | rfl
  | assumption
  | omega
  | (exfalso; simp_all; done)
  | (exfalso; omega)
  | (show Region.lexB _ _ = true; kernel_rfl)
  | (show turnsB _ = true; kernel_rfl)
  | exact ⟨by omega, by omega, by omega, by omega⟩
  | (refine ⟨⟨by omega, by omega⟩, ?_, ?_⟩ <;> first | exact .inl (by omega) | exact .inr (.inl (by omega)) | exact .inr ⟨trivial, by omega⟩ | exact .inr (.inr ⟨trivial, by omega⟩))
  | (simp only [splice, List.length_append, f3, List.length_take, List.length_drop]; omega)
  | (refine ret_hide 0 ((n - 1) * 3) _ rfl ?_
     refine ret_bump rfl (RetW.refl ⟨rfl, ?_⟩)
     simp only [List.set_cons_zero, hcs', delE_room cs _ n k _ hcs fl h1]
     done)
end Go.Proofs.Ytadnpgkddgbhkaa
namespace Go.Proofs.Ytadnpgkddgbhkaa
open Go.RowKit
set_option linter.all false
theorem nilSliceL {P : Program} {N : Nat} {X : Cps} (hX : X = X0 P N) {T : Tab} (hT : TabOk P T) {t sz e : Nat} {k : IntKind} {x lo : Operand} {s : SL} {st : Store} {K : DV → Store → Prop}
  (h1 : T.sl t = some (e, sz)) (hx : ev (getS s) x = .d (.sc (.slice none 0 0))) (hl : ev (getS s) lo = .d (.sc (.int k 0))) (hk : K nilS st) : X.op (.slice t x (some lo) none none) s st K := by
 refine opL hX ?_
 simp only [opD, hx, sliceD, hT.sl _ _ h1, Option.map_some, hl, Option.map_none, boundD, intOfD]
 exact ⟨by simp, hk⟩
set_option maxRecDepth 100000 in
theorem w_insert0 (ds : List DV) (v w : Nat) (hds : ds.length = 3) :
  FnD Try.prog 67 [.view 3 0 v 0 0, .d (.sc (.int .i64 0)), .view 3 1 w 0 1] [⟨43, [], true, v, true⟩, ⟨43, ds, false, w, true⟩]
   (fun r st' => r = .view 3 0 (v + 1) 0 1 ∧ st' = [⟨43, ds, true, v + 1, true⟩, ⟨43, ds, false, w, true⟩]) := by
 refine FnD_cbv (T := fun _ => tabY [5000] []) (H := fun _ => []) (tabY_ok _ _) noK_ok follows_mixed Try.func67 rfl Try.ntmps67 (by simp) fun A X W hA hX hW => ?_
 cbv
 repeat' first
  | (refine part (fun h => ?_) (fun h => ?_) <;> try cbv)
  | (refine And.intro ?_ ?_)
 all_goals first
  | (subst hA; rfl)
  | (exfalso; subst hA; simp [A0] at *; done)
  | (subst hA hX hW
     simp only [A0, nc]
     refine RetW.refl ⟨rfl, ?_⟩
     simp only [Nat.one_mul, List.drop_zero, List.nil_append]
     rw [List.take_of_length_le (by omega)])
  | (subst hA; simp only [A0, nc]; simp; done)
  | (subst hA; simp only [A0, nc]; omega)
  | (exfalso; subst hA; simp_all [A0]; done)
set_option maxRecDepth 100000 in
theorem w_insertN (ds : List DV) (w : Nat) (i : Int) (hds : ds.length = 3) (hi : i = 0) :
  FnD Try.prog 67 [nilS, .d (.sc (.int .i64 i)), .view 3 0 w 0 1] [⟨43, ds, false, w, true⟩]
   (fun r st' => r = .view 3 1 0 0 1 ∧ st' = [⟨43, ds, false, w, true⟩, ⟨43, ds, true, 0, true⟩]) := by
 subst hi
 refine FnD_cbv (T := fun _ => tabY [] []) (H := fun _ => []) (tabY_ok _ _) noK_ok follows_mixed Try.func67 rfl Try.ntmps67 (by simp) fun A X W hA hX hW => ?_
 cbv
 refine nilSliceL hX tab_ok (sz := 3) (e := 43) rfl rfl rfl ?_
 cbv
 repeat' first
  | (refine part (fun h => ?_) (fun h => ?_) <;> try cbv)
  | (refine And.intro ?_ ?_)
 all_goals first
  | (subst hA; rfl)
  | (exfalso; subst hA; simp [A0] at *; done)
  | (subst hA hX hW
     simp only [A0, nc]
     refine RetW.refl ⟨rfl, ?_⟩
     simp only [Nat.one_mul, List.drop_zero, List.nil_append]
     rw [List.take_of_length_le (by omega)])
  | (subst hA; simp only [A0, nc]; simp; done)
  | (subst hA; simp only [A0, nc]; omega)
  | (exfalso; subst hA; simp_all [A0]; done)
theorem insR_end (cs ds : List DV) (n : Nat) (h : cs.length = n * 3) : insR cs ds (n : Int) = cs ++ ds := by
 simp only [insR, Int.toNat_natCast]
 rw [List.take_of_length_le (by omega), List.drop_eq_nil_of_le (by omega), List.append_nil]
theorem w_ins (cs ds : List DV) (n k : Nat) (i : Int) (v w : Nat) (hcs : cs.length = n * 3) (hds : ds.length = 3) (hi : i = k) (h1 : k ≤ n) (hn : n ≤ 1000000) :
  FnD Try.prog 67 [.view 3 0 v 0 n, .d (.sc (.int .i64 i)), .view 3 1 w 0 1] [⟨43, cs, true, v, true⟩, ⟨43, ds, false, w, true⟩]
   (fun r st' => (r = .view 3 0 (v + 1) 0 (n + 1) ∧ st' = [⟨43, insR cs ds i, true, v + 1, true⟩, ⟨43, ds, false, w, true⟩]) ∨ (∃ st0, r = .view 3 2 0 0 (n + 1) ∧ st' = [⟨43, st0, false, v, true⟩, ⟨43, ds, false, w, true⟩, ⟨43, insR cs ds i, true, 0, true⟩])) := by
 rcases Nat.lt_or_ge k n with h | h
 ·exact w_insert cs ds n k i v w hcs hds hi h hn
 ·obtain rfl : k = n := by omega
  have e := insR_end cs ds k hcs
  rw [← hi] at e
  rw [e]
  cases k with
  | zero =>
    have hc : cs = [] := List.eq_nil_of_length_eq_zero (by omega)
    subst hc
    subst hi
    exact (w_insert0 ds v w hds).mono fun _ _ h => .inl h
  | succ k => exact (w_insertE cs ds (k + 1) i v w hcs hds hi (by omega) hn).mono fun _ _ h => .inl h
set_option maxRecDepth 100000 in
theorem w_clone (xs : List (List PD)) (hp0 : isP xs) : FnD Try.prog 46 [.d (.slc 3 xs)] [] (fun r st' => (xs = [] ∧ r = nilS ∧ st' = []) ∨ ∃ v m cs, cs = rowsD xs ∧ m = xs.length ∧ r = .view 3 0 v 0 m ∧ st' = [⟨43, cs, true, v, true⟩]) := by
 rcases xs with _ | ⟨x, xs⟩
 ·refine FnD_cbv (T := fun _ => tabY [] []) (H := fun _ => []) (tabY_ok _ _) noK_ok follows_mixed Try.func46 rfl Try.ntmps46 (by simp) fun A X W hA hX hW => ?_
  cbv
  refine nilTestL hX tab_ok (sz := 3) (sz' := 3) (e := 43) rfl rfl ?_ ?_
  ·cbv
   subst hA hX hW
   exact RetW.refl (.inl ⟨rfl, rfl, rfl⟩)
  ·cbv
   subst hA hX hW
   refine ⟨rfl, rfl, ?_, ?_⟩
   ·simp [A0]
   ·exact RetW.refl (.inr ⟨1, 0, [], rfl, rfl, rfl, rfl⟩)
 ·refine FnD_cbv (T := fun _ => tabY [] []) (H := fun _ => []) (tabY_ok _ _) noK_ok follows_mixed Try.func46 rfl Try.ntmps46 (by simp) fun A X W hA hX hW => ?_
  cbv
  subst hA hX hW
  refine ⟨rfl, rfl, ?_, ?_⟩
  ·have := isP.len hp0
   simp only [A0]
   generalize (x :: xs).length = n at *
   omega
  ·exact RetW.refl (.inr ⟨1, (x :: xs).length, rowsD (x :: xs), rfl, rfl, by simp [A0], rfl⟩)
theorem w_ins2 (cs ds : List DV) (n k : Nat) (i : Int) (v w : Nat) (hcs : cs.length = n * 3) (hds : ds.length = 3) (hi : i = k) (h1 : k ≤ n) (hn : n ≤ 1000000) :
  FnD Try.prog 67 [.view 3 0 v 0 n, .d (.sc (.int .i64 i)), .view 3 1 w 0 1] [⟨43, cs, true, v, true⟩, ⟨43, ds, false, w, true⟩]
   (fun r st' => ∃ ics m' v', ics = insR cs ds i ∧ m' = n + 1 ∧ ((r = .view 3 0 v' 0 m' ∧ st' = [⟨43, ics, true, v', true⟩, ⟨43, ds, false, w, true⟩]) ∨ (∃ st0, r = .view 3 2 v' 0 m' ∧ st' = [⟨43, st0, false, v, true⟩, ⟨43, ds, false, w, true⟩, ⟨43, ics, true, v', true⟩]))) := by
 refine (w_ins cs ds n k i v w hcs hds hi h1 hn).mono ?_
 rintro r st (⟨rfl, rfl⟩ | ⟨st0, rfl, rfl⟩)
 ·exact ⟨_, _, _, rfl, rfl, .inl ⟨rfl, rfl⟩⟩
 ·exact ⟨_, _, _, rfl, rfl, .inr ⟨st0, rfl, rfl⟩⟩
theorem w_insertN2 (ds : List DV) (w : Nat) (i : Int) (hds : ds.length = 3) (hi : i = 0) :
  FnD Try.prog 67 [nilS, .d (.sc (.int .i64 i)), .view 3 0 w 0 1] [⟨43, ds, false, w, true⟩]
   (fun r st' => ∃ ics m' v', ics = ds ∧ m' = 1 ∧ v' = 0 ∧ r = .view 3 1 v' 0 m' ∧ st' = [⟨43, ds, false, w, true⟩, ⟨43, ics, true, v', true⟩]) := by
 refine (w_insertN ds w i hds hi).mono ?_
 rintro r st ⟨rfl, rfl⟩
 exact ⟨_, _, _, rfl, rfl, rfl, rfl, rfl⟩
end Go.Proofs.Ytadnpgkddgbhkaa
namespace Go.Proofs.Ytadnpgkddgbhkaa
open Go.RowKit
set_option linter.all false
def getP (xs : List (List PD)) (key : ByteArray) : Pair × Bool := (getX xs key, thereX xs key)
theorem isP.row {xs : List (List PD)} (h : isP xs) {i : Int} (h0 : 0 ≤ i) (h1 : i < xs.length) : ∃ p : Pair, xs.getD i.toNat [] = p.row := by
 obtain ⟨ps, hxs, _⟩ := h
 have hl : xs.length = ps.length := by rw [hxs]; exact pairsX_length ps
 exact ⟨_, prow hxs h0 (by omega)⟩
theorem rowP_row (p : Pair) : rowP p.row = p := rfl
structure FsG where
 get : List (List PD) → ByteArray → Pair × Bool
 getR : List (List PD) → ByteArray → Pair × Bool
 isP : List (List PD) → Prop
def FsG0 : FsG where
 get := getP
 getR := getP
 isP := isP
set_option maxRecDepth 100000 in
theorem v_get (xs : List (List PD)) (key : ByteArray) (hp0 : FsG0.isP xs) : FnV Try.prog 53 [.d (.slc 3 xs), strD key] (.tup [Pair.D (((getP xs key)).1), boolD (((getP xs key)).2)]) := by
 have hr := findX_range xs key
 obtain ⟨GFsP, hGFsP⟩ : ∃ F, F = FsP0 := ⟨_, rfl⟩
 have hH : SoundK Try.prog [kn_find GFsP] := by subst hGFsP; exact orK_ok ok_find noK_ok
 refine FnD_cbv (T := fun _ => tabY [19] []) (H := fun _ => [kn_find GFsP]) (tabY_ok _ _) hH follows_mixed Try.func53 rfl Try.ntmps53 (by simp) fun A X W hA hX hW => ?_
 clear hH
 cbv
 repeat' first
  | (refine part (fun h => ?_) (fun h => ?_) <;> try cbv)
  | (refine And.intro ?_ ?_)
 all_goals subst hA hX hW hGFsP
 all_goals try (show Region.lexB _ _ = true; kernel_rfl)
 all_goals try (show turnsB _ = true; kernel_rfl)
 all_goals simp only [A0, FsP0, FsG0, decide_eq_true_eq, decide_eq_false_iff_not, Bool.not_eq_true', Bool.not_eq_false'] at *
 all_goals first
  | assumption
  | (refine ret_v ?_ rfl
     simp [getP, getX, thereX, *, Pair.D, boolD]
     done)
  | (have h := ‹(findX xs key).snd = true›
     obtain ⟨p, hp⟩ := hp0.row hr.1 (hr.2.2 h)
     first
      | exact ⟨hr.1, hr.2.2 h⟩
      | (rw [hp]; simp [Pair.row]; done)
      | (have hg : getP xs key = (p, true) := by
          unfold getP getX thereX
          rw [if_pos h, hp, h]; rfl
         refine ret_v ?_ rfl
         rw [hp, hg]
         simp [Pair.D, Pair.row, boolD]
         done))
def kn_get (F : FsG) : FuncId × (List DV → RV) := (53, fun args => match args with
 | [.d (.slc 3 xs), .d (.sc (.string key))] => some ([F.isP xs], .tup [Pair.D (((F.get xs key)).1), boolD (((F.get xs key)).2)])
 | [.d (.sc (.slice none 0 0)), .d (.sc (.string key))] => some ([F.isP []], .tup [Pair.D (((F.get [] key)).1), boolD (((F.get [] key)).2)])
 | _ => none)
theorem ok_get (args : List DV) (cs : List Prop) (r : DV) (h : (kn_get FsG0).2 args = some (cs, r)) (hc : allP cs True) : FnV Try.prog 53 args r ∧ closedL 0 args = true := by
 unfold kn_get at h
 simp only at h
 split at h
 ·cases h; exact ⟨v_get _ _ hc.1, rfl⟩
 ·cases h; exact ⟨FnP.nils (v_get [] _ hc.1) ⟨.inr ⟨rfl, _, rfl⟩, ⟨.inl rfl, trivial⟩⟩, rfl⟩
 ·cases h
def setP (xs : List (List PD)) (i : Nat) (value : ByteArray) : List (List PD) := xs.set i (Pair.row ⟨(rowP (xs.getD i [])).key, value, IntKind.wrap .i64 ((rowP (xs.getD i [])).version + 1)⟩)
def newP (xs : List (List PD)) (i : Nat) (key value : ByteArray) : List (List PD) := xs.take i ++ [Pair.row ⟨key, value, 1⟩] ++ xs.drop i
def putX (xs : List (List PD)) (key value : ByteArray) : List (List PD) × Int :=
 if (findX xs key).2 = true then (setP xs (findX xs key).1.toNat value, 0) else if 32 ≤ xs.length then ([], 7) else (newP xs (findX xs key).1.toNat key value, 0)
theorem isP.set {xs : List (List PD)} (h : isP xs) (i : Nat) (p : Pair) : isP (xs.set i p.row) := by
 obtain ⟨ps, rfl, hl⟩ := h
 exact ⟨ps.set i p, by simp [pairsX, List.map_set], by simpa using hl⟩
theorem isP.ins {xs : List (List PD)} (h : isP xs) (hl : xs.length ≤ 1000000) (i : Nat) (p : Pair) : isP (xs.take i ++ [p.row] ++ xs.drop i) := by
 obtain ⟨ps, rfl, _⟩ := h
 refine ⟨ps.take i ++ [p] ++ ps.drop i, by simp [pairsX, List.map_take, List.map_drop], ?_⟩
 rw [pairsX_length] at hl
 simp only [List.length_append, List.length_take, List.length_drop, List.length_singleton]
 omega
theorem rowsD_len {xs : List (List PD)} {sz : Nat} (h : ∀ x ∈ xs, x.length = sz) : (rowsD xs).length = xs.length * sz := by
 induction xs with
 | nil => simp [rowsD]
 | cons x xs ih =>
   have := ih fun y hy => h y (by simp [hy])
   have hx := h x (by simp)
   simp only [rowsD, List.flatten_cons, List.map_append, List.length_append, List.length_map, List.length_cons] at this ⊢
   rw [this, hx, Nat.add_mul]
   omega
theorem rowsD_cut {xs : List (List PD)} {sz : Nat} (h : ∀ x ∈ xs, x.length = sz) (i : Nat) (hi : i < xs.length) : rowsD xs = rowsD (xs.take i) ++ ((xs.getD i []).map .d ++ rowsD (xs.drop (i + 1))) := by
 have e : xs = xs.take i ++ (xs.getD i [] :: xs.drop (i + 1)) := by
  rw [List.getD_eq_getElem?_getD, List.getElem?_eq_getElem hi, Option.getD_some, ← List.drop_eq_getElem_cons hi, List.take_append_drop]
 conv => lhs; rw [e]
 simp [rowsD]
theorem rowsD_set {xs : List (List PD)} {sz : Nat} (h : ∀ x ∈ xs, x.length = sz) (i : Nat) (hi : i < xs.length) (y : List PD) : rowsD (xs.set i y) = rowsD (xs.take i) ++ (y.map .d ++ rowsD (xs.drop (i + 1))) := by
 rw [List.set_eq_take_append_cons_drop, if_pos hi]
 simp [rowsD]
theorem take_len {xs : List (List PD)} {sz : Nat} (h : ∀ x ∈ xs, x.length = sz) (i : Nat) (hi : i ≤ xs.length) : (rowsD (xs.take i)).length = i * sz := by
 rw [rowsD_len fun y hy => h y (List.mem_of_mem_take hy), List.length_take, Nat.min_eq_left hi]
theorem insR_rows {xs : List (List PD)} (h : ∀ x ∈ xs, x.length = 3) (i : Nat) (hi : i ≤ xs.length) (y : List PD) : insR (rowsD xs) (y.map .d) (i : Int) = rowsD (xs.take i ++ [y] ++ xs.drop i) := by
 have e : rowsD xs = rowsD (xs.take i) ++ rowsD (xs.drop i) := by rw [← rowsD_append, List.take_append_drop]
 have hl := take_len h i hi
 simp only [insR, Int.toNat_natCast]
 rw [e, List.take_append_of_le_length (by omega), List.take_of_length_le (by omega), List.drop_append_of_le_length (by omega), List.drop_eq_nil_of_le (by omega)]
 simp [rowsD]
theorem put_load {ys : List (List PD)} (h : isP ys) (i : Nat) (hi : i < ys.length) (value : ByteArray) :
  (splice (rowsD ys) (i * 3 + 1) [.d (.sc (.string value))])[i * 3 + 2]? = some (.d (.sc (.int .i64 (rowP (ys.getD i [])).version))) := by
 obtain ⟨p, hp⟩ := h.row (i := i) (by omega) (by omega)
 rw [Int.toNat_natCast] at hp
 have hl := take_len h.sz i (by omega)
 rw [hp, rowP_row, splice, splice_get _ _ _ (by rw [rowsD_len h.sz]; simp; omega), if_neg (by simp), rowsD_cut h.sz i hi, hp, List.getElem?_append_right (by omega), hl]
 simp [Pair.row]
theorem put_store {ys : List (List PD)} (h : isP ys) (i : Nat) (hi : i < ys.length) (value : ByteArray) (n : Int) (hn : n = IntKind.wrap .i64 ((rowP (ys.getD i [])).version + 1)) :
  splice (splice (rowsD ys) (i * 3 + 1) [.d (.sc (.string value))]) (i * 3 + 2) [.d (.sc (.int .i64 n))] = rowsD (setP ys i value) := by
 obtain ⟨p, hp⟩ := h.row (i := i) (by omega) (by omega)
 rw [Int.toNat_natCast] at hp
 have hl := take_len h.sz i (by omega)
 subst hn
 unfold setP
 rw [rowsD_set h.sz i hi, rowsD_cut h.sz i hi, hp, rowP_row]
 obtain ⟨a, ha⟩ : ∃ a, a = rowsD (ys.take i) := ⟨_, rfl⟩
 obtain ⟨b, hb⟩ : ∃ b, b = rowsD (ys.drop (i + 1)) := ⟨_, rfl⟩
 rw [← ha] at hl
 rw [← ha, ← hb]
 simp only [Pair.row, List.map_cons, List.map_nil, List.cons_append, List.nil_append]
 have e1 : ∀ (x y z w : DV), splice (a ++ x :: y :: z :: b) (i * 3 + 1) [w] = a ++ x :: w :: z :: b := by
  intro x y z w
  rw [splice, ← hl, List.take_append, List.drop_append]
  simp [List.take_of_length_le, show a.length + 1 + 1 - a.length = 2 by omega, List.drop_eq_nil_of_le (show a.length ≤ a.length + 1 + 1 by omega)]
 have e2 : ∀ (x y z w : DV), splice (a ++ x :: y :: z :: b) (i * 3 + 2) [w] = a ++ x :: y :: w :: b := by
  intro x y z w
  rw [splice, ← hl, List.take_append, List.drop_append]
  simp [List.take_of_length_le, show a.length + 2 + 1 - a.length = 3 by omega, List.drop_eq_nil_of_le (show a.length ≤ a.length + 2 + 1 by omega)]
 rw [e1, e2]
theorem setP_new {xs : List (List PD)} {i : Nat} (hi : i ≤ xs.length) (key value : ByteArray) : setP (xs.take i ++ [Pair.row ⟨key, none8, 0⟩] ++ xs.drop i) i value = newP xs i key value := by
 have hl : (xs.take i).length = i := by rw [List.length_take]; omega
 have hg : (xs.take i ++ [Pair.row ⟨key, none8, 0⟩] ++ xs.drop i).getD i [] = Pair.row ⟨key, none8, 0⟩ := by
  rw [List.getD_eq_getElem?_getD, List.append_assoc, List.getElem?_append_right (by omega), hl]
  simp
 unfold setP newP
 rw [hg, rowP_row, List.append_assoc, List.set_append_right _ _ (by omega), hl]
 simp [show IntKind.wrap .i64 (1 : Int) = 1 from rfl]
def PutF (cells : List DV) (m k : Nat) (value : ByteArray) (r : List (List PD)) : Prop := ∃ ys, cells = rowsD ys ∧ isP ys ∧ k < ys.length ∧ m = ys.length ∧ setP ys k value = r
theorem put_ins {xs : List (List PD)} (hp : isP xs) (hl : xs.length < 32) {k : Nat} (hk : k ≤ xs.length) (key value : ByteArray) {cs ics : List DV} {m m' : Nat} (hcs : cs = rowsD xs) (hm : m = xs.length)
  (h1 : ics = insR cs [.d (.sc (.string key)), .d (.sc (.string none8)), .d (.sc (.int .i64 0))] (k : Int)) (h2 : m' = m + 1) : PutF ics m' k value (newP xs k key value) := by
 subst hcs hm h1 h2
 refine ⟨xs.take k ++ [Pair.row ⟨key, none8, 0⟩] ++ xs.drop k, insR_rows hp.sz k hk (Pair.row ⟨key, none8, 0⟩), hp.ins (by omega) k _, ?_, ?_, setP_new hk key value⟩
 ·simp only [List.length_append, List.length_take, List.length_drop, List.length_singleton]; omega
 ·simp only [List.length_append, List.length_take, List.length_drop, List.length_singleton]; omega
theorem put_nil {k : Nat} (hk : k = 0) (key value : ByteArray) {ics : List DV} {m' : Nat} (h1 : ics = [.d (.sc (.string key)), .d (.sc (.string none8)), .d (.sc (.int .i64 0))]) (h2 : m' = 1) : PutF ics m' k value (newP [] k key value) := by
 subst hk h1 h2
 exact ⟨[Pair.row ⟨key, none8, 0⟩], rfl, ⟨[⟨key, none8, 0⟩], rfl, by simp⟩, by simp, by simp, setP_new (xs := []) (Nat.le_refl _) key value⟩
theorem setP_len (ys : List (List PD)) (k : Nat) (value : ByteArray) : (setP ys k value).length = ys.length := by simp [setP]
theorem ret_slice2 {r : DV} {st : Store} {sz b ver n : Nat} {xs : List (List PD)} {bx : Box} {p : PD} (hb : st[b]? = some bx) (hl : bx.live = true) (hv : ver = bx.ver) (hn : n = xs.length) (hcells : bx.cells = rowsD xs) (hsz : ∀ x ∈ xs, x.length = sz) (hr : r = .tup [.d (.slc sz xs), .d p]) :
  RetW 0 (fun x st => st = [] ∧ pureD x = true ∧ x = r) (.tup [.view sz b ver 0 n, .d p]) st := by
 subst hv; subst hn; subst hr
 have h1 : TellsV 0 (.tup [.view sz b bx.ver 0 xs.length, .d p]) st (.tup [.d (.slc sz xs), .d p]) (fzSt b sz xs st) := TellsV.turn (Turn.freeze b sz xs bx hb hl (Nat.zero_le _) hcells hsz) (by simp [fzD, fzL])
 obtain ⟨d', st', h2, h3⟩ := ret_v (r := .tup [.d (.slc sz xs), .d p]) (d := .tup [.d (.slc sz xs), .d p]) (st := fzSt b sz xs st) rfl rfl
 exact ⟨d', st', TellsV.trans h1 h2, h3⟩
theorem load1 {l : List DV} {i : Nat} {d : DV} (h : l[i]? = some d) : i + 1 ≤ l.length ∧ List.take 1 (List.drop i l) = [d] := by
 have hl : i < l.length := (List.getElem?_eq_some_iff.1 h).1
 refine ⟨hl, ?_⟩
 rw [List.drop_eq_getElem_cons hl]
 simp [(List.getElem?_eq_some_iff.1 h).2]
theorem splice1_length (l : List DV) (i : Nat) (d : DV) (h : i + 1 ≤ l.length) : (splice l i [d]).length = l.length := by
 simp only [splice, List.length_append, List.length_take, List.length_drop, List.length_cons, List.length_nil]; omega
theorem upd2 {sz : Nat} {p : PD} : UpD (.tup [.d (.sc (.slice none 0 0)), .d p]) (.tup [.d (.slc sz []), .d p]) := by
 exact ⟨_, rfl, UpL.nil (UpL.keep UpL.done)⟩
structure FsH where
 put : List (List PD) → ByteArray → ByteArray → List (List PD) × Int
 isP : List (List PD) → Prop
def FsH0 : FsH where
 put := putX
 isP := isP
set_option maxRecDepth 100000 in
theorem v_put (xs : List (List PD)) (key : ByteArray) (value : ByteArray) (hp0 : FsH0.isP xs) : FnV Try.prog 54 [.d (.slc 3 xs), strD key, strD value] (.tup [.d (.slc 3 ((putX xs key value)).1), intD (((putX xs key value)).2)]) := by
 have hr := findX_range xs key
 have hsz := hp0.sz
 obtain ⟨GFsP, hGFsP⟩ : ∃ F, F = FsP0 := ⟨_, rfl⟩
 have hH : SoundK Try.prog [kn_find GFsP] := by subst hGFsP; exact orK_ok ok_find noK_ok
 refine FnD_cbv (T := fun _ => tabY [37, 38, 41, 42, 45, 46] []) (H := fun _ => [kn_find GFsP]) (tabY_ok _ _) hH follows_mixed Try.func54 rfl Try.ntmps54 (by simp) fun A X W hA hX hW => ?_
 clear hH
 cbv
 repeat' first
  | (refine part (fun h => ?_) (fun h => ?_) <;> try cbv)
  | (refine And.intro ?_ ?_)
 all_goals try
  refine callL hX ((w_clone xs hp0).mono ?_)
  rintro r st (⟨hx, rfl, rfl⟩ | ⟨v, m, cs, hcs, hm, rfl, rfl⟩) <;> cbv
 repeat' first
  | (refine part (fun h => ?_) (fun h => ?_) <;> try cbv)
  | (refine And.intro ?_ ?_)
 all_goals try
  refine callL hX ((w_insertN2 _ 0 _ rfl ?_).mono ?_)
  rotate_left
  rintro r st ⟨ics, m', v', hics, hm', hv', rfl, rfl⟩
  cbv
  rotate_left
 all_goals try
  refine callL hX ((w_ins2 cs _ m ((findX xs key).1.toNat) _ v 0 ?_ rfl ?_ ?_ ?_).mono ?_)
  rotate_left 4
  rintro r st ⟨ics, m', v', hics, hm', ⟨rfl, rfl⟩ | ⟨st0, rfl, rfl⟩⟩ <;> cbv
  rotate_left 2
 repeat' first
  | (refine part (fun h => ?_) (fun h => ?_) <;> try cbv)
  | (refine And.intro ?_ ?_)
 all_goals subst hA hX hW hGFsP
 all_goals try clear hH
 all_goals simp only [A0, nc, FsP0, Bool.not_eq_true', Bool.not_eq_false'] at *
 all_goals have e0 : xs = [] → (findX xs key).1 = 0 ∧ (findX xs key).2 = false := by rintro rfl; exact ⟨rfl, rfl⟩
 all_goals try unfold putX
 all_goals generalize findX xs key = q at *
 all_goals obtain ⟨i0, ok⟩ := q
 all_goals simp only at *
 all_goals obtain ⟨k, rfl⟩ : ∃ k : Nat, i0 = k := ⟨i0.toNat, by omega⟩
 all_goals have hk : k ≤ xs.length := by omega
 all_goals have hk2 : ok = true → k < xs.length := fun h => by have := hr.2.2 h; omega
 all_goals try simp only [Int.toNat_natCast, Nat.zero_add]
 all_goals first
  | assumption
  | (simp; done)
  | (simp_all; done)
  | skip
 all_goals first
  | (have hh := ‹ok = false›
     have hh2 := ‹(bif !ok then decide ((32 : Int) ≤ (xs.length : Int)) else false) = false›
     subst hh
     have hl : xs.length < 32 := by simp at hh2; omega
     have F : PutF ics m' k value (newP xs k key value) := by
      first
       | exact put_ins hp0 hl hk key value hcs hm hics hm'
       | (subst hx; exact put_nil (by have := (e0 rfl).1; omega) key value hics hm')
     obtain ⟨ys, hc, hpy, hky, hmy, hset⟩ := F
     have hL := put_load hpy k hky value
     have h3 := rowsD_len hpy.sz
     clear hics
     subst hc
     first
     | omega
     | (rw [splice1_length _ _ _ (by omega)]; omega)
     | (have hq := load1 hL
        simp only [hL]
        exact ⟨rfl, hq⟩)
     | (have hS := put_store hpy k hky value _ rfl
        rw [if_neg (by simp), if_neg (by omega)]
        refine ret_slice2 (xs := setP ys k value) rfl rfl rfl ?_ ?_ ?_ ?_
        ·rw [setP_len]; exact hmy
        ·simp only [hL]; exact hS
        ·exact (hpy.set k _).sz
        ·rw [hset]; rfl)
     | skip)
  | (have hh := ‹ok = true›
     subst hh
     have hky := hk2 rfl
     have hL := put_load hp0 k hky value
     have h3 := rowsD_len hp0.sz
     subst hcs hm
     first
     | omega
     | (rw [splice1_length _ _ _ (by omega)]; omega)
     | (have hq := load1 hL
        simp only [hL]
        exact ⟨rfl, hq⟩)
     | (have hS := put_store hp0 k hky value _ rfl
        rw [if_pos rfl]
        refine ret_slice2 (xs := setP xs k value) rfl rfl rfl ?_ ?_ ?_ ?_
        ·rw [setP_len]
        ·simp only [hL]; exact hS
        ·exact (hp0.set k _).sz
        ·rfl)
     | skip)
  | (subst hcs hm; rw [rowsD_len hp0.sz]; done)
  | (have hh := ‹ok = false›
     have hh2 := ‹(bif !ok then decide ((32 : Int) ≤ (xs.length : Int)) else false) = false›
     subst hh
     have hl : xs.length < 32 := by simp at hh2; omega
     omega)
  | (have hh := ‹(bif !ok then decide ((32 : Int) ≤ (xs.length : Int)) else false) = true›
     cases ok with
     | true => simp at hh
     | false =>
       have hl : 32 ≤ xs.length := by
        replace hh : decide ((32 : Int) ≤ (xs.length : Int)) = true := hh
        have := of_decide_eq_true hh
        omega
       refine ret_up ?_ ?_
       ·rw [if_neg (by simp), if_pos hl]
        exact upd2
       ·rfl)
def kn_put (F : FsH) : FuncId × (List DV → RV) := (54, fun args => match args with
 | [.d (.slc 3 xs), .d (.sc (.string key)), .d (.sc (.string value))] => some ([F.isP xs], .tup [.d (.slc 3 ((F.put xs key value)).1), intD (((F.put xs key value)).2)])
 | [.d (.sc (.slice none 0 0)), .d (.sc (.string key)), .d (.sc (.string value))] => some ([F.isP []], .tup [.d (.slc 3 ((F.put [] key value)).1), intD (((F.put [] key value)).2)])
 | _ => none)
theorem ok_put (args : List DV) (cs : List Prop) (r : DV) (h : (kn_put FsH0).2 args = some (cs, r)) (hc : allP cs True) : FnV Try.prog 54 args r ∧ closedL 0 args = true := by
 unfold kn_put at h
 simp only at h
 split at h
 ·cases h; exact ⟨v_put _ _ _ hc.1, rfl⟩
 ·cases h; exact ⟨FnP.nils (v_put [] _ _ hc.1) ⟨.inr ⟨rfl, _, rfl⟩, ⟨.inl rfl, ⟨.inl rfl, trivial⟩⟩⟩, rfl⟩
 ·cases h
end Go.Proofs.Ytadnpgkddgbhkaa
namespace Go.Proofs.Ytadnpgkddgbhkaa
open Go.RowKit
set_option linter.all false
theorem w_del2 (cs : List DV) (n k : Nat) (i j : Int) (v : Nat) (hcs : cs.length = n * 3) (hi : i = k) (hj : j = (k + 1 : Nat)) (h1 : k < n) (hn : n ≤ 4194304) :
  FnD Try.prog 68 [.view 3 0 v 0 n, .d (.sc (.int .i64 i)), .d (.sc (.int .i64 j))] [⟨43, cs, true, v, true⟩]
   (fun r st' => ∃ ics m' v', ics = delR cs k ∧ m' = n - 1 ∧ r = .view 3 0 v' 0 m' ∧ st' = [⟨43, ics, true, v', true⟩]) := by
 rcases Nat.lt_or_ge (k + 1) n with h | h
 ·refine (w_delete cs n k i j v hcs hi hj h hn).mono ?_
  rintro r st ⟨rfl, rfl⟩
  exact ⟨_, _, _, rfl, rfl, rfl, rfl⟩
 ·refine (w_deleteE cs n k i j v hcs hi hj (by omega) hn).mono ?_
  rintro r st ⟨rfl, rfl⟩
  exact ⟨_, _, _, rfl, rfl, rfl, rfl⟩
def delP (xs : List (List PD)) (i : Nat) : List (List PD) := xs.take i ++ xs.drop (i + 1)
def delX (xs : List (List PD)) (key : ByteArray) : List (List PD) × Bool :=
 if (findX xs key).2 = true then (delP xs (findX xs key).1.toNat, true) else (xs, false)
theorem isP.del {xs : List (List PD)} (h : isP xs) (i : Nat) : isP (delP xs i) := by
 obtain ⟨ps, rfl, hl⟩ := h
 refine ⟨ps.take i ++ ps.drop (i + 1), by simp [delP, pairsX, List.map_take, List.map_drop], ?_⟩
 simp only [List.length_append, List.length_take, List.length_drop]
 omega
theorem delP_len {xs : List (List PD)} {i : Nat} (hi : i < xs.length) : (delP xs i).length = xs.length - 1 := by
 simp only [delP, List.length_append, List.length_take, List.length_drop]; omega
theorem delR_rows {xs : List (List PD)} (h : ∀ x ∈ xs, x.length = 3) (i : Nat) (hi : i < xs.length) : delR (rowsD xs) (i : Int) = rowsD (delP xs i) := by
 have e : rowsD xs = rowsD (xs.take i) ++ rowsD (xs.drop i) := by rw [← rowsD_append, List.take_append_drop]
 have e2 : rowsD xs = rowsD (xs.take (i + 1)) ++ rowsD (xs.drop (i + 1)) := by rw [← rowsD_append, List.take_append_drop]
 have hl := take_len h i (by omega)
 have hl2 := take_len h (i + 1) hi
 simp only [delR, Int.toNat_natCast, delP, rowsD_append]
 congr 1
 ·rw [e, List.take_append_of_le_length (by omega), List.take_of_length_le (by omega)]
 ·rw [e2, List.drop_append_of_le_length (by omega), List.drop_eq_nil_of_le (by omega), List.nil_append]
structure FsDl where
 del : List (List PD) → ByteArray → List (List PD) × Bool
 isP : List (List PD) → Prop
def FsDl0 : FsDl where
 del := delX
 isP := isP
set_option maxRecDepth 100000 in
theorem v_del (xs : List (List PD)) (key : ByteArray) (hp0 : FsDl0.isP xs) : FnV Try.prog 55 [.d (.slc 3 xs), strD key] (.tup [.d (.slc 3 ((delX xs key)).1), boolD (((delX xs key)).2)]) := by
 have hr := findX_range xs key
 have hsz := hp0.sz
 obtain ⟨GFsP, hGFsP⟩ : ∃ F, F = FsP0 := ⟨_, rfl⟩
 have hH : SoundK Try.prog [kn_find GFsP] := by subst hGFsP; exact orK_ok ok_find noK_ok
 refine FnD_cbv (T := fun _ => tabY [] []) (H := fun _ => [kn_find GFsP]) (tabY_ok _ _) hH follows_mixed Try.func55 rfl Try.ntmps55 (by simp) fun A X W hA hX hW => ?_
 clear hH
 cbv
 repeat' first
  | (refine part (fun h => ?_) (fun h => ?_) <;> try cbv)
  | (refine And.intro ?_ ?_)
 all_goals try
  refine callL hX ((w_clone xs hp0).mono ?_)
  rintro r st (⟨hx, rfl, rfl⟩ | ⟨v, m, cs, hcs, hm, rfl, rfl⟩) <;> cbv
 repeat' first
  | (refine part (fun h => ?_) (fun h => ?_) <;> try cbv)
  | (refine And.intro ?_ ?_)
 all_goals try
  refine callL hX ((w_del2 cs m ((findX xs key).1.toNat) _ _ v ?_ ?_ ?_ ?_ ?_).mono ?_)
  rotate_left 5
  rintro r st ⟨ics, m', v', hics, hm', rfl, rfl⟩ <;> cbv
  rotate_left 5
 repeat' first
  | (refine part (fun h => ?_) (fun h => ?_) <;> try cbv)
  | (refine And.intro ?_ ?_)
 all_goals subst hA hX hW hGFsP
 all_goals try clear hH
 all_goals simp only [A0, nc, FsP0, Bool.not_eq_true', Bool.not_eq_false'] at *
 all_goals have e0 : xs = [] → (findX xs key).1 = 0 ∧ (findX xs key).2 = false := by rintro rfl; exact ⟨rfl, rfl⟩
 all_goals try unfold delX
 all_goals generalize findX xs key = q at *
 all_goals obtain ⟨i0, ok⟩ := q
 all_goals simp only at *
 all_goals obtain ⟨k, rfl⟩ : ∃ k : Nat, i0 = k := ⟨i0.toNat, by omega⟩
 all_goals have hk : k ≤ xs.length := by omega
 all_goals have hk2 : ok = true → k < xs.length := fun h => by have := hr.2.2 h; omega
 all_goals try simp only [Int.toNat_natCast, Nat.zero_add]
 all_goals first
  | assumption
  | (simp; done)
  | (simp_all; done)
  | skip
 all_goals first
  | (subst hcs hm; rw [rowsD_len hp0.sz]; done)
  | (subst hcs hm; have := hp0.len; omega)
  | (have hh := ‹ok = true›
     have h1 := hk2 hh
     have h2 := hp0.len
     rw [wrap_i64 (by unfold r64; omega)]
     omega)
  | (have hh := ‹ok = false›
     rw [if_neg (by rw [hh]; simp)]
     first
      | (subst hx; exact ret_up upd2 rfl)
      | (refine ret_slice2 (xs := xs) rfl rfl rfl hm hcs hsz rfl))
  | (have hh := ‹ok = true›
     have hky := hk2 hh
     rw [if_pos hh]
     subst hm
     refine ret_slice2 (xs := delP xs k) rfl rfl rfl ?_ ?_ ?_ rfl
     ·rw [delP_len hky]; exact hm'
     ·rw [hics, hcs]; exact delR_rows hsz k hky
     ·exact (hp0.del k).sz)
def kn_del (F : FsDl) : FuncId × (List DV → RV) := (55, fun args => match args with
 | [.d (.slc 3 xs), .d (.sc (.string key))] => some ([F.isP xs], .tup [.d (.slc 3 ((F.del xs key)).1), boolD (((F.del xs key)).2)])
 | [.d (.sc (.slice none 0 0)), .d (.sc (.string key))] => some ([F.isP []], .tup [.d (.slc 3 ((F.del [] key)).1), boolD (((F.del [] key)).2)])
 | _ => none)
theorem ok_del (args : List DV) (cs : List Prop) (r : DV) (h : (kn_del FsDl0).2 args = some (cs, r)) (hc : allP cs True) : FnV Try.prog 55 args r ∧ closedL 0 args = true := by
 unfold kn_del at h
 simp only at h
 split at h
 ·cases h; exact ⟨v_del _ _ hc.1, rfl⟩
 ·cases h; exact ⟨FnP.nils (v_del [] _ hc.1) ⟨.inr ⟨rfl, _, rfl⟩, ⟨.inl rfl, trivial⟩⟩, rfl⟩
 ·cases h
end Go.Proofs.Ytadnpgkddgbhkaa
namespace Go.Proofs.Ytadnpgkddgbhkaa
open Go.RowKit
set_option linter.all false
structure Span where
 lo : ByteArray
 hi : ByteArray
 deriving DecidableEq
def Span.D (x : Span) : DV := .agg [strD x.lo, strD x.hi]
def under (k h : ByteArray) : Bool := decide (h = none8) || ltb k h
def hasS (s : Span) (k : ByteArray) : Bool := !ltb k s.lo && under k s.hi
deriving instance DecidableEq for Pair
def sameX (xs ys : List (List PD)) : Bool := decide (pairsOf xs = pairsOf ys)
theorem pairsX_inj : ∀ {ps qs : List Pair}, pairsX ps = pairsX qs ↔ ps = qs
 | [], [] => by simp [pairsX]
 | [], q :: qs => by simp [pairsX]
 | p :: ps, [] => by simp [pairsX]
 | ⟨a, b, c⟩ :: ps, ⟨d, e, f⟩ :: qs => by
     have := @pairsX_inj ps qs
     simp only [pairsX, List.map_cons, List.cons.injEq, Pair.row, Pair.mk.injEq] at this ⊢
     simp [this, and_assoc]
structure FsS where
 under : ByteArray → ByteArray → Bool
 has : Span → ByteArray → Bool
 same : List (List PD) → List (List PD) → Bool
 isP : List (List PD) → Prop
def FsS0 : FsS where
 under := under
 has := hasS
 same := sameX
 isP := isP
set_option maxRecDepth 100000 in
theorem v_under (k : ByteArray) (h : ByteArray) : FnV Try.prog 83 [strD k, strD h] (boolD ((under k h))) := by
 refine FnD_cbv (T := fun _ => tabY [] []) (H := fun _ => []) (tabY_ok _ _) noK_ok follows_mixed Try.func83 rfl Try.ntmps83 (by simp) fun A X W hA hX hW => ?_
 cbv
 repeat' first
  | (refine part (fun h => ?_) (fun h => ?_) <;> try cbv)
  | (refine And.intro ?_ ?_)
 all_goals subst hA hX hW
 all_goals try (show Region.lexB _ _ = true; kernel_rfl)
 all_goals try (show turnsB _ = true; kernel_rfl)
 all_goals simp only [A0, FsS0, decide_eq_true_eq, decide_eq_false_iff_not, Bool.not_eq_true', Bool.not_eq_false'] at *
 all_goals first
  | (refine ret_v ?_ rfl
     first
      | rfl
      | (simp_all [under, boolD, intD, strD]; done)
      | (simp_all [under, boolD, intD, strD]; rfl)
      | (simp only [under, boolD, intD, strD] at *; congr 3; grind)
      | (simp only [under, boolD, intD, strD] at *; grind))
  | (intros; simp_all [bytes1, maxLen]; done)
  | (intros; simp only [bytes1, maxLen] at *; omega)
  | grind
def kn_under (F : FsS) : FuncId × (List DV → RV) := (83, fun args => match args with
 | [.d (.sc (.string k)), .d (.sc (.string h))] => some ([], boolD ((F.under k h)))
 | _ => none)
theorem ok_under (args : List DV) (cs : List Prop) (r : DV) (h : (kn_under FsS0).2 args = some (cs, r)) (hc : allP cs True) : FnV Try.prog 83 args r ∧ closedL 0 args = true := by
 unfold kn_under at h
 simp only at h
 split at h
 ·cases h; exact ⟨v_under _ _, rfl⟩
 ·cases h
set_option maxRecDepth 100000 in
theorem v_has (s : Span) (k : ByteArray) : FnV Try.prog 69 [Span.D s, strD k] (boolD ((hasS s k))) := by
 obtain ⟨s_lo, s_hi⟩ := s
 obtain ⟨F, hF⟩ : ∃ F, F = FsS0 := ⟨_, rfl⟩
 have hH : SoundK Try.prog [kn_under F] := by subst hF; exact orK_ok ok_under noK_ok
 refine FnD_cbv (T := fun _ => tabY [] []) (H := fun _ => [kn_under F]) (tabY_ok _ _) hH follows_mixed Try.func69 rfl Try.ntmps69 (by simp) fun A X W hA hX hW => ?_
 clear hH
 cbv
 repeat' first
  | (refine part (fun h => ?_) (fun h => ?_) <;> try cbv)
  | (refine And.intro ?_ ?_)
 all_goals subst hA hX hW hF
 all_goals try (show Region.lexB _ _ = true; kernel_rfl)
 all_goals try (show turnsB _ = true; kernel_rfl)
 all_goals simp only [A0, FsS0, decide_eq_true_eq, decide_eq_false_iff_not, Bool.not_eq_true', Bool.not_eq_false'] at *
 all_goals first
  | (refine ret_v ?_ rfl
     first
      | rfl
      | (simp_all [hasS, Span.D, boolD, intD, strD]; done)
      | (simp_all [hasS, Span.D, boolD, intD, strD]; rfl)
      | (simp only [hasS, Span.D, boolD, intD, strD] at *; congr 3; grind)
      | (simp only [hasS, Span.D, boolD, intD, strD] at *; grind))
  | (intros; simp_all [bytes1, maxLen]; done)
  | (intros; simp only [bytes1, maxLen] at *; omega)
  | grind
def kn_has (F : FsS) : FuncId × (List DV → RV) := (69, fun args => match args with
 | [.agg [.d (.sc (.string s_lo)), .d (.sc (.string s_hi))], .d (.sc (.string k))] => some ([], boolD ((F.has ⟨s_lo, s_hi⟩ k)))
 | _ => none)
theorem ok_has (args : List DV) (cs : List Prop) (r : DV) (h : (kn_has FsS0).2 args = some (cs, r)) (hc : allP cs True) : FnV Try.prog 69 args r ∧ closedL 0 args = true := by
 unfold kn_has at h
 simp only at h
 split at h
 ·cases h; exact ⟨v_has ⟨_, _⟩ _, rfl⟩
 ·cases h
end Go.Proofs.Ytadnpgkddgbhkaa
namespace Go.Proofs.Ytadnpgkddgbhkaa
open Go.RowKit
set_option linter.all false
def rangeL (s : Span) : List Pair → List Pair → List Pair × Bool
 | [], acc => (acc, false)
 | p :: ps, acc => if hasS s p.key = true then (if acc.length = 8 then (acc, true) else rangeL s ps (acc ++ [p])) else rangeL s ps acc
def rangeX (xs : List (List PD)) (s : Span) : List (List PD) × Bool := (pairsX (rangeL s (pairsOf xs) []).1, (rangeL s (pairsOf xs) []).2)
def rgS (xs : List (List PD)) (n : Int) : Int → Option (List DV × Nat × Nat) → SL
 | i, none => [(3, .ref 0 0 0), (6, .d (.sc (.slice none 0 0))), (9, .d (.slc 3 xs)), (10, .d (.sc (.int .i64 n))), (11, .d (.sc (.int .i64 i)))]
 | i, some (_, v, m) => [(3, .ref 0 0 0), (6, .view 3 1 v 0 m), (9, .d (.slc 3 xs)), (10, .d (.sc (.int .i64 n))), (11, .d (.sc (.int .i64 i)))]
def rgT (s : Span) : Option (List DV × Nat × Nat) → Store
 | none => [⟨114, [.d (.sc (.string s.lo)), .d (.sc (.string s.hi))], false, 0, true⟩]
 | some (cs, v, _) => [⟨114, [.d (.sc (.string s.lo)), .d (.sc (.string s.hi))], false, 0, true⟩, ⟨43, cs, true, v, true⟩]
def rgI (acc : List Pair) : Option (List DV × Nat × Nat) → Prop
 | none => acc = []
 | some (cs, _, m) => cs = rowsD (pairsX acc) ∧ m = acc.length
structure FsR where
 range : List (List PD) → Span → List (List PD) × Bool
 isP : List (List PD) → Prop
def FsR0 : FsR where
 range := rangeX
 isP := isP
set_option maxRecDepth 100000 in
theorem v_range (xs : List (List PD)) (s : Span) (hp0 : FsR0.isP xs) : FnV Try.prog 56 [.d (.slc 3 xs), Span.D s] (.tup [.d (.slc 3 ((rangeX xs s)).1), boolD (((rangeX xs s)).2)]) := by
 obtain ⟨s_lo, s_hi⟩ := s
 obtain ⟨ps, hxs, hl⟩ := hp0
 have hlen : xs.length = ps.length := by rw [hxs]; exact pairsX_length ps
 have hof : pairsOf xs = ps := by rw [hxs]; exact pairsOf_X ps
 obtain ⟨n, hn⟩ : ∃ n : Int, n = ps.length := ⟨_, rfl⟩
 unfold rangeX
 rw [hof]
 obtain ⟨q, hq⟩ : ∃ q, q = rangeL ⟨s_lo, s_hi⟩ ps [] := ⟨_, rfl⟩
 rw [← hq]
 obtain ⟨GFsS, hGFsS⟩ : ∃ F, F = FsS0 := ⟨_, rfl⟩
 have hH : SoundK Try.prog [kn_has GFsS] := by subst hGFsS; exact orK_ok ok_has noK_ok
 refine FnD_cbv (T := fun _ => tabY [13] []) (H := fun _ => [kn_has GFsS]) (tabY_ok _ _) hH follows_mixed Try.func56 rfl Try.ntmps56 (by simp) fun A X W hA hX hW => ?_
 cbv
 replace hn : n = (ps.length : Int) := hn
 refine loopL (T := fun _ => tabY [13] []) (H := fun _ => [kn_has GFsS]) (tabY_ok _ _) hH follows_mixed hA hX (fun x : Int × List Pair × Option (List DV × Nat × Nat) => (0 ≤ x.1 ∧ x.1 ≤ n) ∧ q = rangeL ⟨s_lo, s_hi⟩ (ps.drop x.1.toNat) x.2.1 ∧ x.2.1.length ≤ 8 ∧ rgI x.2.1 x.2.2)
  (fun x => rgS xs n x.1 x.2.2) (fun x => rgT ⟨s_lo, s_hi⟩ x.2.2)
  (fun x => n.toNat - x.1.toNat) (0, [], none) ?_ ?_ ?_
 ·exact ⟨⟨by omega, by omega⟩, hq, by simp, rfl⟩
 ·subst hA; exact told_less (by simp [toldP, getS, A0, hn, hlen, rgS])
 rintro R ⟨i, acc, o⟩ hR ⟨hi, i2, i3, i4⟩
 replace hi : 0 ≤ i ∧ i ≤ n := hi
 replace i2 : q = rangeL ⟨s_lo, s_hi⟩ (ps.drop i.toNat) acc := i2
 replace i3 : acc.length ≤ 8 := i3
 have i5 : o = none ∧ acc = [] ∨ ∃ cs v m, o = some (cs, v, m) ∧ cs = rowsD (pairsX acc) ∧ m = acc.length := by
  rcases o with _ | ⟨cs, v, m⟩
  ·exact .inl ⟨rfl, i4⟩
  ·exact .inr ⟨cs, v, m, rfl, i4⟩
 clear i4
 rcases i5 with ⟨rfl, i4⟩ | ⟨cs, v, m, rfl, hcs, hm⟩ <;>
 cbv
 all_goals
  repeat' first
   | (refine part (fun h => ?_) (fun h => ?_) <;> try cbv)
   | (refine And.intro ?_ ?_)
 all_goals subst hA hX hW hR
 all_goals try clear hH
 all_goals simp only [A0, nc, decide_eq_true_eq, decide_eq_false_iff_not, Bool.not_eq_true', Bool.not_eq_false'] at *
 all_goals try replace hi : 0 ≤ i ∧ i ≤ n := hi
 all_goals replace hn : n = (ps.length : Int) := hn
 all_goals have ei : IntKind.wrap .i64 (i + 1) = i + 1 := wrap_i64 (by unfold r64; omega)
 all_goals try
  have hlt : i < ps.length := by omega
  have hrow := prow hxs hi.1 hlt
  have hd := pdrop hi.1 hlt
  generalize ps[i.toNat]'(by omega) = p at hrow hd
  rw [hd] at i2
  simp only [hrow, Pair.row, List.map_cons, List.map_nil, Nat.zero_add, List.getElem?_cons_zero, List.getElem?_cons_succ] at *
 all_goals first
  | rfl
  | (show Region.lexB _ _ = true; kernel_rfl)
  | (show turnsB _ = true; kernel_rfl)
  | omega
  | (refine ⟨by omega, by omega⟩)
  | (simp; done)
  | (intros; first | assumption | trivial | (simp_all; done))
  | (have h4 := ‹GFsS.has ⟨s_lo, s_hi⟩ p.key = false›
     subst hGFsS
     have h5 : hasS ⟨s_lo, s_hi⟩ p.key = false := h4
     rw [rangeL, if_neg (by rw [h5]; simp)] at i2
     first
      | (subst i4
         refine ⟨(i + 1, [], none), ⟨⟨by show (0 : Int) ≤ i + 1; omega, by show i + 1 ≤ n; omega⟩, i2, i3, rfl⟩, by show n.toNat - (i + 1).toNat < n.toNat - i.toNat; omega, told_keep [0] rfl rfl ?_⟩
         simp [toldP, getS, rgS, pullD, ei]
         done)
      | (refine ⟨(i + 1, acc, some (cs, v, m)), ⟨⟨by show (0 : Int) ≤ i + 1; omega, by show i + 1 ≤ n; omega⟩, i2, i3, hcs, hm⟩, by show n.toNat - (i + 1).toNat < n.toNat - i.toNat; omega, told_keep [0, 1] rfl ?_ ?_⟩
         ·simp [keepSt, pullBox, pullL_eq, hcs, pull_rows, pullD, rgT]
         ·simp [toldP, getS, rgS, pullD, ei]))
  | (have h4 := ‹GFsS.has ⟨s_lo, s_hi⟩ p.key = true›
     subst hGFsS
     have h5 : hasS ⟨s_lo, s_hi⟩ p.key = true := h4
     rw [rangeL, if_pos h5] at i2
     have hr : rowsD (pairsX [p]) = [.d (.sc (.string p.key)), .d (.sc (.string p.value)), .d (.sc (.int .i64 p.version))] := rfl
     first
      | (subst i4
         rw [if_neg (by simp)] at i2
         refine ⟨(i + 1, [p], some (rowsD (pairsX [p]), 0, 1)), ⟨⟨by show (0 : Int) ≤ i + 1; omega, by show i + 1 ≤ n; omega⟩, i2, by simp, rfl, rfl⟩, by show n.toNat - (i + 1).toNat < n.toNat - i.toNat; omega, told_keep [0, 3] rfl ?_ ?_⟩
         ·simp [keepSt, pullBox, pullL_eq, pullD, rgT, hr]
         ·simp [toldP, getS, rgS, pullD, ei])
      | (have h8 := ‹(m : Int) = 8›
         rw [if_pos (by omega)] at i2
         rw [i2]
         exact ret_slice2 (xs := pairsX acc) rfl rfl rfl (by rw [hm, pairsX_length]) hcs (isP.sz ⟨acc, rfl, by omega⟩) rfl)
      | (have h8 := ‹¬ (m : Int) = 8›
         rw [if_neg (by omega)] at i2
         refine ⟨(i + 1, acc ++ [p], some (cs ++ rowsD (pairsX [p]), v + 1, m + 1)), ⟨⟨by show (0 : Int) ≤ i + 1; omega, by show i + 1 ≤ n; omega⟩, i2, by show (acc ++ [p]).length ≤ 8; rw [List.length_append, List.length_singleton]; omega, by rw [hcs, ← rowsD_append]; simp [pairsX], by rw [hm]; simp⟩, by show n.toNat - (i + 1).toNat < n.toNat - i.toNat; omega, told_keep [0, 1] rfl ?_ ?_⟩
         ·simp [keepSt, pullBox, pullL_eq, pullD, rgT, hr, hcs, pull_rows]
         ·simp [toldP, getS, rgS, pullD, ei]))
  | (rw [hcs, rowsD_len (isP.sz ⟨acc, rfl, by omega⟩), hm, pairsX_length]
     done)
  | (rw [show i.toNat = ps.length by omega, List.drop_length] at i2
     rw [i2]
     first
      | (subst i4; exact ret_up upd2 rfl)
      | exact ret_slice2 (xs := pairsX acc) rfl rfl rfl (by rw [hm, pairsX_length]) hcs (isP.sz ⟨acc, rfl, by omega⟩) rfl)
  | skip
 ·subst i4
  subst hGFsS
  have h5 : hasS ⟨s_lo, s_hi⟩ p.key = true := h
  rw [rangeL, if_pos h5, if_neg (by simp)] at i2
  have hr : rowsD (pairsX [p]) = [.d (.sc (.string p.key)), .d (.sc (.string p.value)), .d (.sc (.int .i64 p.version))] := rfl
  refine ⟨(i + 1, [p], some (rowsD (pairsX [p]), 0, 1)), ⟨⟨by show (0 : Int) ≤ i + 1; omega, by show i + 1 ≤ n; omega⟩, i2, by simp, rfl, rfl⟩, by show n.toNat - (i + 1).toNat < n.toNat - i.toNat; omega, told_keep [0, 3] rfl ?_ ?_⟩
  ·simp [keepSt, pullBox, pullL_eq, pullD, rgT, hr]
  ·simp [toldP, getS, rgS, pullD, ei]
   exact ⟨rfl, rfl⟩
 ·subst hGFsS
  have h5 : hasS ⟨s_lo, s_hi⟩ p.key = false := h
  rw [rangeL, if_neg (by rw [h5]; simp)] at i2
  refine ⟨(i + 1, acc, some (cs, v, m)), ⟨⟨by show (0 : Int) ≤ i + 1; omega, by show i + 1 ≤ n; omega⟩, i2, i3, hcs, hm⟩, by show n.toNat - (i + 1).toNat < n.toNat - i.toNat; omega, told_keep [0, 1] rfl ?_ ?_⟩
  ·simp [keepSt, pullBox, pullL_eq, hcs, pull_rows, pullD, rgT]
  ·simp [toldP, getS, rgS, pullD, ei]
   exact ⟨rfl, rfl⟩
 ·subst hGFsS
  have h5 : hasS ⟨s_lo, s_hi⟩ p.key = true := h
  have h8 := ‹¬ (m : Int) = 8›
  rw [rangeL, if_pos h5, if_neg (by omega)] at i2
  have hr : rowsD (pairsX [p]) = [.d (.sc (.string p.key)), .d (.sc (.string p.value)), .d (.sc (.int .i64 p.version))] := rfl
  refine ⟨(i + 1, acc ++ [p], some (cs ++ rowsD (pairsX [p]), v + 1, m + 1)), ⟨⟨by show (0 : Int) ≤ i + 1; omega, by show i + 1 ≤ n; omega⟩, i2, by show (acc ++ [p]).length ≤ 8; rw [List.length_append, List.length_singleton]; omega, by rw [hcs, ← rowsD_append]; simp [pairsX], by rw [hm]; simp⟩, by show n.toNat - (i + 1).toNat < n.toNat - i.toNat; omega, told_keep [0, 1] rfl ?_ ?_⟩
  ·simp [keepSt, pullBox, pullL_eq, pullD, rgT, hr, hcs, pull_rows]
  ·simp [toldP, getS, rgS, pullD, ei]
   exact ⟨rfl, rfl⟩
def kn_range (F : FsR) : FuncId × (List DV → RV) := (56, fun args => match args with
 | [.d (.slc 3 xs), .agg [.d (.sc (.string s_lo)), .d (.sc (.string s_hi))]] => some ([F.isP xs], .tup [.d (.slc 3 ((F.range xs ⟨s_lo, s_hi⟩)).1), boolD (((F.range xs ⟨s_lo, s_hi⟩)).2)])
 | [.d (.sc (.slice none 0 0)), .agg [.d (.sc (.string s_lo)), .d (.sc (.string s_hi))]] => some ([F.isP []], .tup [.d (.slc 3 ((F.range [] ⟨s_lo, s_hi⟩)).1), boolD (((F.range [] ⟨s_lo, s_hi⟩)).2)])
 | _ => none)
theorem ok_range (args : List DV) (cs : List Prop) (r : DV) (h : (kn_range FsR0).2 args = some (cs, r)) (hc : allP cs True) : FnV Try.prog 56 args r ∧ closedL 0 args = true := by
 unfold kn_range at h
 simp only at h
 split at h
 ·cases h; exact ⟨v_range _ ⟨_, _⟩ hc.1, rfl⟩
 ·cases h; exact ⟨FnP.nils (v_range [] ⟨_, _⟩ hc.1) ⟨.inr ⟨rfl, _, rfl⟩, ⟨.inl rfl, trivial⟩⟩, rfl⟩
 ·cases h
end Go.Proofs.Ytadnpgkddgbhkaa
namespace Go.Proofs.Ytadnpgkddgbhkaa
open Go.RowKit
set_option linter.all false
set_option maxHeartbeats 4000000
structure FsE where
 findR : List (List PD) → ByteArray → Int × Bool
 getR : List (List PD) → ByteArray → Pair × Bool
 hasR : Span → ByteArray → Bool
 isP : List (List PD) → Prop
def FsE0 : FsE where
 findR := findX
 getR := getP
 hasR := hasS
 isP := isP
set_option maxRecDepth 100000 in
theorem v_findR (xs : List (List PD)) (key : ByteArray) (hp0 : FsE0.isP xs) : FnV Try.prog 70 [.d (.slc 3 xs), strD key] (.tup [intD (((findX xs key)).1), boolD (((findX xs key)).2)]) := by
 obtain ⟨ps, hxs, hl⟩ := hp0
 have hlen : xs.length = ps.length := by rw [hxs]; exact pairsX_length ps
 have hof : findX xs key = findL key ps 0 := by rw [findX, hxs, pairsOf_X ps]
 obtain ⟨n, hn⟩ : ∃ n : Int, n = ps.length := ⟨_, rfl⟩
 rw [hof]
 obtain ⟨q, hq⟩ : ∃ q, q = findL key ps 0 := ⟨_, rfl⟩
 rw [← hq]
 refine FnD_cbv (T := fun _ => tabY [15, 16, 23, 24] []) (H := fun _ => []) (tabY_ok _ _) noK_ok follows_mixed Try.func70 rfl Try.ntmps70 (by simp) fun A X W hA hX hW => ?_
 cbv
 replace hn : n = (ps.length : Int) := hn
 refine loopL (T := fun _ => tabY [15, 16, 23, 24] []) (H := fun _ => []) (tabY_ok _ _) noK_ok follows_mixed hA hX (fun x : Int => (0 ≤ x ∧ x ≤ n) ∧ q = findL key (ps.drop x.toNat) x)
  (fun x => [(0, .d (.slc 3 xs)), (1, .d (.sc (.string key))), (6, .d (.sc (.int .i64 x)))]) (fun _ => [])
  (fun x => n.toNat - x.toNat) 0 ?_ ?_ ?_
 ·exact ⟨⟨by omega, by omega⟩, hq⟩
 ·subst hA; exact told_less (by simp [toldP, getS, A0, hn, hlen])
 rintro R i hR ⟨hi, i2⟩
 cbv
 repeat' first
  | (refine part (fun h => ?_) (fun h => ?_) <;> try cbv)
  | (refine And.intro ?_ ?_)
 all_goals subst hA hX hW hR
 all_goals simp only [A0, nc, decide_eq_true_eq, decide_eq_false_iff_not, Bool.not_eq_true', Bool.not_eq_false'] at *
 all_goals try replace hi : 0 ≤ i ∧ i ≤ n := hi
 all_goals replace hn : n = (ps.length : Int) := hn
 all_goals have ei : IntKind.wrap .i64 (i + 1) = i + 1 := wrap_i64 (by unfold r64; omega)
 all_goals try
  have hlt : i < ps.length := by omega
  have hrow := prow hxs hi.1 hlt
  have hd := pdrop hi.1 hlt
  generalize ps[i.toNat]'(by omega) = p at hrow hd
  rw [hd] at i2
  simp only [hrow, Pair.row, List.map_cons, List.map_nil, Nat.zero_add, List.getElem?_cons_zero, List.getElem?_cons_succ] at *
 all_goals first
  | rfl
  | (show Region.lexB _ _ = true; kernel_rfl)
  | (show turnsB _ = true; kernel_rfl)
  | omega
  | (refine ⟨by omega, by omega⟩)
  | (simp; done)
  | (intros; first | assumption | trivial | (simp_all; done))
  | (have hk : ltb p.key key = true := by assumption
     have hk2 : findL key (p :: ps.drop (i + 1).toNat) i = findL key (ps.drop (i + 1).toNat) (i + 1) := by rw [findL, if_pos hk]
     rw [hk2] at i2
     refine ⟨i + 1, ⟨⟨by omega, by omega⟩, i2⟩, by omega, told_keep [] rfl rfl ?_⟩
     simp [toldP, getS, pullD, ei]
     done)
  | (have hk : ltb p.key key = false := by assumption
     have hk2 : findL key (p :: ps.drop (i + 1).toNat) i = (i, decide (p.key = key)) := by rw [findL, if_neg (by simp [hk])]
     rw [hk2] at i2
     refine ret_v ?_ rfl
     rw [i2]
     rfl)
  | (rw [show i.toNat = ps.length by omega, List.drop_length] at i2
     refine ret_v ?_ rfl
     rw [i2]
     simp only [findL, hlen, boolD, intD]
     rw [show i = (ps.length : Int) by omega]
     done)
  | (refine ret_v ?_ rfl
     rw [show i.toNat = ps.length by omega, List.drop_length] at i2
     rw [i2]
     simp only [findL, boolD, intD]
     rw [show i = (xs.length : Int) by omega]
     done)
def kn_findR (F : FsE) : FuncId × (List DV → RV) := (70, fun args => match args with
 | [.d (.slc 3 xs), .d (.sc (.string key))] => some ([F.isP xs], .tup [intD (((F.findR xs key)).1), boolD (((F.findR xs key)).2)])
 | [.d (.sc (.slice none 0 0)), .d (.sc (.string key))] => some ([F.isP []], .tup [intD (((F.findR [] key)).1), boolD (((F.findR [] key)).2)])
 | _ => none)
theorem ok_findR (args : List DV) (cs : List Prop) (r : DV) (h : (kn_findR FsE0).2 args = some (cs, r)) (hc : allP cs True) : FnV Try.prog 70 args r ∧ closedL 0 args = true := by
 unfold kn_findR at h
 simp only at h
 split at h
 ·cases h; exact ⟨v_findR _ _ hc.1, rfl⟩
 ·cases h; exact ⟨FnP.nils (v_findR [] _ hc.1) ⟨.inr ⟨rfl, _, rfl⟩, ⟨.inl rfl, trivial⟩⟩, rfl⟩
 ·cases h
set_option maxRecDepth 100000 in
theorem v_getR (xs : List (List PD)) (key : ByteArray) (hp0 : FsE0.isP xs) : FnV Try.prog 57 [.d (.slc 3 xs), strD key] (.tup [Pair.D (((getP xs key)).1), boolD (((getP xs key)).2)]) := by
 have hr := findX_range xs key
 obtain ⟨F, hF⟩ : ∃ F, F = FsE0 := ⟨_, rfl⟩
 have hH : SoundK Try.prog [kn_findR F] := by subst hF; exact orK_ok ok_findR noK_ok
 refine FnD_cbv (T := fun _ => tabY [19] []) (H := fun _ => [kn_findR F]) (tabY_ok _ _) hH follows_mixed Try.func57 rfl Try.ntmps57 (by simp) fun A X W hA hX hW => ?_
 clear hH
 cbv
 repeat' first
  | (refine part (fun h => ?_) (fun h => ?_) <;> try cbv)
  | (refine And.intro ?_ ?_)
 all_goals subst hA hX hW hF
 all_goals try (show Region.lexB _ _ = true; kernel_rfl)
 all_goals try (show turnsB _ = true; kernel_rfl)
 all_goals simp only [A0, FsE0, decide_eq_true_eq, decide_eq_false_iff_not, Bool.not_eq_true', Bool.not_eq_false'] at *
 all_goals first
  | assumption
  | (refine ret_v ?_ rfl
     simp [getP, getX, thereX, *, Pair.D, boolD]
     done)
  | (have h := ‹(findX xs key).snd = true›
     obtain ⟨p, hp⟩ := hp0.row hr.1 (hr.2.2 h)
     first
      | exact ⟨hr.1, hr.2.2 h⟩
      | (rw [hp]; simp [Pair.row]; done)
      | (have hg : getP xs key = (p, true) := by
          unfold getP getX thereX
          rw [if_pos h, hp, h]; rfl
         refine ret_v ?_ rfl
         rw [hp, hg]
         simp [Pair.D, Pair.row, boolD]
         done))
def kn_getR (F : FsE) : FuncId × (List DV → RV) := (57, fun args => match args with
 | [.d (.slc 3 xs), .d (.sc (.string key))] => some ([F.isP xs], .tup [Pair.D (((F.getR xs key)).1), boolD (((F.getR xs key)).2)])
 | [.d (.sc (.slice none 0 0)), .d (.sc (.string key))] => some ([F.isP []], .tup [Pair.D (((F.getR [] key)).1), boolD (((F.getR [] key)).2)])
 | _ => none)
theorem ok_getR (args : List DV) (cs : List Prop) (r : DV) (h : (kn_getR FsE0).2 args = some (cs, r)) (hc : allP cs True) : FnV Try.prog 57 args r ∧ closedL 0 args = true := by
 unfold kn_getR at h
 simp only at h
 split at h
 ·cases h; exact ⟨v_getR _ _ hc.1, rfl⟩
 ·cases h; exact ⟨FnP.nils (v_getR [] _ hc.1) ⟨.inr ⟨rfl, _, rfl⟩, ⟨.inl rfl, trivial⟩⟩, rfl⟩
 ·cases h
set_option maxRecDepth 100000 in
theorem v_hasR (s : Span) (k : ByteArray) : FnV Try.prog 71 [Span.D s, strD k] (boolD ((hasS s k))) := by
 obtain ⟨s_lo, s_hi⟩ := s
 refine FnD_cbv (T := fun _ => tabY [] []) (H := fun _ => []) (tabY_ok _ _) noK_ok follows_mixed Try.func71 rfl Try.ntmps71 (by simp) fun A X W hA hX hW => ?_
 cbv
 repeat' first
  | (refine part (fun h => ?_) (fun h => ?_) <;> try cbv)
  | (refine And.intro ?_ ?_)
 all_goals subst hA hX hW
 all_goals try (show Region.lexB _ _ = true; kernel_rfl)
 all_goals try (show turnsB _ = true; kernel_rfl)
 all_goals simp only [A0, FsE0, decide_eq_true_eq, decide_eq_false_iff_not, Bool.not_eq_true', Bool.not_eq_false'] at *
 all_goals first
  | (refine ret_v ?_ rfl
     first
      | rfl
      | (simp_all [hasS, Span.D, boolD, intD, strD]; done)
      | (simp_all [hasS, Span.D, boolD, intD, strD]; rfl)
      | (simp only [hasS, Span.D, boolD, intD, strD] at *; congr 3; grind)
      | (simp only [hasS, Span.D, boolD, intD, strD] at *; grind))
  | (intros; simp_all [bytes1, maxLen]; done)
  | (intros; simp only [bytes1, maxLen] at *; omega)
  | grind
def kn_hasR (F : FsE) : FuncId × (List DV → RV) := (71, fun args => match args with
 | [.agg [.d (.sc (.string s_lo)), .d (.sc (.string s_hi))], .d (.sc (.string k))] => some ([], boolD ((F.hasR ⟨s_lo, s_hi⟩ k)))
 | _ => none)
theorem ok_hasR (args : List DV) (cs : List Prop) (r : DV) (h : (kn_hasR FsE0).2 args = some (cs, r)) (hc : allP cs True) : FnV Try.prog 71 args r ∧ closedL 0 args = true := by
 unfold kn_hasR at h
 simp only at h
 split at h
 ·cases h; exact ⟨v_hasR ⟨_, _⟩ _, rfl⟩
 ·cases h
end Go.Proofs.Ytadnpgkddgbhkaa
namespace Go.Proofs.Ytadnpgkddgbhkaa
open Go.RowKit
set_option linter.all false
set_option maxHeartbeats 4000000
def rgS2 (xs : List (List PD)) : Int → Option (List DV × Nat × Nat) → SL
 | i, none => [(0, .d (.slc 3 xs)), (3, .ref 0 0 0), (6, .d (.sc (.slice none 0 0))), (7, .d (.sc (.int .i64 i)))]
 | i, some (_, v, m) => [(0, .d (.slc 3 xs)), (3, .ref 0 0 0), (6, .view 3 1 v 0 m), (7, .d (.sc (.int .i64 i)))]
structure FsF where
 rangeR : List (List PD) → Span → List (List PD) × Bool
 isP : List (List PD) → Prop
def FsF0 : FsF where
 rangeR := rangeX
 isP := isP
set_option maxRecDepth 100000 in
theorem v_rangeR (xs : List (List PD)) (s : Span) (hp0 : FsF0.isP xs) : FnV Try.prog 60 [.d (.slc 3 xs), Span.D s] (.tup [.d (.slc 3 ((rangeX xs s)).1), boolD (((rangeX xs s)).2)]) := by
 obtain ⟨s_lo, s_hi⟩ := s
 obtain ⟨ps, hxs, hl⟩ := hp0
 have hlen : xs.length = ps.length := by rw [hxs]; exact pairsX_length ps
 have hof : pairsOf xs = ps := by rw [hxs]; exact pairsOf_X ps
 obtain ⟨n, hn⟩ : ∃ n : Int, n = ps.length := ⟨_, rfl⟩
 unfold rangeX
 rw [hof]
 obtain ⟨q, hq⟩ : ∃ q, q = rangeL ⟨s_lo, s_hi⟩ ps [] := ⟨_, rfl⟩
 rw [← hq]
 obtain ⟨GFsE, hGFsE⟩ : ∃ F, F = FsE0 := ⟨_, rfl⟩
 have hH : SoundK Try.prog [kn_hasR GFsE] := by subst hGFsE; exact orK_ok ok_hasR noK_ok
 refine FnD_cbv (T := fun _ => tabY [17, 18, 29] []) (H := fun _ => [kn_hasR GFsE]) (tabY_ok _ _) hH follows_mixed Try.func60 rfl Try.ntmps60 (by simp) fun A X W hA hX hW => ?_
 cbv
 replace hn : n = (ps.length : Int) := hn
 refine loopL (T := fun _ => tabY [17, 18, 29] []) (H := fun _ => [kn_hasR GFsE]) (tabY_ok _ _) hH follows_mixed hA hX (fun x : Int × List Pair × Option (List DV × Nat × Nat) => (0 ≤ x.1 ∧ x.1 ≤ n) ∧ q = rangeL ⟨s_lo, s_hi⟩ (ps.drop x.1.toNat) x.2.1 ∧ x.2.1.length ≤ 8 ∧ rgI x.2.1 x.2.2)
  (fun x => rgS2 xs x.1 x.2.2) (fun x => rgT ⟨s_lo, s_hi⟩ x.2.2)
  (fun x => n.toNat - x.1.toNat) (0, [], none) ?_ ?_ ?_
 ·exact ⟨⟨by omega, by omega⟩, hq, by simp, rfl⟩
 ·subst hA; exact told_less (by simp [toldP, getS, A0, hn, hlen, rgS2])
 rintro R ⟨i, acc, o⟩ hR ⟨hi, i2, i3, i4⟩
 replace hi : 0 ≤ i ∧ i ≤ n := hi
 replace i2 : q = rangeL ⟨s_lo, s_hi⟩ (ps.drop i.toNat) acc := i2
 replace i3 : acc.length ≤ 8 := i3
 have i5 : o = none ∧ acc = [] ∨ ∃ cs v m, o = some (cs, v, m) ∧ cs = rowsD (pairsX acc) ∧ m = acc.length := by
  rcases o with _ | ⟨cs, v, m⟩
  ·exact .inl ⟨rfl, i4⟩
  ·exact .inr ⟨cs, v, m, rfl, i4⟩
 clear i4
 rcases i5 with ⟨rfl, i4⟩ | ⟨cs, v, m, rfl, hcs, hm⟩ <;>
 cbv
 all_goals
  repeat' first
   | (refine part (fun h => ?_) (fun h => ?_) <;> try cbv)
   | (refine And.intro ?_ ?_)
 all_goals subst hA hX hW hR
 all_goals try clear hH
 all_goals simp only [A0, nc, decide_eq_true_eq, decide_eq_false_iff_not, Bool.not_eq_true', Bool.not_eq_false'] at *
 all_goals try replace hi : 0 ≤ i ∧ i ≤ n := hi
 all_goals replace hn : n = (ps.length : Int) := hn
 all_goals have ei : IntKind.wrap .i64 (i + 1) = i + 1 := wrap_i64 (by unfold r64; omega)
 all_goals try
  have hlt : i < ps.length := by omega
  have hrow := prow hxs hi.1 hlt
  have hd := pdrop hi.1 hlt
  generalize ps[i.toNat]'(by omega) = p at hrow hd
  rw [hd] at i2
  simp only [hrow, Pair.row, List.map_cons, List.map_nil, Nat.zero_add, List.getElem?_cons_zero, List.getElem?_cons_succ] at *
 all_goals first
  | rfl
  | (show Region.lexB _ _ = true; kernel_rfl)
  | (show turnsB _ = true; kernel_rfl)
  | omega
  | (refine ⟨by omega, by omega⟩)
  | (simp; done)
  | (intros; first | assumption | trivial | (simp_all; done))
  | (have h4 := ‹GFsE.hasR ⟨s_lo, s_hi⟩ p.key = false›
     subst hGFsE
     have h5 : hasS ⟨s_lo, s_hi⟩ p.key = false := h4
     rw [rangeL, if_neg (by rw [h5]; simp)] at i2
     first
      | (subst i4
         refine ⟨(i + 1, [], none), ⟨⟨by show (0 : Int) ≤ i + 1; omega, by show i + 1 ≤ n; omega⟩, i2, i3, rfl⟩, by show n.toNat - (i + 1).toNat < n.toNat - i.toNat; omega, told_keep [0] rfl rfl ?_⟩
         simp [toldP, getS, rgS2, pullD, ei]
         done)
      | (refine ⟨(i + 1, acc, some (cs, v, m)), ⟨⟨by show (0 : Int) ≤ i + 1; omega, by show i + 1 ≤ n; omega⟩, i2, i3, hcs, hm⟩, by show n.toNat - (i + 1).toNat < n.toNat - i.toNat; omega, told_keep [0, 1] rfl ?_ ?_⟩
         ·simp [keepSt, pullBox, pullL_eq, hcs, pull_rows, pullD, rgT]
         ·simp [toldP, getS, rgS2, pullD, ei]))
  | (have h4 := ‹GFsE.hasR ⟨s_lo, s_hi⟩ p.key = true›
     subst hGFsE
     have h5 : hasS ⟨s_lo, s_hi⟩ p.key = true := h4
     rw [rangeL, if_pos h5] at i2
     have hr : rowsD (pairsX [p]) = [.d (.sc (.string p.key)), .d (.sc (.string p.value)), .d (.sc (.int .i64 p.version))] := rfl
     first
      | (subst i4
         rw [if_neg (by simp)] at i2
         refine ⟨(i + 1, [p], some (rowsD (pairsX [p]), 0, 1)), ⟨⟨by show (0 : Int) ≤ i + 1; omega, by show i + 1 ≤ n; omega⟩, i2, by simp, rfl, rfl⟩, by show n.toNat - (i + 1).toNat < n.toNat - i.toNat; omega, told_keep [0, 2] rfl ?_ ?_⟩
         ·simp [keepSt, pullBox, pullL_eq, pullD, rgT, hr]
         ·simp [toldP, getS, rgS2, pullD, ei])
      | (have h8 := ‹(m : Int) = 8›
         rw [if_pos (by omega)] at i2
         rw [i2]
         exact ret_slice2 (xs := pairsX acc) rfl rfl rfl (by rw [hm, pairsX_length]) hcs (isP.sz ⟨acc, rfl, by omega⟩) rfl)
      | (have h8 := ‹¬ (m : Int) = 8›
         rw [if_neg (by omega)] at i2
         refine ⟨(i + 1, acc ++ [p], some (cs ++ rowsD (pairsX [p]), v + 1, m + 1)), ⟨⟨by show (0 : Int) ≤ i + 1; omega, by show i + 1 ≤ n; omega⟩, i2, by show (acc ++ [p]).length ≤ 8; rw [List.length_append, List.length_singleton]; omega, by rw [hcs, ← rowsD_append]; simp [pairsX], by rw [hm]; simp⟩, by show n.toNat - (i + 1).toNat < n.toNat - i.toNat; omega, told_keep [0, 1] rfl ?_ ?_⟩
         ·simp [keepSt, pullBox, pullL_eq, pullD, rgT, hr, hcs, pull_rows]
         ·simp [toldP, getS, rgS2, pullD, ei]))
  | (rw [hcs, rowsD_len (isP.sz ⟨acc, rfl, by omega⟩), hm, pairsX_length]
     done)
  | (rw [show i.toNat = ps.length by omega, List.drop_length] at i2
     rw [i2]
     first
      | (subst i4; exact ret_up upd2 rfl)
      | exact ret_slice2 (xs := pairsX acc) rfl rfl rfl (by rw [hm, pairsX_length]) hcs (isP.sz ⟨acc, rfl, by omega⟩) rfl)
  | skip
 ·subst i4
  subst hGFsE
  have h5 : hasS ⟨s_lo, s_hi⟩ p.key = true := h
  rw [rangeL, if_pos h5, if_neg (by simp)] at i2
  have hr : rowsD (pairsX [p]) = [.d (.sc (.string p.key)), .d (.sc (.string p.value)), .d (.sc (.int .i64 p.version))] := rfl
  refine ⟨(i + 1, [p], some (rowsD (pairsX [p]), 0, 1)), ⟨⟨by show (0 : Int) ≤ i + 1; omega, by show i + 1 ≤ n; omega⟩, i2, by simp, rfl, rfl⟩, by show n.toNat - (i + 1).toNat < n.toNat - i.toNat; omega, told_keep [0, 2] rfl ?_ ?_⟩
  ·simp [keepSt, pullBox, pullL_eq, pullD, rgT, hr]
  ·simp [toldP, getS, rgS2, pullD, ei]
   exact ⟨rfl, rfl⟩
 ·subst hGFsE
  have h5 : hasS ⟨s_lo, s_hi⟩ p.key = false := h
  rw [rangeL, if_neg (by rw [h5]; simp)] at i2
  refine ⟨(i + 1, acc, some (cs, v, m)), ⟨⟨by show (0 : Int) ≤ i + 1; omega, by show i + 1 ≤ n; omega⟩, i2, i3, hcs, hm⟩, by show n.toNat - (i + 1).toNat < n.toNat - i.toNat; omega, told_keep [0, 1] rfl ?_ ?_⟩
  ·simp [keepSt, pullBox, pullL_eq, hcs, pull_rows, pullD, rgT]
  ·simp [toldP, getS, rgS2, pullD, ei]
   exact ⟨rfl, rfl⟩
 ·subst hGFsE
  have h5 : hasS ⟨s_lo, s_hi⟩ p.key = true := h
  have h8 := ‹¬ (m : Int) = 8›
  rw [rangeL, if_pos h5, if_neg (by omega)] at i2
  have hr : rowsD (pairsX [p]) = [.d (.sc (.string p.key)), .d (.sc (.string p.value)), .d (.sc (.int .i64 p.version))] := rfl
  refine ⟨(i + 1, acc ++ [p], some (cs ++ rowsD (pairsX [p]), v + 1, m + 1)), ⟨⟨by show (0 : Int) ≤ i + 1; omega, by show i + 1 ≤ n; omega⟩, i2, by show (acc ++ [p]).length ≤ 8; rw [List.length_append, List.length_singleton]; omega, by rw [hcs, ← rowsD_append]; simp [pairsX], by rw [hm]; simp⟩, by show n.toNat - (i + 1).toNat < n.toNat - i.toNat; omega, told_keep [0, 1] rfl ?_ ?_⟩
  ·simp [keepSt, pullBox, pullL_eq, pullD, rgT, hr, hcs, pull_rows]
  ·simp [toldP, getS, rgS2, pullD, ei]
   exact ⟨rfl, rfl⟩
def kn_rangeR (F : FsF) : FuncId × (List DV → RV) := (60, fun args => match args with
 | [.d (.slc 3 xs), .agg [.d (.sc (.string s_lo)), .d (.sc (.string s_hi))]] => some ([F.isP xs], .tup [.d (.slc 3 ((F.rangeR xs ⟨s_lo, s_hi⟩)).1), boolD (((F.rangeR xs ⟨s_lo, s_hi⟩)).2)])
 | [.d (.sc (.slice none 0 0)), .agg [.d (.sc (.string s_lo)), .d (.sc (.string s_hi))]] => some ([F.isP []], .tup [.d (.slc 3 ((F.rangeR [] ⟨s_lo, s_hi⟩)).1), boolD (((F.rangeR [] ⟨s_lo, s_hi⟩)).2)])
 | _ => none)
theorem ok_rangeR (args : List DV) (cs : List Prop) (r : DV) (h : (kn_rangeR FsF0).2 args = some (cs, r)) (hc : allP cs True) : FnV Try.prog 60 args r ∧ closedL 0 args = true := by
 unfold kn_rangeR at h
 simp only at h
 split at h
 ·cases h; exact ⟨v_rangeR _ ⟨_, _⟩ hc.1, rfl⟩
 ·cases h; exact ⟨FnP.nils (v_rangeR [] ⟨_, _⟩ hc.1) ⟨.inr ⟨rfl, _, rfl⟩, ⟨.inl rfl, trivial⟩⟩, rfl⟩
 ·cases h
end Go.Proofs.Ytadnpgkddgbhkaa
namespace Go.Proofs.Ytadnpgkddgbhkaa
open Go.RowKit
set_option linter.all false
set_option maxHeartbeats 4000000
structure FsG2 where
 putR : List (List PD) → ByteArray → ByteArray → List (List PD) × Int
 delR : List (List PD) → ByteArray → List (List PD) × Bool
 isP : List (List PD) → Prop
def FsG20 : FsG2 where
 putR := putX
 delR := delX
 isP := isP
set_option maxRecDepth 100000 in
theorem v_putR (xs : List (List PD)) (key : ByteArray) (value : ByteArray) (hp0 : FsG20.isP xs) : FnV Try.prog 58 [.d (.slc 3 xs), strD key, strD value] (.tup [.d (.slc 3 ((putX xs key value)).1), intD (((putX xs key value)).2)]) := by
 have hr := findX_range xs key
 have hsz := hp0.sz
 obtain ⟨GFsE, hGFsE⟩ : ∃ F, F = FsE0 := ⟨_, rfl⟩
 have hH : SoundK Try.prog [kn_findR GFsE] := by subst hGFsE; exact orK_ok ok_findR noK_ok
 refine FnD_cbv (T := fun _ => tabY [31, 32, 35, 36, 39, 40] [9]) (H := fun _ => [kn_findR GFsE]) (tabY_ok _ _) hH follows_mixed Try.func58 rfl Try.ntmps58 (by simp) fun A X W hA hX hW => ?_
 cbv
 repeat' first
  | (refine part (fun h => ?_) (fun h => ?_) <;> try cbv)
  | (refine And.intro ?_ ?_)
 all_goals try ((with_reducible refine regionL [1000001] [] (T := fun _ => tabY [31,32,35,36,39,40] []) (H := fun _ => [kn_findR GFsE]) (B := fun _ => []) (R := fun _ => []) (A := A) (tabY_ok _ _) hH noB_ok noR_ok follows_mixed hA hX (by kernel_rfl) (by kernel_rfl) (by kernel_rfl) ?_) <;> cbv)
 repeat' first
  | (refine part (fun h => ?_) (fun h => ?_) <;> try cbv)
  | (refine And.intro ?_ ?_)
 all_goals first
  | (subst hA hX hW hGFsE
     clear hH
     simp only [A0, nc, FsE0] at *
     first
      | (show Region.lexB _ _ = true; kernel_rfl)
      | (show turnsB _ = true; kernel_rfl)
      | assumption
      | (intros; first | assumption | trivial | omega | (simp_all; done))
      | (refine ⟨by omega, by omega⟩))
  | skip
 all_goals subst hA hX hW hGFsE
 all_goals clear hH
 all_goals simp only [A0, nc, FsE0] at *
 all_goals have hl := hp0.len
 all_goals try unfold putX
 all_goals generalize findX xs key = q at *
 all_goals obtain ⟨i0, ok⟩ := q
 all_goals simp only at *
 all_goals obtain ⟨k, rfl⟩ : ∃ k : Nat, i0 = k := ⟨i0.toNat, by omega⟩
 all_goals have hk : k ≤ xs.length := by omega
 all_goals have ed : List.take (xs.length - k) (List.drop k xs) = List.drop k xs := List.take_of_length_le (by simp)
 all_goals simp only [Int.toNat_natCast, Int.toNat_zero, Nat.sub_zero, List.drop_zero, List.nil_append, Nat.zero_add, ed] at *
 all_goals first
  | (have hh := ‹ok = true›
     subst hh
     have hky : k < xs.length := by have := hr.2.2 rfl; omega
     have hL := put_load hp0 k hky value
     have h3 := rowsD_len hsz
     first
     | omega
     | (rw [splice1_length _ _ _ (by omega)]; omega)
     | (have hq := load1 hL
        simp only [hL]
        exact ⟨rfl, hq⟩)
     | (have hS := put_store hp0 k hky value _ rfl
        rw [if_pos rfl]
        refine ret_slice2 (xs := setP xs k value) rfl rfl rfl ?_ ?_ ?_ ?_
        ·rw [setP_len]
        ·simp only [hL]; exact hS
        ·exact (hp0.set k _).sz
        ·rfl))
  | omega
  | (simp only [List.length_append, List.length_take, List.length_drop, List.length_singleton]; omega)
  | exact rowsD_len fun y hy => hsz y (List.mem_of_mem_take hy)
  | (simp only [rowsD_append, List.length_append, rowsD_len (fun y hy => hsz y (List.mem_of_mem_take hy))]; simp [rowsD]; omega)
  | (cases ok with
     | true => simp at *
     | false =>
       have h2 := h
       simp only [Bool.not_false, cond_true, decide_eq_true_eq] at h2
       have hl : 32 ≤ xs.length := by omega
       rw [if_neg (by simp), if_pos hl]
       exact ret_up upd2 rfl)
  | (cases ok with
     | true => simp at *
     | false =>
       have h2 := ‹(bif !false then decide ((32 : Int) ≤ (xs.length : Int)) else false) = false›
       simp only [Bool.not_false, cond_true, decide_eq_false_iff_not] at h2
       have hl : xs.length < 32 := by omega
       rw [if_neg (by simp), if_neg (by omega)]
       refine ret_slice2 (xs := newP xs k key value) rfl rfl rfl ?_ ?_ (hp0.ins (by omega) k ⟨key, value, 1⟩).sz rfl
       ·simp only [newP, List.length_append]; rfl
       ·simp only [newP, rowsD_append]; rfl)
  | skip
def kn_putR (F : FsG2) : FuncId × (List DV → RV) := (58, fun args => match args with
 | [.d (.slc 3 xs), .d (.sc (.string key)), .d (.sc (.string value))] => some ([F.isP xs], .tup [.d (.slc 3 ((F.putR xs key value)).1), intD (((F.putR xs key value)).2)])
 | [.d (.sc (.slice none 0 0)), .d (.sc (.string key)), .d (.sc (.string value))] => some ([F.isP []], .tup [.d (.slc 3 ((F.putR [] key value)).1), intD (((F.putR [] key value)).2)])
 | _ => none)
theorem ok_putR (args : List DV) (cs : List Prop) (r : DV) (h : (kn_putR FsG20).2 args = some (cs, r)) (hc : allP cs True) : FnV Try.prog 58 args r ∧ closedL 0 args = true := by
 unfold kn_putR at h
 simp only at h
 split at h
 ·cases h; exact ⟨v_putR _ _ _ hc.1, rfl⟩
 ·cases h; exact ⟨FnP.nils (v_putR [] _ _ hc.1) ⟨.inr ⟨rfl, _, rfl⟩, ⟨.inl rfl, ⟨.inl rfl, trivial⟩⟩⟩, rfl⟩
 ·cases h
set_option maxRecDepth 100000 in
theorem v_delR (xs : List (List PD)) (key : ByteArray) (hp0 : FsG20.isP xs) : FnV Try.prog 59 [.d (.slc 3 xs), strD key] (.tup [.d (.slc 3 ((delX xs key)).1), boolD (((delX xs key)).2)]) := by
 have hr := findX_range xs key
 have hsz := hp0.sz
 obtain ⟨GFsE, hGFsE⟩ : ∃ F, F = FsE0 := ⟨_, rfl⟩
 have hH : SoundK Try.prog [kn_findR GFsE] := by subst hGFsE; exact orK_ok ok_findR noK_ok
 refine FnD_cbv (T := fun _ => tabY [] [4]) (H := fun _ => [kn_findR GFsE]) (tabY_ok _ _) hH follows_mixed Try.func59 rfl Try.ntmps59 (by simp) fun A X W hA hX hW => ?_
 cbv
 repeat' first
  | (refine part (fun h => ?_) (fun h => ?_) <;> try cbv)
  | (refine And.intro ?_ ?_)
 all_goals try ((with_reducible refine regionL [1000001] [] (T := fun _ => tabY [] []) (H := fun _ => [kn_findR GFsE]) (B := fun _ => []) (R := fun _ => []) (A := A) (tabY_ok _ _) hH noB_ok noR_ok follows_mixed hA hX (by kernel_rfl) (by kernel_rfl) (by kernel_rfl) ?_) <;> cbv)
 repeat' first
  | (refine part (fun h => ?_) (fun h => ?_) <;> try cbv)
  | (refine And.intro ?_ ?_)
 all_goals first
  | (subst hA hX hW hGFsE
     clear hH
     simp only [A0, nc, FsE0] at *
     first
      | (show Region.lexB _ _ = true; kernel_rfl)
      | (show turnsB _ = true; kernel_rfl)
      | assumption
      | (intros; first | assumption | trivial | omega | (simp_all; done))
      | (refine ⟨by omega, by omega⟩))
  | skip
 all_goals subst hA hX hW hGFsE
 all_goals clear hH
 all_goals simp only [A0, nc, FsE0] at *
 all_goals have hl := hp0.len
 all_goals try unfold Proofs.Ytadnpgkddgbhkaa.delX
 all_goals generalize findX xs key = q at *
 all_goals obtain ⟨i0, ok⟩ := q
 all_goals simp only at *
 all_goals obtain ⟨k, rfl⟩ : ∃ k : Nat, i0 = k := ⟨i0.toNat, by omega⟩
 all_goals have hk : k ≤ xs.length := by omega
 all_goals have ek : IntKind.wrap .i64 ((k : Int) + 1) = ((k + 1 : Nat) : Int) := by rw [wrap_i64 (by unfold r64; omega)]; omega
 all_goals have ed : List.take (xs.length - (k + 1)) (List.drop (k + 1) xs) = List.drop (k + 1) xs := List.take_of_length_le (by simp)
 all_goals simp only [ek, Int.toNat_natCast, Int.toNat_zero, Nat.sub_zero, List.drop_zero, List.nil_append, Nat.zero_add, ed] at *
 all_goals first
  | omega
  | (simp only [List.length_append, List.length_take, List.length_drop, List.length_singleton]; omega)
  | exact rowsD_len fun y hy => hsz y (List.mem_of_mem_take hy)
  | (have h2 : ok = false := by simpa using ‹(!ok) = true›
     subst h2
     rw [if_neg (by simp)]
     exact ret_slice2 (xs := xs) rfl rfl rfl rfl rfl hsz rfl)
  | (have h2 : ok = true := by simpa using ‹(!ok) = false›
     subst h2
     have hky : k < xs.length := by have := hr.2.2 rfl; omega
     first
      | omega
      | (refine ⟨by omega, by omega, by omega⟩)
      | (rw [if_pos rfl]
         refine ret_slice2 (xs := delP xs k) rfl rfl rfl ?_ ?_ (hp0.del k).sz rfl
         ·simp only [delP, List.length_append]
         ·simp only [delP, rowsD_append]))
  | skip
def kn_delR (F : FsG2) : FuncId × (List DV → RV) := (59, fun args => match args with
 | [.d (.slc 3 xs), .d (.sc (.string key))] => some ([F.isP xs], .tup [.d (.slc 3 ((F.delR xs key)).1), boolD (((F.delR xs key)).2)])
 | [.d (.sc (.slice none 0 0)), .d (.sc (.string key))] => some ([F.isP []], .tup [.d (.slc 3 ((F.delR [] key)).1), boolD (((F.delR [] key)).2)])
 | _ => none)
theorem ok_delR (args : List DV) (cs : List Prop) (r : DV) (h : (kn_delR FsG20).2 args = some (cs, r)) (hc : allP cs True) : FnV Try.prog 59 args r ∧ closedL 0 args = true := by
 unfold kn_delR at h
 simp only at h
 split at h
 ·cases h; exact ⟨v_delR _ _ hc.1, rfl⟩
 ·cases h; exact ⟨FnP.nils (v_delR [] _ hc.1) ⟨.inr ⟨rfl, _, rfl⟩, ⟨.inl rfl, trivial⟩⟩, rfl⟩
 ·cases h
end Go.Proofs.Ytadnpgkddgbhkaa
