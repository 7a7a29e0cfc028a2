/- The rising beginning of a list: what the law's helper gives. No condition. -/
import Derived.Test.YtbceikkjogbgeaaKv9
namespace Go.Proofs.Ytbceikkjogbgeaa
open Go.RowKit
set_option linter.all false
theorem riseN_at {ps : List Pair} {i : Nat} (h : 1 ≤ i) (hi : i ≤ ps.length) (hr : ∀ j, 1 ≤ j → j < i → ltb (ps.getD (j - 1) default).key (ps.getD j default).key = true) : riseN ps = i + riseI (ps.getD (i - 1) default) (ps.drop i) := by
  induction i with
  | zero => omega
  | succ i ih =>
    cases ps with
    | nil => simp at hi
    | cons p ps =>
      cases i with
      | zero => simp [riseN]
      | succ i =>
        rw [ih (by omega) (by omega) fun j h1 h2 => hr j h1 (by omega)]
        have hlt : i + 1 < (p :: ps).length := by omega
        rw [List.drop_eq_getElem_cons hlt]
        have e : (p :: ps)[i + 1] = (p :: ps).getD (i + 1) default := by rw [List.getD_eq_getElem?_getD, List.getElem?_eq_getElem hlt, Option.getD_some]
        rw [e]
        have := hr (i + 1) (by omega) (by omega)
        rw [riseI, if_pos (by simpa using this)]
        simp only [Nat.add_sub_cancel]
        omega
theorem pget {xs : List (List PD)} {ps : List Pair} (hxs : xs = pairsX ps) {j : Nat} (h : j < ps.length) : xs.getD j [] = (ps.getD j default).row := by
  subst hxs
  simp [pairsX, List.getD_eq_getElem?_getD, h]

structure FsA where
  rise : List (List PD) → List (List PD)
  isP : List (List PD) → Prop
def FsA0 : FsA where
  rise := riseX
  isP := isP
set_option maxRecDepth 100000 in
theorem v_rise (xs : List (List PD)) (hp0 : FsA0.isP xs) : FnV Try.prog 14 [.d (.slc 3 xs)] (.d (.slc 3 (riseX xs))) := by
  obtain ⟨ps, hxs, hl⟩ := hp0
  have hlen : xs.length = ps.length := by rw [hxs]; exact pairsX_length ps
  have hof : pairsOf xs = ps := by rw [hxs]; exact pairsOf_X ps
  obtain ⟨rx, hrx⟩ : ∃ rx, rx = riseX xs := ⟨_, rfl⟩
  rw [← hrx]
  refine FnD_cbv (T := fun _ => tabY [13, 14, 18, 19] []) (H := fun _ => []) (tabY_ok _ _) noK_ok follows_mixed Try.func14 rfl Try.ntmps14 (by simp) fun A X W hA hX hW => ?_
  cbv
  refine loopL (T := fun _ => tabY [13, 14, 18, 19] []) (H := fun _ => []) (tabY_ok _ _) noK_ok follows_mixed hA hX (fun x : Int => 1 ≤ x ∧ (x ≤ ps.length ∨ x = 1) ∧ ∀ j, 1 ≤ j → j < x.toNat → ltb (ps.getD (j - 1) default).key (ps.getD j default).key = true)
    (fun x => [(0, .d (.slc 3 xs)), (3, .d (.sc (.int .i64 x)))]) (fun _ => [])
    (fun x => (ps.length : Int).toNat - x.toNat) 1 ?_ ?_ ?_
  · exact ⟨by omega, .inr rfl, fun j h1 h2 => by simp at h2; omega⟩
  · exact told_less (by simp [toldP, getS])
  rintro R i hR ⟨i0, i1, i2⟩
  replace i0 : 1 ≤ i := i0
  replace i1 : i ≤ ps.length ∨ i = 1 := i1
  cbv
  repeat' first
    | (refine part (fun h => ?_) (fun h => ?_) <;> try cbv)
    | (refine And.intro ?_ ?_)
  all_goals subst hA hX hW hR
  all_goals simp only [A0, nc, decide_eq_true_eq, decide_eq_false_iff_not, Bool.not_eq_true', Bool.not_eq_false'] at *
  all_goals try replace i1 : i ≤ (ps.length : Int) ∨ i = 1 := i1
  all_goals try replace i0 : 1 ≤ i := i0
  all_goals try have ei : IntKind.wrap .i64 (i + 1) = i + 1 := wrap_i64 (by unfold r64; omega)
  all_goals try have em : IntKind.wrap .i64 (i - 1) = i - 1 := wrap_i64 (by unfold r64; omega)
  all_goals try simp only [em] at *
  all_goals try
    have hlt : i < ps.length := by omega
    have r1 := pget hxs (j := i.toNat - 1) (by omega)
    have r2 := pget hxs (j := i.toNat) (by omega)
    rw [show i.toNat - 1 = (i - 1).toNat by omega] at r1
    have hN := riseN_at (ps := ps) (i := i.toNat) (by omega) (by omega) i2
    have hD : ps.drop i.toNat = ps.getD i.toNat default :: ps.drop (i.toNat + 1) := by
      rw [List.drop_eq_getElem_cons (by omega), List.getD_eq_getElem?_getD, List.getElem?_eq_getElem (by omega), Option.getD_some]
    rw [hD, show i.toNat - 1 = (i - 1).toNat by omega] at hN
    have hJ : ∀ (q : ltb (ps.getD (i - 1).toNat default).key (ps.getD i.toNat default).key = true) (j : Nat), 1 ≤ j → j < (i + 1).toNat → ltb (ps.getD (j - 1) default).key (ps.getD j default).key = true := by
      intro q j h1 h2
      by_cases e : j = i.toNat
      · subst e
        rw [show i.toNat - 1 = (i - 1).toNat by omega]
        exact q
      · exact i2 j h1 (by omega)
    generalize ps.getD (i - 1).toNat default = p at *
    generalize ps.getD i.toNat default = q at *
    simp only [r1, r2, Pair.row, List.drop_zero, List.map_cons, List.map_nil, List.getElem?_cons_zero] at *
  all_goals first
    | rfl
    | (show Region.lexB _ _ = true; kernel_rfl)
    | (show turnsB _ = true; kernel_rfl)
    | omega
    | (refine ⟨by omega, by omega⟩)
    | (simp; done)
    | (have hk : ltb p.key q.key = false := by assumption
       refine ret_v ?_ rfl
       rw [hrx, riseX, hof, hN, riseI, if_neg (by simp [hk])]
       simp
       done)
    | (have hk : ltb p.key q.key = true := by assumption
       refine ⟨i + 1, ⟨by omega, .inl (by omega), hJ hk⟩, by simp only [Int.toNat_natCast]; omega, told_less ?_⟩
       simp [toldP, getS, ei]
       done)
    | (replace h : ¬ i < (xs.length : Int) := h
       refine ret_v ?_ rfl
       rw [hrx, riseX, hof]
       cases ps with
       | nil =>
         have : xs = [] := List.eq_nil_of_length_eq_zero (by simpa using hlen)
         subst this
         rfl
       | cons p0 ps0 =>
         have hil : i.toNat = (p0 :: ps0).length := by simp only [List.length_cons] at *; omega
         have hN := riseN_at (ps := p0 :: ps0) (i := i.toNat) (by omega) (by omega) i2
         rw [hil, List.drop_length, riseI, Nat.add_zero] at hN
         rw [hN, ← hlen, List.take_length])
def kn_rise (F : FsA) : FuncId × (List DV → RV) := (14, fun args => match args with
  | [.d (.slc 3 xs)] => some ([F.isP xs], .d (.slc 3 (F.rise xs)))
  | [.d (.sc (.slice none 0 0))] => some ([F.isP []], .d (.slc 3 (F.rise [])))
  | _ => none)
theorem ok_rise (args : List DV) (cs : List Prop) (r : DV) (h : (kn_rise FsA0).2 args = some (cs, r)) (hc : allP cs True) : FnV Try.prog 14 args r ∧ closedL 0 args = true := by
  unfold kn_rise at h
  simp only at h
  split at h
  · cases h; exact ⟨v_rise _ hc.1, rfl⟩
  · cases h; exact ⟨FnP.nils (v_rise [] hc.1) ⟨.inr ⟨rfl, _, rfl⟩, trivial⟩, rfl⟩
  · cases h
end Go.Proofs.Ytbceikkjogbgeaa
