/- A disk's methods: Append. No condition. -/
import Derived.Test.YtmjmbfcfnhnpmaaDkZ
import Derived.Test.YtmjmbfcfnhnpmaaAm43
import Derived.Test.YtmjmbfcfnhnpmaaAm44
namespace Go.Proofs.Ytmjmbfcfnhnpmaa
open Go.RowKit
set_option linter.all false
set_option maxHeartbeats 4000000
/-- Files with bytes behind one. -/
def addF (L : List FileM) (name : ByteArray) (p : List (List PD)) : List FileM :=
  if (findF name L 0).2 = true then (match L[(findF name L 0).1.toNat]? with
    | some f => L.set (findF name L 0).1.toNat ⟨f.name, f.data ++ p, f.kept⟩
    | none => L) else L.take (findF name L 0).1.toNat ++ [⟨name, p, 0⟩] ++ L.drop (findF name L 0).1.toNat
def Dk.app (D : Dk) (name : ByteArray) (p : List (List PD)) : Int × Dk :=
  if D.o = true then (10, D) else if mayF name = false then (11, D) else if D.q - totF D.L < p.length then (7, D) else
    if powE D.a D.l = 0 then (0, ⟨D.q, addF D.L name p, powO D.o D.a D.l, D.a, powL D.a D.l⟩) else (powE D.a D.l, ⟨D.q, D.L, powO D.o D.a D.l, D.a, powL D.a D.l⟩)
theorem insF_rows (L : List FileM) (g : FileM) (k : Nat) (hk : k ≤ L.length) : insR (cellsF L) [.d (.sc (.string g.name)), .d (.slc 1 g.data), .d (.sc (.int .i64 g.kept))] (k : Int) = cellsF (L.take k ++ [g] ++ L.drop k) := by
  have := insR_rows (filesX_sz L) k (by rw [filesX_length]; exact hk) g.row
  unfold cellsF
  rw [show filesX (L.take k ++ [g] ++ L.drop k) = (filesX L).take k ++ [g.row] ++ (filesX L).drop k by simp [filesX, List.map_take, List.map_drop]]
  exact this
theorem ins_get (L : List FileM) (g : FileM) (k : Nat) (hk : k ≤ L.length) : (L.take k ++ [g] ++ L.drop k)[k]? = some g ∧ (L.take k ++ [g] ++ L.drop k).length = L.length + 1 ∧ ∀ h : FileM, (L.take k ++ [g] ++ L.drop k).set k h = L.take k ++ [h] ++ L.drop k := by
  have hl : (L.take k).length = k := by rw [List.length_take]; omega
  refine ⟨?_, ?_, fun h => ?_⟩
  · rw [List.append_assoc, List.getElem?_append_right (by omega), hl]
    simp
  · simp; omega
  · rw [List.append_assoc, List.set_append_right _ _ (by omega), hl]
    simp
theorem find_none {L : List FileM} {name : ByteArray} : 0 ≤ (findF name L 0).1 ∧ (findF name L 0).1 ≤ L.length := by
  have := findF_range name L 0
  omega
set_option maxRecDepth 100000 in
theorem w_app (q : Int) (fr : Fr) (o a : Bool) (lf : Int) (L : List FileM) (name : ByteArray) (p : List (List PD)) (hfr : fr.is L) (hD : okD 900 ⟨q, L, o, a, lf⟩) (hn : name.size ≤ 1048576) (hp : isB p) : FnD Try.prog 11 [.ref 0 0 0, .d (.sc (.string name)), .d (.slc 1 p)] (dkS q fr o a lf) (fun r st' => dkR fr ((Dk.mk q L o a lf).app name p).2 (.d (.sc (.int .i64 ((Dk.mk q L o a lf).app name p).1))) r st') := by
  rcases fr with _ | ⟨v, m, cs⟩
  · have hl0 : L = [] := hfr
    have hkm := trivial
    obtain ⟨GFsD, hFsD⟩ : ∃ F, F = FsD0 := ⟨_, rfl⟩
    obtain ⟨GFsB, hFsB⟩ : ∃ F, F = FsB0 := ⟨_, rfl⟩
    obtain ⟨GFsM, hFsM⟩ : ∃ F, F = FsM0 := ⟨_, rfl⟩
    obtain ⟨GFsK, hFsK⟩ : ∃ F, F = FsK0 := ⟨_, rfl⟩
    obtain ⟨GFsI, hFsI⟩ : ∃ F, F = FsI0 := ⟨_, rfl⟩
    have hH : SoundK Try.prog [kn_may GFsD, kn_cat GFsB] := by subst hFsD hFsB hFsM hFsK hFsI; exact orK_ok ok_may (orK_ok ok_cat noK_ok)
    have hB : SoundB Try.prog [kb_room GFsM, kb_power GFsK, kb_find GFsK, kb_ins GFsI] := by subst hFsD hFsB hFsM hFsK hFsI; exact orB_ok okb_room (orB_ok okb_power (orB_ok okb_find (orB_ok okb_ins noB_ok)))
    refine FnD_cbv (T := fun _ => tabY [60, 61, 66, 67] [13]) (H := fun _ => [kn_may GFsD, kn_cat GFsB]) (tabY_ok _ _) hH follows_mixed Try.func11 rfl Try.ntmps11 (by simp) fun A X W hA hX hW => ?_
    cbv
    repeat' first
      | (refine part (fun h => ?_) (fun h => ?_) <;> try cbv)
      | (refine And.intro ?_ ?_)
      | (with_reducible refine callB hX hB ?_) <;> cbv
      | ((with_reducible refine regionY (T := fun _ => tabY [60, 61, 66, 67] []) (H := fun _ => [kn_may GFsD, kn_cat GFsB]) (R := fun _ => []) (A := A) (tabY_ok _ _) hH noR_ok follows_mixed hA hX (by kernel_rfl) ?_) <;> cbv)
    all_goals subst hA hX hW hFsD hFsB hFsM hFsK hFsI
    all_goals clear hH hB
    all_goals try (show Region.lexB _ _ = true; kernel_rfl)
    all_goals try (show turnsB _ = true; kernel_rfl)
    all_goals try simp only [A0, FsD0, FsB0, FsM0, FsK0, FsI0, decide_eq_true_eq, decide_eq_false_iff_not, Bool.not_eq_true', Bool.not_eq_false'] at *
    all_goals have e0 : findX [] name = (0, false) := rfl
    all_goals try rw [e0] at *
    all_goals try (have ec : findX cs name = findF name L 0 := by unfold findX; rw [hrow])
    all_goals try rw [ec] at h
    all_goals try rw [ec]
    all_goals have hrm : ∀ c, rowF c = L → roomX c q = q - totF L := fun c hc => by unfold roomX totX; rw [hc]
    all_goals have hgz : ∀ (f : FileM), f ∈ L → isB f.data := fun f hf => (hD.fs f hf).1
    all_goals have hnil : isB2 [] p := ⟨⟨[], rfl, by simp⟩, hp⟩
    all_goals have hLl : L.length ≤ 900 := hD.len
    all_goals have hfn := @find_none L name
    all_goals first
      | contradiction
      | assumption
      | exact hn
      | exact (⟨rfl, rfl, rfl⟩ : okInsN [.d (.sc (.string name)), .d (.slc 1 []), .d (.sc (.int .i64 0))] 0)
      | exact (⟨by decide, by decide⟩ : (0 : Int) ≤ 0 ∧ (0 : Int) < ((1 : Nat) : Int))
      | exact ⟨rfl, Nat.le_of_ble_eq_true rfl, rfl⟩
      | (show 0 + 0 * 3 + 1 + 1 ≤ 3; decide)
      | exact hnil
      | (have hf : (findF name L 0).2 = false := by assumption
         obtain ⟨k, hk⟩ : ∃ k : Nat, (findF name L 0).1 = (k : Int) := ⟨(findF name L 0).1.toNat, by omega⟩
         have hkl : k ≤ L.length := by omega
         have hi := insF_rows L ⟨name, [], 0⟩ k hkl
         obtain ⟨i1, i2, i3⟩ := ins_get L ⟨name, [], 0⟩ k hkl
         have i4 := (List.getElem?_eq_some_iff.1 i1).1
         have ef := (List.getElem?_eq_some_iff.1 i1).2
         obtain ⟨g0, g1, g2, g3, g4⟩ := file_cell rfl k i4
         rw [ef] at g1
         have cl := cellsF_len L
         simp only [hk, Int.toNat_natCast, Nat.zero_add, hcs, hm]
         first
           | exact ⟨cl, rfl, by omega, by omega, by omega, by rw [cellsF, rowsD]; exact closedL_data 0 _, rfl⟩
           | exact (⟨by omega, by omega⟩ : (0 : Int) ≤ (k : Int) ∧ (k : Int) < ((L.length + 1 : Nat) : Int))
           | (rw [hi]
              simp only [g1]
              first
                | exact hnil
                | (refine ⟨rfl, by omega, ?_⟩
                   obtain ⟨hn, e⟩ := List.getElem?_eq_some_iff.1 g1
                   rw [List.drop_eq_getElem_cons hn, e]
                   rfl))
           | (rw [hi]; omega))
      | (have hf : (findF name L 0).2 = true := by assumption
         obtain ⟨k, hk⟩ : ∃ k : Nat, (findF name L 0).1 = (k : Int) := ⟨(findF name L 0).1.toNat, by omega⟩
         obtain ⟨f, h4, h5⟩ := Dk.at_get (D := ⟨q, L, o, a, lf⟩) hf
         simp only [Dk.at, hk, Int.toNat_natCast] at h4
         have hl := (List.getElem?_eq_some_iff.1 h4).1
         have ef := (List.getElem?_eq_some_iff.1 h4).2
         obtain ⟨g0, g1, g2, g3, g4⟩ := file_cell hcs k hl
         rw [ef] at g1
         simp only [hk, Int.toNat_natCast, Nat.zero_add, g1]
         first
           | (rw [hm]; exact (⟨by omega, by omega⟩ : (0 : Int) ≤ (k : Int) ∧ (k : Int) < (L.length : Int)))
           | exact ⟨hgz f (by rw [← ef]; exact List.getElem_mem hl), hp⟩
           | (refine ⟨rfl, by omega, ?_⟩
              obtain ⟨hn, e⟩ := List.getElem?_eq_some_iff.1 g1
              rw [List.drop_eq_getElem_cons hn, e]
              rfl)
           | omega)
      | exact hD.l
      | (show okD 900 ⟨q, rowF [], o, a, lf⟩; rw [show rowF [] = L from hl0.symm]; exact hD)
      | (show okD 900 ⟨q, rowF cs, o, a, lf⟩; rw [hrow]; exact hD)
      | (have h1 : o = true := by assumption
         have hs : (Dk.mk q L o a lf).app name p = (10, ⟨q, L, o, a, lf⟩) := by
           unfold Dk.app
           rw [if_pos h1]
         rw [hs]
         first
           | exact RetW.refl ⟨none, .inl ⟨rfl, .inl rfl⟩, (by first | exact Nat.zero_le _ | (simp only [Fr.vr]; omega)), hl0, rfl, rfl⟩
           | exact RetW.refl ⟨some (v, m, cs), .inr ⟨by simp, by simp⟩, (by first | exact Nat.zero_le _ | (simp only [Fr.vr]; omega)), ⟨hcs, hm⟩, rfl, rfl⟩)
      | (have h0 : o = false := by assumption
         have h1 : mayF name = false := by assumption
         have hs : (Dk.mk q L o a lf).app name p = (11, ⟨q, L, o, a, lf⟩) := by
           unfold Dk.app
           rw [if_neg (by show ¬ o = true; rw [h0]; decide), if_pos h1]
         rw [hs]
         first
           | exact RetW.refl ⟨none, .inl ⟨rfl, .inl rfl⟩, (by first | exact Nat.zero_le _ | (simp only [Fr.vr]; omega)), hl0, rfl, rfl⟩
           | exact RetW.refl ⟨some (v, m, cs), .inr ⟨by simp, by simp⟩, (by first | exact Nat.zero_le _ | (simp only [Fr.vr]; omega)), ⟨hcs, hm⟩, rfl, rfl⟩)
      | (have h0 : o = false := by assumption
         have h1 : mayF name = true := by assumption
         have h2 : roomX [] q < ↑p.length := by assumption
         rw [hrm [] hl0.symm] at h2
         have hs : (Dk.mk q L o a lf).app name p = (7, ⟨q, L, o, a, lf⟩) := by
           unfold Dk.app
           rw [if_neg (by show ¬ o = true; rw [h0]; decide), if_neg (by show ¬ mayF name = false; rw [h1]; decide), if_pos h2]
         rw [hs]
         exact RetW.refl ⟨none, .inl ⟨rfl, .inl rfl⟩, (by first | exact Nat.zero_le _ | (simp only [Fr.vr]; omega)), hl0, rfl, rfl⟩)
      | (have h0 : o = false := by assumption
         have h1 : mayF name = true := by assumption
         have h2 : roomX cs q < ↑p.length := by assumption
         rw [hrm cs hrow] at h2
         have hs : (Dk.mk q L o a lf).app name p = (7, ⟨q, L, o, a, lf⟩) := by
           unfold Dk.app
           rw [if_neg (by show ¬ o = true; rw [h0]; decide), if_neg (by show ¬ mayF name = false; rw [h1]; decide), if_pos h2]
         rw [hs]
         exact RetW.refl ⟨some (v, m, cs), .inr ⟨by simp, by simp⟩, (by first | exact Nat.zero_le _ | (simp only [Fr.vr]; omega)), ⟨hcs, hm⟩, rfl, rfl⟩)
      | (have h0 : o = false := by assumption
         have h1 : mayF name = true := by assumption
         have h2 : ¬ q - totF L < ↑p.length := by
           first
             | (have h2 : ¬ roomX [] q < ↑p.length := by assumption
                rw [hrm [] hl0.symm] at h2
                exact h2)
             | (have h2 : ¬ roomX cs q < ↑p.length := by assumption
                rw [hrm cs hrow] at h2
                exact h2)
         have h3 : ¬ powE a lf = 0 := by assumption
         have hs : (Dk.mk q L o a lf).app name p = (powE a lf, ⟨q, L, powO o a lf, a, powL a lf⟩) := by
           unfold Dk.app
           rw [if_neg (by show ¬ o = true; rw [h0]; decide), if_neg (by show ¬ mayF name = false; rw [h1]; decide), if_neg h2, if_neg h3]
         rw [hs]
         first
           | exact RetW.refl ⟨none, .inl ⟨rfl, .inl rfl⟩, (by first | exact Nat.zero_le _ | (simp only [Fr.vr]; omega)), hl0, rfl, rfl⟩
           | exact RetW.refl ⟨some (v, m, cs), .inr ⟨by simp, by simp⟩, (by first | exact Nat.zero_le _ | (simp only [Fr.vr]; omega)), ⟨hcs, hm⟩, rfl, rfl⟩)
      | (have h0 : o = false := by assumption
         have h1 : mayF name = true := by assumption
         have h2 : ¬ q - totF L < ↑p.length := by
           first
             | (have h2 : ¬ roomX [] q < ↑p.length := by assumption
                rw [hrm [] hl0.symm] at h2
                exact h2)
             | (have h2 : ¬ roomX cs q < ↑p.length := by assumption
                rw [hrm cs hrow] at h2
                exact h2)
         have h3 : powE a lf = 0 := by assumption
         have hs : (Dk.mk q L o a lf).app name p = (0, ⟨q, addF L name p, powO o a lf, a, powL a lf⟩) := by
           unfold Dk.app
           rw [if_neg (by show ¬ o = true; rw [h0]; decide), if_neg (by show ¬ mayF name = false; rw [h1]; decide), if_neg h2, if_pos h3]
         rw [hs]
         first
           | (have ha : addF L name p = [⟨name, p, 0⟩] := by rw [hl0]; rfl
              rw [ha]
              refine ret_keep2 [0, 2] rfl ⟨trivial, .inl rfl⟩ (RetW.refl ⟨some (0, 1, cellsF [⟨name, p, 0⟩]), .inl ⟨rfl, .inr (by simp)⟩, (by first | exact Nat.zero_le _ | (simp only [Fr.vr]; omega)), ⟨rfl, rfl⟩, rfl, rfl⟩)
              done)
           | (have hf : (findF name L 0).2 = false := by assumption
              obtain ⟨k, hk⟩ : ∃ k : Nat, (findF name L 0).1 = (k : Int) := ⟨(findF name L 0).1.toNat, by omega⟩
              have hkl : k ≤ L.length := by omega
              have hi := insF_rows L ⟨name, [], 0⟩ k hkl
              obtain ⟨i1, i2, i3⟩ := ins_get L ⟨name, [], 0⟩ k hkl
              have i4 := (List.getElem?_eq_some_iff.1 i1).1
              have ef := (List.getElem?_eq_some_iff.1 i1).2
              obtain ⟨g0, g1, g2, g3, g4⟩ := file_cell rfl k i4
              rw [ef] at g1
              have ha : addF L name p = L.take k ++ [⟨name, p, 0⟩] ++ L.drop k := by
                unfold addF
                rw [if_neg (by rw [hf]; decide), hk]
                rfl
              have hsd := set_data _ k _ i1 p
              rw [i3] at hsd
              rw [ha]
              simp only [hk, Int.toNat_natCast, Nat.zero_add]
              rw [hcs]
              rw [hi]
              simp only [g1]
              rw [show catX [] p = p from rfl, hsd]
              have hps : ∀ κ, pullL κ (cellsF (L.take k ++ [⟨name, p, 0⟩] ++ L.drop k)) = cellsF (L.take k ++ [⟨name, p, 0⟩] ++ L.drop k) := fun κ => by rw [pullL_eq]; exact pull_rows κ _
              refine ret_keep2 [0, 1] rfl ⟨⟨trivial, .inl rfl⟩, .inl rfl⟩ (RetW.refl ⟨some (v + 1, m + 1, cellsF (L.take k ++ [⟨name, p, 0⟩] ++ L.drop k)), .inr ⟨by simp, by simp⟩, (by first | exact Nat.zero_le _ | (simp only [Fr.vr]; omega)), ⟨rfl, ?_⟩, rfl, ?_⟩)
              · rw [hm, (ins_get L ⟨name, p, 0⟩ k hkl).2.1]
              · simp only [keepSt, List.map_cons, List.map_nil, pullBox, List.getD_cons_zero, List.getD_cons_succ, hps]
                rfl)
           | (have hf : (findF name L 0).2 = true := by assumption
              obtain ⟨k, hk⟩ : ∃ k : Nat, (findF name L 0).1 = (k : Int) := ⟨(findF name L 0).1.toNat, by omega⟩
              obtain ⟨f, h4, h5⟩ := Dk.at_get (D := ⟨q, L, o, a, lf⟩) hf
              simp only [Dk.at, hk, Int.toNat_natCast] at h4
              have hl := (List.getElem?_eq_some_iff.1 h4).1
              have ef := (List.getElem?_eq_some_iff.1 h4).2
              obtain ⟨g0, g1, g2, g3, g4⟩ := file_cell hcs k hl
              rw [ef] at g1
              have ha : addF L name p = L.set k ⟨f.name, f.data ++ p, f.kept⟩ := by
                unfold addF
                rw [if_pos hf, hk]
                simp only [Int.toNat_natCast, h4]
              simp only [hk, Int.toNat_natCast, Nat.zero_add, g1]
              rw [ha, hcs, show catX f.data p = f.data ++ p from rfl, set_data L k f h4]
              refine RetW.refl ⟨some (v, m, _), .inr ⟨by simp, by simp⟩, (by first | exact Nat.zero_le _ | (simp only [Fr.vr]; omega)), ⟨rfl, ?_⟩, rfl, rfl⟩
              rw [List.length_set]
              exact hm)
           | fail)
      | fail
  · obtain ⟨hcs, hm⟩ := hfr
    have hisF : isF cs m := by rw [hcs, hm]; exact isF.mk (hD.okL (by decide))
    have hrow : rowF cs = L := by rw [hcs]; exact rowF_cells L
    have hpull : ∀ κ, pullL κ cs = cs := fun κ => by rw [hcs, pullL_eq]; exact pull_rows κ _
    obtain ⟨GFsD, hFsD⟩ : ∃ F, F = FsD0 := ⟨_, rfl⟩
    obtain ⟨GFsB, hFsB⟩ : ∃ F, F = FsB0 := ⟨_, rfl⟩
    obtain ⟨GFsM, hFsM⟩ : ∃ F, F = FsM0 := ⟨_, rfl⟩
    obtain ⟨GFsK, hFsK⟩ : ∃ F, F = FsK0 := ⟨_, rfl⟩
    obtain ⟨GFsI, hFsI⟩ : ∃ F, F = FsI0 := ⟨_, rfl⟩
    have hH : SoundK Try.prog [kn_may GFsD, kn_cat GFsB] := by subst hFsD hFsB hFsM hFsK hFsI; exact orK_ok ok_may (orK_ok ok_cat noK_ok)
    have hB : SoundB Try.prog [kb_room GFsM, kb_power GFsK, kb_find GFsK, kb_ins GFsI] := by subst hFsD hFsB hFsM hFsK hFsI; exact orB_ok okb_room (orB_ok okb_power (orB_ok okb_find (orB_ok okb_ins noB_ok)))
    refine FnD_cbv (T := fun _ => tabY [60, 61, 66, 67] [13]) (H := fun _ => [kn_may GFsD, kn_cat GFsB]) (tabY_ok _ _) hH follows_mixed Try.func11 rfl Try.ntmps11 (by simp) fun A X W hA hX hW => ?_
    cbv
    repeat' first
      | (refine part (fun h => ?_) (fun h => ?_) <;> try cbv)
      | (refine And.intro ?_ ?_)
      | (with_reducible refine callB hX hB ?_) <;> cbv
      | ((with_reducible refine regionY (T := fun _ => tabY [60, 61, 66, 67] []) (H := fun _ => [kn_may GFsD, kn_cat GFsB]) (R := fun _ => []) (A := A) (tabY_ok _ _) hH noR_ok follows_mixed hA hX (by kernel_rfl) ?_) <;> cbv)
    all_goals subst hA hX hW hFsD hFsB hFsM hFsK hFsI
    all_goals clear hH hB
    all_goals try (show Region.lexB _ _ = true; kernel_rfl)
    all_goals try (show turnsB _ = true; kernel_rfl)
    all_goals try simp only [A0, FsD0, FsB0, FsM0, FsK0, FsI0, decide_eq_true_eq, decide_eq_false_iff_not, Bool.not_eq_true', Bool.not_eq_false'] at *
    all_goals have e0 : findX [] name = (0, false) := rfl
    all_goals try rw [e0] at *
    all_goals try (have ec : findX cs name = findF name L 0 := by unfold findX; rw [hrow])
    all_goals try rw [ec] at h
    all_goals try rw [ec]
    all_goals have hrm : ∀ c, rowF c = L → roomX c q = q - totF L := fun c hc => by unfold roomX totX; rw [hc]
    all_goals have hgz : ∀ (f : FileM), f ∈ L → isB f.data := fun f hf => (hD.fs f hf).1
    all_goals have hnil : isB2 [] p := ⟨⟨[], rfl, by simp⟩, hp⟩
    all_goals have hLl : L.length ≤ 900 := hD.len
    all_goals have hfn := @find_none L name
    all_goals first
      | contradiction
      | assumption
      | exact hn
      | exact (⟨rfl, rfl, rfl⟩ : okInsN [.d (.sc (.string name)), .d (.slc 1 []), .d (.sc (.int .i64 0))] 0)
      | exact (⟨by decide, by decide⟩ : (0 : Int) ≤ 0 ∧ (0 : Int) < ((1 : Nat) : Int))
      | exact ⟨rfl, Nat.le_of_ble_eq_true rfl, rfl⟩
      | (show 0 + 0 * 3 + 1 + 1 ≤ 3; decide)
      | exact hnil
      | (have hf : (findF name L 0).2 = false := by assumption
         obtain ⟨k, hk⟩ : ∃ k : Nat, (findF name L 0).1 = (k : Int) := ⟨(findF name L 0).1.toNat, by omega⟩
         have hkl : k ≤ L.length := by omega
         have hi := insF_rows L ⟨name, [], 0⟩ k hkl
         obtain ⟨i1, i2, i3⟩ := ins_get L ⟨name, [], 0⟩ k hkl
         have i4 := (List.getElem?_eq_some_iff.1 i1).1
         have ef := (List.getElem?_eq_some_iff.1 i1).2
         obtain ⟨g0, g1, g2, g3, g4⟩ := file_cell rfl k i4
         rw [ef] at g1
         have cl := cellsF_len L
         simp only [hk, Int.toNat_natCast, Nat.zero_add, hcs, hm]
         first
           | exact ⟨cl, rfl, by omega, by omega, by omega, by rw [cellsF, rowsD]; exact closedL_data 0 _, rfl⟩
           | exact (⟨by omega, by omega⟩ : (0 : Int) ≤ (k : Int) ∧ (k : Int) < ((L.length + 1 : Nat) : Int))
           | (rw [hi]
              simp only [g1]
              first
                | exact hnil
                | (refine ⟨rfl, by omega, ?_⟩
                   obtain ⟨hn, e⟩ := List.getElem?_eq_some_iff.1 g1
                   rw [List.drop_eq_getElem_cons hn, e]
                   rfl))
           | (rw [hi]; omega))
      | (have hf : (findF name L 0).2 = true := by assumption
         obtain ⟨k, hk⟩ : ∃ k : Nat, (findF name L 0).1 = (k : Int) := ⟨(findF name L 0).1.toNat, by omega⟩
         obtain ⟨f, h4, h5⟩ := Dk.at_get (D := ⟨q, L, o, a, lf⟩) hf
         simp only [Dk.at, hk, Int.toNat_natCast] at h4
         have hl := (List.getElem?_eq_some_iff.1 h4).1
         have ef := (List.getElem?_eq_some_iff.1 h4).2
         obtain ⟨g0, g1, g2, g3, g4⟩ := file_cell hcs k hl
         rw [ef] at g1
         simp only [hk, Int.toNat_natCast, Nat.zero_add, g1]
         first
           | (rw [hm]; exact (⟨by omega, by omega⟩ : (0 : Int) ≤ (k : Int) ∧ (k : Int) < (L.length : Int)))
           | exact ⟨hgz f (by rw [← ef]; exact List.getElem_mem hl), hp⟩
           | (refine ⟨rfl, by omega, ?_⟩
              obtain ⟨hn, e⟩ := List.getElem?_eq_some_iff.1 g1
              rw [List.drop_eq_getElem_cons hn, e]
              rfl)
           | omega)
      | exact hD.l
      | (show okD 900 ⟨q, rowF [], o, a, lf⟩; rw [show rowF [] = L from hl0.symm]; exact hD)
      | (show okD 900 ⟨q, rowF cs, o, a, lf⟩; rw [hrow]; exact hD)
      | (have h1 : o = true := by assumption
         have hs : (Dk.mk q L o a lf).app name p = (10, ⟨q, L, o, a, lf⟩) := by
           unfold Dk.app
           rw [if_pos h1]
         rw [hs]
         first
           | exact RetW.refl ⟨none, .inl ⟨rfl, .inl rfl⟩, (by first | exact Nat.zero_le _ | (simp only [Fr.vr]; omega)), hl0, rfl, rfl⟩
           | exact RetW.refl ⟨some (v, m, cs), .inr ⟨by simp, by simp⟩, (by first | exact Nat.zero_le _ | (simp only [Fr.vr]; omega)), ⟨hcs, hm⟩, rfl, rfl⟩)
      | (have h0 : o = false := by assumption
         have h1 : mayF name = false := by assumption
         have hs : (Dk.mk q L o a lf).app name p = (11, ⟨q, L, o, a, lf⟩) := by
           unfold Dk.app
           rw [if_neg (by show ¬ o = true; rw [h0]; decide), if_pos h1]
         rw [hs]
         first
           | exact RetW.refl ⟨none, .inl ⟨rfl, .inl rfl⟩, (by first | exact Nat.zero_le _ | (simp only [Fr.vr]; omega)), hl0, rfl, rfl⟩
           | exact RetW.refl ⟨some (v, m, cs), .inr ⟨by simp, by simp⟩, (by first | exact Nat.zero_le _ | (simp only [Fr.vr]; omega)), ⟨hcs, hm⟩, rfl, rfl⟩)
      | (have h0 : o = false := by assumption
         have h1 : mayF name = true := by assumption
         have h2 : roomX [] q < ↑p.length := by assumption
         rw [hrm [] hl0.symm] at h2
         have hs : (Dk.mk q L o a lf).app name p = (7, ⟨q, L, o, a, lf⟩) := by
           unfold Dk.app
           rw [if_neg (by show ¬ o = true; rw [h0]; decide), if_neg (by show ¬ mayF name = false; rw [h1]; decide), if_pos h2]
         rw [hs]
         exact RetW.refl ⟨none, .inl ⟨rfl, .inl rfl⟩, (by first | exact Nat.zero_le _ | (simp only [Fr.vr]; omega)), hl0, rfl, rfl⟩)
      | (have h0 : o = false := by assumption
         have h1 : mayF name = true := by assumption
         have h2 : roomX cs q < ↑p.length := by assumption
         rw [hrm cs hrow] at h2
         have hs : (Dk.mk q L o a lf).app name p = (7, ⟨q, L, o, a, lf⟩) := by
           unfold Dk.app
           rw [if_neg (by show ¬ o = true; rw [h0]; decide), if_neg (by show ¬ mayF name = false; rw [h1]; decide), if_pos h2]
         rw [hs]
         exact RetW.refl ⟨some (v, m, cs), .inr ⟨by simp, by simp⟩, (by first | exact Nat.zero_le _ | (simp only [Fr.vr]; omega)), ⟨hcs, hm⟩, rfl, rfl⟩)
      | (have h0 : o = false := by assumption
         have h1 : mayF name = true := by assumption
         have h2 : ¬ q - totF L < ↑p.length := by
           first
             | (have h2 : ¬ roomX [] q < ↑p.length := by assumption
                rw [hrm [] hl0.symm] at h2
                exact h2)
             | (have h2 : ¬ roomX cs q < ↑p.length := by assumption
                rw [hrm cs hrow] at h2
                exact h2)
         have h3 : ¬ powE a lf = 0 := by assumption
         have hs : (Dk.mk q L o a lf).app name p = (powE a lf, ⟨q, L, powO o a lf, a, powL a lf⟩) := by
           unfold Dk.app
           rw [if_neg (by show ¬ o = true; rw [h0]; decide), if_neg (by show ¬ mayF name = false; rw [h1]; decide), if_neg h2, if_neg h3]
         rw [hs]
         first
           | exact RetW.refl ⟨none, .inl ⟨rfl, .inl rfl⟩, (by first | exact Nat.zero_le _ | (simp only [Fr.vr]; omega)), hl0, rfl, rfl⟩
           | exact RetW.refl ⟨some (v, m, cs), .inr ⟨by simp, by simp⟩, (by first | exact Nat.zero_le _ | (simp only [Fr.vr]; omega)), ⟨hcs, hm⟩, rfl, rfl⟩)
      | (have h0 : o = false := by assumption
         have h1 : mayF name = true := by assumption
         have h2 : ¬ q - totF L < ↑p.length := by
           first
             | (have h2 : ¬ roomX [] q < ↑p.length := by assumption
                rw [hrm [] hl0.symm] at h2
                exact h2)
             | (have h2 : ¬ roomX cs q < ↑p.length := by assumption
                rw [hrm cs hrow] at h2
                exact h2)
         have h3 : powE a lf = 0 := by assumption
         have hs : (Dk.mk q L o a lf).app name p = (0, ⟨q, addF L name p, powO o a lf, a, powL a lf⟩) := by
           unfold Dk.app
           rw [if_neg (by show ¬ o = true; rw [h0]; decide), if_neg (by show ¬ mayF name = false; rw [h1]; decide), if_neg h2, if_pos h3]
         rw [hs]
         first
           | (have ha : addF L name p = [⟨name, p, 0⟩] := by rw [hl0]; rfl
              rw [ha]
              refine ret_keep2 [0, 2] rfl ⟨trivial, .inl rfl⟩ (RetW.refl ⟨some (0, 1, cellsF [⟨name, p, 0⟩]), .inl ⟨rfl, .inr (by simp)⟩, (by first | exact Nat.zero_le _ | (simp only [Fr.vr]; omega)), ⟨rfl, rfl⟩, rfl, rfl⟩)
              done)
           | (have hf : (findF name L 0).2 = false := by assumption
              obtain ⟨k, hk⟩ : ∃ k : Nat, (findF name L 0).1 = (k : Int) := ⟨(findF name L 0).1.toNat, by omega⟩
              have hkl : k ≤ L.length := by omega
              have hi := insF_rows L ⟨name, [], 0⟩ k hkl
              obtain ⟨i1, i2, i3⟩ := ins_get L ⟨name, [], 0⟩ k hkl
              have i4 := (List.getElem?_eq_some_iff.1 i1).1
              have ef := (List.getElem?_eq_some_iff.1 i1).2
              obtain ⟨g0, g1, g2, g3, g4⟩ := file_cell rfl k i4
              rw [ef] at g1
              have ha : addF L name p = L.take k ++ [⟨name, p, 0⟩] ++ L.drop k := by
                unfold addF
                rw [if_neg (by rw [hf]; decide), hk]
                rfl
              have hsd := set_data _ k _ i1 p
              rw [i3] at hsd
              rw [ha]
              simp only [hk, Int.toNat_natCast, Nat.zero_add]
              rw [hcs]
              rw [hi]
              simp only [g1]
              rw [show catX [] p = p from rfl, hsd]
              have hps : ∀ κ, pullL κ (cellsF (L.take k ++ [⟨name, p, 0⟩] ++ L.drop k)) = cellsF (L.take k ++ [⟨name, p, 0⟩] ++ L.drop k) := fun κ => by rw [pullL_eq]; exact pull_rows κ _
              refine ret_keep2 [0, 1] rfl ⟨⟨trivial, .inl rfl⟩, .inl rfl⟩ (RetW.refl ⟨some (v + 1, m + 1, cellsF (L.take k ++ [⟨name, p, 0⟩] ++ L.drop k)), .inr ⟨by simp, by simp⟩, (by first | exact Nat.zero_le _ | (simp only [Fr.vr]; omega)), ⟨rfl, ?_⟩, rfl, ?_⟩)
              · rw [hm, (ins_get L ⟨name, p, 0⟩ k hkl).2.1]
              · simp only [keepSt, List.map_cons, List.map_nil, pullBox, List.getD_cons_zero, List.getD_cons_succ, hps]
                rfl)
           | (have hf : (findF name L 0).2 = true := by assumption
              obtain ⟨k, hk⟩ : ∃ k : Nat, (findF name L 0).1 = (k : Int) := ⟨(findF name L 0).1.toNat, by omega⟩
              obtain ⟨f, h4, h5⟩ := Dk.at_get (D := ⟨q, L, o, a, lf⟩) hf
              simp only [Dk.at, hk, Int.toNat_natCast] at h4
              have hl := (List.getElem?_eq_some_iff.1 h4).1
              have ef := (List.getElem?_eq_some_iff.1 h4).2
              obtain ⟨g0, g1, g2, g3, g4⟩ := file_cell hcs k hl
              rw [ef] at g1
              have ha : addF L name p = L.set k ⟨f.name, f.data ++ p, f.kept⟩ := by
                unfold addF
                rw [if_pos hf, hk]
                simp only [Int.toNat_natCast, h4]
              simp only [hk, Int.toNat_natCast, Nat.zero_add, g1]
              rw [ha, hcs, show catX f.data p = f.data ++ p from rfl, set_data L k f h4]
              refine RetW.refl ⟨some (v, m, _), .inr ⟨by simp, by simp⟩, (by first | exact Nat.zero_le _ | (simp only [Fr.vr]; omega)), ⟨rfl, ?_⟩, rfl, rfl⟩
              rw [List.length_set]
              exact hm)
           | fail)
      | fail
end Go.Proofs.Ytmjmbfcfnhnpmaa
namespace Go.Proofs.Ytmjmbfcfnhnpmaa
open Go.RowKit
set_option linter.all false
set_option maxHeartbeats 4000000
def outFl (L : List FileM) (k : Nat) : List FileM := L.take k ++ L.drop (k + 1)
theorem delF_rows (L : List FileM) (k : Nat) (hk : k < L.length) : delR (cellsF L) (k : Int) = cellsF (outFl L k) := by
  have e : L = L.take k ++ (L[k] :: L.drop (k + 1)) := by rw [← List.drop_eq_getElem_cons hk, List.take_append_drop]
  have hl : (cellsF (L.take k)).length = k * 3 := by rw [cellsF_len, List.length_take]; omega
  have e2 : cellsF L = cellsF (L.take k) ++ ([.d (.sc (.string L[k].name)), .d (.slc 1 L[k].data), .d (.sc (.int .i64 L[k].kept))] ++ cellsF (L.drop (k + 1))) := by
    conv => lhs; rw [e]
    rw [cellsF_append, cellsF_cons]
  simp only [delR, Int.toNat_natCast]
  rw [e2, outFl, cellsF_append, List.take_append_of_le_length (by omega), List.take_of_length_le (by omega), List.drop_append, hl, show k * 3 + 3 - k * 3 = 3 by omega, List.drop_eq_nil_of_le (by omega : (cellsF (L.take k)).length ≤ k * 3 + 3)]
  rfl
theorem outF_len (L : List FileM) (k : Nat) (hk : k < L.length) : (outFl L k).length = L.length - 1 := by
  unfold outFl; simp; omega
theorem outF_tot (L : List FileM) (k : Nat) (f : FileM) (hk : L[k]? = some f) : totF (outFl L k) = totF L - f.data.length := by
  obtain ⟨h1, h2⟩ := List.getElem?_eq_some_iff.1 hk
  have e : L = L.take k ++ (f :: L.drop (k + 1)) := by rw [← h2, ← List.drop_eq_getElem_cons h1, List.take_append_drop]
  have h := congrArg totF e
  rw [totF_append] at h
  simp only [totF] at h
  unfold outFl
  rw [totF_append]
  omega
theorem mem_outFl {L : List FileM} {k : Nat} {f : FileM} (h : f ∈ outFl L k) : f ∈ L := by
  unfold outFl at h
  rcases List.mem_append.1 h with h | h
  · exact List.mem_of_mem_take h
  · exact List.mem_of_mem_drop h
def Dk.rem (D : Dk) (name : ByteArray) : Int × Dk :=
  if D.know name = 0 then (if powE D.a D.l = 0 then (0, ⟨D.q, outFl D.L (D.at name), powO D.o D.a D.l, D.a, powL D.a D.l⟩) else (powE D.a D.l, ⟨D.q, D.L, powO D.o D.a D.l, D.a, powL D.a D.l⟩)) else (D.know name, D)
/-- A file, put in at its name's place. -/
def placeF (L : List FileM) (g : FileM) : List FileM := if (findF g.name L 0).2 = true then L.set (findF g.name L 0).1.toNat g else L.take (findF g.name L 0).1.toNat ++ [g] ++ L.drop (findF g.name L 0).1.toNat
def renF (L : List FileM) (k : Nat) (to : ByteArray) : List FileM := match L[k]? with
  | some f => placeF (outFl L k) ⟨to, f.data, f.kept⟩
  | none => L
def Dk.ren (D : Dk) (name to : ByteArray) : Int × Dk :=
  if D.o = false ∧ mayF to = false then (11, D) else
    if D.know name = 0 then (if powE D.a D.l = 0 then (0, ⟨D.q, renF D.L (D.at name) to, powO D.o D.a D.l, D.a, powL D.a D.l⟩) else (powE D.a D.l, ⟨D.q, D.L, powO D.o D.a D.l, D.a, powL D.a D.l⟩)) else (D.know name, D)
theorem set_all : ∀ (L : List FileM) (i : Nat) (g : FileM), i < L.length → splice (cellsF L) (i * 3) [.d (.sc (.string g.name)), .d (.slc 1 g.data), .d (.sc (.int .i64 g.kept))] = cellsF (L.set i g)
  | [], i, g, h => by simp at h
  | f :: L, 0, g, h => rfl
  | f :: L, i + 1, g, h => by
      have ih := set_all L i g (by simpa using h)
      rw [List.set_cons_succ, cellsF_cons, cellsF_cons, ← ih, show (i + 1) * 3 = i * 3 + 3 by omega]
      simp [splice, List.take_succ_cons, List.drop_succ_cons]
theorem outFl_okL {L : List FileM} (h : okL L) (k : Nat) (f : FileM) (hk : L[k]? = some f) : okL (outFl L k) := by
  have h1 := (List.getElem?_eq_some_iff.1 hk).1
  refine ⟨?_, ?_⟩
  · rw [outF_tot L k f hk]; have := h.1; omega
  · rw [outF_len L k h1]; have := h.2; omega
theorem cell0 {L : List FileM} {cs : List DV} (hcs : cs = cellsF L) {k : Nat} {f : FileM} (h : L[k]? = some f) : cs[k * 3]? = some (.d (.sc (.string f.name))) ∧ (cs.drop (k * 3)).take 3 = [.d (.sc (.string f.name)), .d (.slc 1 f.data), .d (.sc (.int .i64 f.kept))] := by
  obtain ⟨h1, h2⟩ := List.getElem?_eq_some_iff.1 h
  obtain ⟨g0, g1, g2, g3, g4⟩ := file_cell hcs k h1
  rw [h2] at g0 g3
  exact ⟨g0, g3⟩
set_option maxRecDepth 100000 in
theorem w_rem (q : Int) (fr : Fr) (o a : Bool) (lf : Int) (L : List FileM) (name : ByteArray) (hfr : fr.is L) (hD : okD 900 ⟨q, L, o, a, lf⟩) : FnD Try.prog 21 [.ref 0 0 0, .d (.sc (.string name))] (dkS q fr o a lf) (fun r st' => dkR fr ((Dk.mk q L o a lf).rem name).2 (.d (.sc (.int .i64 ((Dk.mk q L o a lf).rem name).1))) r st') := by
  rcases fr with _ | ⟨v, m, cs⟩
  · have hl0 : L = [] := hfr
    have hkm := trivial
    obtain ⟨GFsM, hFsM⟩ : ∃ F, F = FsM0 := ⟨_, rfl⟩
    obtain ⟨GFsK, hFsK⟩ : ∃ F, F = FsK0 := ⟨_, rfl⟩
    obtain ⟨GFsI, hFsI⟩ : ∃ F, F = FsI0 := ⟨_, rfl⟩
    have hH : SoundK Try.prog [] := by subst hFsM hFsK hFsI; exact noK_ok
    have hB : SoundB Try.prog [kb_known GFsM, kb_power GFsK, kb_del GFsI] := by subst hFsM hFsK hFsI; exact orB_ok okb_known (orB_ok okb_power (orB_ok okb_del noB_ok))
    refine FnD_cbv (T := fun _ => tabY [] []) (H := fun _ => []) (tabY_ok _ _) hH follows_mixed Try.func21 rfl Try.ntmps21 (by simp) fun A X W hA hX hW => ?_
    cbv
    repeat' first
      | (refine part (fun h => ?_) (fun h => ?_) <;> try cbv)
      | (refine And.intro ?_ ?_)
      | (with_reducible refine callB hX hB ?_) <;> cbv
    all_goals subst hA hX hW hFsM hFsK hFsI
    all_goals clear hH hB
    all_goals try (show Region.lexB _ _ = true; kernel_rfl)
    all_goals try (show turnsB _ = true; kernel_rfl)
    all_goals try simp only [A0, FsM0, FsK0, FsI0, decide_eq_true_eq, decide_eq_false_iff_not, Bool.not_eq_true', Bool.not_eq_false'] at *
    all_goals have hbad := @know_nil o name
    all_goals have hLl : L.length ≤ 900 := hD.len
    all_goals first
      | contradiction
      | assumption
      | (exfalso; exact hbad (by assumption))
      | (show okD 900 ⟨q, rowF [], o, a, lf⟩; rw [show rowF [] = L from hl0.symm]; exact hD)
      | (show okD 900 ⟨q, rowF cs, o, a, lf⟩; rw [hrow]; exact hD)
      | exact hD.l
      | (have h1 : knE cs o name = 0 := by assumption
         obtain ⟨k, f, e1, e2, e3, e4, e5, e6, e7, e8, e9, e10⟩ := know_cell hcs h1
         have ew : IntKind.wrap .i64 ((k : Int) + 1) = k + 1 := wrap_i64 (by unfold r64; omega)
         first
           | (rw [e1, ew, hm, hcs]
              exact ⟨by rw [cellsF_len], by omega, by omega, rfl, by omega, by rw [cellsF, rowsD]; exact closedL_data 0 _⟩)
           | (have h2 : powE a lf = 0 := by assumption
              have hs : (Dk.mk q L o a lf).rem name = (0, ⟨q, outFl L k, powO o a lf, a, powL a lf⟩) := by
                unfold Dk.rem Dk.know
                rw [if_pos (by rw [← hcs]; exact h1), if_pos h2, e2]
                rfl
              rw [hs, e1, hcs, delF_rows L k e4]
              exact RetW.refl ⟨some (v + 1, m - 1, cellsF (outFl L k)), .inr ⟨by simp, by simp⟩, (by first | exact Nat.zero_le _ | (simp only [Fr.vr]; omega)), ⟨rfl, by rw [outF_len L k e4, hm]⟩, by rw [h2], rfl⟩)
           | (have h2 : ¬ powE a lf = 0 := by assumption
              have hs : (Dk.mk q L o a lf).rem name = (powE a lf, ⟨q, L, powO o a lf, a, powL a lf⟩) := by
                unfold Dk.rem Dk.know
                rw [if_pos (by rw [← hcs]; exact h1), if_neg h2]
              rw [hs]
              exact RetW.refl ⟨some (v, m, cs), .inr ⟨by simp, by simp⟩, (by first | exact Nat.zero_le _ | (simp only [Fr.vr]; omega)), ⟨hcs, hm⟩, rfl, rfl⟩))
      | (have h1 : ¬ knE cs o name = 0 := by assumption
         have hs : (Dk.mk q L o a lf).rem name = (knE cs o name, ⟨q, L, o, a, lf⟩) := by
           unfold Dk.rem Dk.know
           rw [if_neg (by rw [← hcs]; exact h1), hcs]
         rw [hs]
         exact RetW.refl ⟨some (v, m, cs), .inr ⟨by simp, by simp⟩, (by first | exact Nat.zero_le _ | (simp only [Fr.vr]; omega)), ⟨hcs, hm⟩, rfl, rfl⟩)
      | (have hs : (Dk.mk q L o a lf).rem name = (knE [] o name, ⟨q, L, o, a, lf⟩) := by
           unfold Dk.rem Dk.know
           rw [if_neg (by rw [hl0]; exact hbad), hl0]
           rfl
         rw [hs]
         exact RetW.refl ⟨none, .inl ⟨rfl, .inl rfl⟩, (by first | exact Nat.zero_le _ | (simp only [Fr.vr]; omega)), hl0, rfl, rfl⟩)
      | fail
  · obtain ⟨hcs, hm⟩ := hfr
    have hisF : isF cs m := by rw [hcs, hm]; exact isF.mk (hD.okL (by decide))
    have hrow : rowF cs = L := by rw [hcs]; exact rowF_cells L
    have hpull : ∀ κ, pullL κ cs = cs := fun κ => by rw [hcs, pullL_eq]; exact pull_rows κ _
    obtain ⟨GFsM, hFsM⟩ : ∃ F, F = FsM0 := ⟨_, rfl⟩
    obtain ⟨GFsK, hFsK⟩ : ∃ F, F = FsK0 := ⟨_, rfl⟩
    obtain ⟨GFsI, hFsI⟩ : ∃ F, F = FsI0 := ⟨_, rfl⟩
    have hH : SoundK Try.prog [] := by subst hFsM hFsK hFsI; exact noK_ok
    have hB : SoundB Try.prog [kb_known GFsM, kb_power GFsK, kb_del GFsI] := by subst hFsM hFsK hFsI; exact orB_ok okb_known (orB_ok okb_power (orB_ok okb_del noB_ok))
    refine FnD_cbv (T := fun _ => tabY [] []) (H := fun _ => []) (tabY_ok _ _) hH follows_mixed Try.func21 rfl Try.ntmps21 (by simp) fun A X W hA hX hW => ?_
    cbv
    repeat' first
      | (refine part (fun h => ?_) (fun h => ?_) <;> try cbv)
      | (refine And.intro ?_ ?_)
      | (with_reducible refine callB hX hB ?_) <;> cbv
    all_goals subst hA hX hW hFsM hFsK hFsI
    all_goals clear hH hB
    all_goals try (show Region.lexB _ _ = true; kernel_rfl)
    all_goals try (show turnsB _ = true; kernel_rfl)
    all_goals try simp only [A0, FsM0, FsK0, FsI0, decide_eq_true_eq, decide_eq_false_iff_not, Bool.not_eq_true', Bool.not_eq_false'] at *
    all_goals have hbad := @know_nil o name
    all_goals have hLl : L.length ≤ 900 := hD.len
    all_goals first
      | contradiction
      | assumption
      | (exfalso; exact hbad (by assumption))
      | (show okD 900 ⟨q, rowF [], o, a, lf⟩; rw [show rowF [] = L from hl0.symm]; exact hD)
      | (show okD 900 ⟨q, rowF cs, o, a, lf⟩; rw [hrow]; exact hD)
      | exact hD.l
      | (have h1 : knE cs o name = 0 := by assumption
         obtain ⟨k, f, e1, e2, e3, e4, e5, e6, e7, e8, e9, e10⟩ := know_cell hcs h1
         have ew : IntKind.wrap .i64 ((k : Int) + 1) = k + 1 := wrap_i64 (by unfold r64; omega)
         first
           | (rw [e1, ew, hm, hcs]
              exact ⟨by rw [cellsF_len], by omega, by omega, rfl, by omega, by rw [cellsF, rowsD]; exact closedL_data 0 _⟩)
           | (have h2 : powE a lf = 0 := by assumption
              have hs : (Dk.mk q L o a lf).rem name = (0, ⟨q, outFl L k, powO o a lf, a, powL a lf⟩) := by
                unfold Dk.rem Dk.know
                rw [if_pos (by rw [← hcs]; exact h1), if_pos h2, e2]
                rfl
              rw [hs, e1, hcs, delF_rows L k e4]
              exact RetW.refl ⟨some (v + 1, m - 1, cellsF (outFl L k)), .inr ⟨by simp, by simp⟩, (by first | exact Nat.zero_le _ | (simp only [Fr.vr]; omega)), ⟨rfl, by rw [outF_len L k e4, hm]⟩, by rw [h2], rfl⟩)
           | (have h2 : ¬ powE a lf = 0 := by assumption
              have hs : (Dk.mk q L o a lf).rem name = (powE a lf, ⟨q, L, powO o a lf, a, powL a lf⟩) := by
                unfold Dk.rem Dk.know
                rw [if_pos (by rw [← hcs]; exact h1), if_neg h2]
              rw [hs]
              exact RetW.refl ⟨some (v, m, cs), .inr ⟨by simp, by simp⟩, (by first | exact Nat.zero_le _ | (simp only [Fr.vr]; omega)), ⟨hcs, hm⟩, rfl, rfl⟩))
      | (have h1 : ¬ knE cs o name = 0 := by assumption
         have hs : (Dk.mk q L o a lf).rem name = (knE cs o name, ⟨q, L, o, a, lf⟩) := by
           unfold Dk.rem Dk.know
           rw [if_neg (by rw [← hcs]; exact h1), hcs]
         rw [hs]
         exact RetW.refl ⟨some (v, m, cs), .inr ⟨by simp, by simp⟩, (by first | exact Nat.zero_le _ | (simp only [Fr.vr]; omega)), ⟨hcs, hm⟩, rfl, rfl⟩)
      | (have hs : (Dk.mk q L o a lf).rem name = (knE [] o name, ⟨q, L, o, a, lf⟩) := by
           unfold Dk.rem Dk.know
           rw [if_neg (by rw [hl0]; exact hbad), hl0]
           rfl
         rw [hs]
         exact RetW.refl ⟨none, .inl ⟨rfl, .inl rfl⟩, (by first | exact Nat.zero_le _ | (simp only [Fr.vr]; omega)), hl0, rfl, rfl⟩)
      | fail
set_option maxRecDepth 100000 in
theorem w_ren (q : Int) (fr : Fr) (o a : Bool) (lf : Int) (L : List FileM) (name to : ByteArray) (hfr : fr.is L) (hD : okD 900 ⟨q, L, o, a, lf⟩) (hn : to.size ≤ 1048576) : FnD Try.prog 23 [.ref 0 0 0, .d (.sc (.string name)), .d (.sc (.string to))] (dkS q fr o a lf) (fun r st' => dkR fr ((Dk.mk q L o a lf).ren name to).2 (.d (.sc (.int .i64 ((Dk.mk q L o a lf).ren name to).1))) r st') := by
  rcases fr with _ | ⟨v, m, cs⟩
  · have hl0 : L = [] := hfr
    have hkm := trivial
    obtain ⟨GFsD, hFsD⟩ : ∃ F, F = FsD0 := ⟨_, rfl⟩
    obtain ⟨GFsK, hFsK⟩ : ∃ F, F = FsK0 := ⟨_, rfl⟩
    obtain ⟨GFsM, hFsM⟩ : ∃ F, F = FsM0 := ⟨_, rfl⟩
    obtain ⟨GFsI, hFsI⟩ : ∃ F, F = FsI0 := ⟨_, rfl⟩
    have hH : SoundK Try.prog [kn_may GFsD] := by subst hFsD hFsK hFsM hFsI; exact orK_ok ok_may noK_ok
    have hB : SoundB Try.prog [kb_find GFsK, kb_known GFsM, kb_power GFsK, kb_ins GFsI, kb_del GFsI] := by subst hFsD hFsK hFsM hFsI; exact orB_ok okb_find (orB_ok okb_known (orB_ok okb_power (orB_ok okb_ins (orB_ok okb_del noB_ok))))
    refine FnD_cbv (T := fun _ => tabY [40, 41, 67, 68] [13, 15]) (H := fun _ => [kn_may GFsD]) (tabY_ok _ _) hH follows_mixed Try.func23 rfl Try.ntmps23 (by simp) fun A X W hA hX hW => ?_
    cbv
    repeat' first
      | (refine part (fun h => ?_) (fun h => ?_) <;> try cbv)
      | (refine And.intro ?_ ?_)
      | (with_reducible refine callB hX hB ?_) <;> cbv
      | ((with_reducible refine regionBZ [32] (T := fun _ => tabY [40, 41, 67, 68] []) (H := fun _ => [kn_may GFsD]) (B := fun _ => [kb_find GFsK, kb_known GFsM, kb_power GFsK, kb_ins GFsI, kb_del GFsI]) (A := A) (tabY_ok _ _) hH hB follows_mixed hA hX (by kernel_rfl) (by kernel_rfl) ?_) <;> cbv)
    all_goals subst hA hX hW hFsD hFsK hFsM hFsI
    all_goals clear hH hB
    all_goals try (show Region.lexB _ _ = true; kernel_rfl)
    all_goals try (show turnsB _ = true; kernel_rfl)
    all_goals try simp only [A0, FsD0, FsK0, FsM0, FsI0, decide_eq_true_eq, decide_eq_false_iff_not, Bool.not_eq_true', Bool.not_eq_false'] at *
    all_goals have hbad := @know_nil o name
    all_goals have hLl : L.length ≤ 900 := hD.len
    all_goals first
      | contradiction
      | assumption
      | exact hn
      | (intro q; exact q)
      | (intro _; exact hn)
      | (intro q; rw [q]; rfl)
      | (exfalso; exact hbad (by assumption))
      | (show okD 900 ⟨q, rowF [], o, a, lf⟩; rw [show rowF [] = L from hl0.symm]; exact hD)
      | (show okD 900 ⟨q, rowF cs, o, a, lf⟩; rw [hrow]; exact hD)
      | exact hD.l
      | (have h0 : (bif !o then !mayF to else false) = true := by assumption
         have h2 : o = false ∧ mayF to = false := by
           revert h0
           cases o <;> cases mayF to <;> simp
         have hs : (Dk.mk q L o a lf).ren name to = (11, ⟨q, L, o, a, lf⟩) := by
           unfold Dk.ren
           rw [if_pos h2]
         rw [hs]
         first
           | exact RetW.refl ⟨none, .inl ⟨rfl, .inl rfl⟩, (by first | exact Nat.zero_le _ | (simp only [Fr.vr]; omega)), hl0, rfl, rfl⟩
           | exact RetW.refl ⟨some (v, m, cs), .inr ⟨by simp, by simp⟩, (by first | exact Nat.zero_le _ | (simp only [Fr.vr]; omega)), ⟨hcs, hm⟩, rfl, rfl⟩)
      | (have h0 : (bif !o then !mayF to else false) = false := by assumption
         have h9 : ¬ (o = false ∧ mayF to = false) := by
           revert h0
           cases o <;> cases mayF to <;> simp
         first
           | (have h1 : ¬ knE cs o name = 0 := by assumption
              have hs : (Dk.mk q L o a lf).ren name to = (knE cs o name, ⟨q, L, o, a, lf⟩) := by
                unfold Dk.ren Dk.know
                rw [if_neg h9, if_neg (by rw [← hcs]; exact h1), hcs]
              rw [hs]
              exact RetW.refl ⟨some (v, m, cs), .inr ⟨by simp, by simp⟩, (by first | exact Nat.zero_le _ | (simp only [Fr.vr]; omega)), ⟨hcs, hm⟩, rfl, rfl⟩)
           | (have hs : (Dk.mk q L o a lf).ren name to = (knE [] o name, ⟨q, L, o, a, lf⟩) := by
                unfold Dk.ren Dk.know
                rw [if_neg h9, if_neg (by rw [hl0]; exact hbad), hl0]
                rfl
              rw [hs]
              exact RetW.refl ⟨none, .inl ⟨rfl, .inl rfl⟩, (by first | exact Nat.zero_le _ | (simp only [Fr.vr]; omega)), hl0, rfl, rfl⟩)
           | (have h1 : knE cs o name = 0 := by assumption
              have h2 : ¬ powE a lf = 0 := by assumption
              have hs : (Dk.mk q L o a lf).ren name to = (powE a lf, ⟨q, L, powO o a lf, a, powL a lf⟩) := by
                unfold Dk.ren Dk.know
                rw [if_neg h9, if_pos (by rw [← hcs]; exact h1), if_neg h2]
              rw [hs]
              exact RetW.refl ⟨some (v, m, cs), .inr ⟨by simp, by simp⟩, (by first | exact Nat.zero_le _ | (simp only [Fr.vr]; omega)), ⟨hcs, hm⟩, rfl, rfl⟩)
           | (have h1 : knE cs o name = 0 := by assumption
              obtain ⟨k, f, e1, e2, e3, e4, e5, e6, e7, e8, e9, e10⟩ := know_cell hcs h1
              obtain ⟨f0, f3⟩ := cell0 hcs e3
              have ew : IntKind.wrap .i64 ((k : Int) + 1) = k + 1 := wrap_i64 (by unfold r64; omega)
              have hd := delF_rows L k e4
              have hl1 := outF_len L k e4
              have hok := outFl_okL (hD.okL (by decide)) k f e3
              have hx : findX (delR cs (k : Int)) to = findF to (outFl L k) 0 := by unfold findX; rw [hcs, hd, rowF_cells]
              have hfr := findF_range to (outFl L k) 0
              obtain ⟨j, hj⟩ : ∃ j : Nat, (findF to (outFl L k) 0).1 = (j : Int) := ⟨(findF to (outFl L k) 0).1.toNat, by omega⟩
              have cl := cellsF_len (outFl L k)
              simp only [e1, hx] at *
              try simp only [hj, Int.toNat_natCast, Nat.zero_add, f0, e7, e8]
              first
                | (rw [hm]; exact (⟨by omega, by omega⟩ : (0 : Int) ≤ (k : Int) ∧ (k : Int) < (L.length : Int)))
                | (exact ⟨rfl, by omega, f3⟩)
                | (rw [ew, hm, hcs]
                   exact ⟨by rw [cellsF_len], by omega, by omega, rfl, by omega, by rw [cellsF, rowsD]; exact closedL_data 0 _⟩)
                | (rw [hcs, hd, show m - 1 = (outFl L k).length by rw [hl1, hm]]; exact isF.mk hok)
                | (have hf : (findF to (outFl L k) 0).2 = true := by assumption
                   have hjl : j < (outFl L k).length := by have := hfr.2.2 hf; omega
                   first
                     | (rw [hm, ← hl1]; exact (⟨by omega, by omega⟩ : (0 : Int) ≤ (j : Int) ∧ (j : Int) < ((outFl L k).length : Int)))
                     | (rw [hcs, hd]; omega)
                     | (have h2 : powE a lf = 0 := by assumption
                        have hs : (Dk.mk q L o a lf).ren name to = (0, ⟨q, (outFl L k).set j ⟨to, f.data, f.kept⟩, powO o a lf, a, powL a lf⟩) := by
                          unfold Dk.ren Dk.know renF
                          rw [if_neg h9, if_pos (by rw [← hcs]; exact h1), if_pos h2]
                          simp only [Dk.at, ← e2, e3, placeF, hf, if_true, hj, Int.toNat_natCast]
                        have hsa := set_all (outFl L k) j ⟨to, f.data, f.kept⟩ hjl
                        simp only at hsa
                        rw [hs, hcs, hd, hsa]
                        have hps : ∀ κ, pullL κ (cellsF ((outFl L k).set j ⟨to, f.data, f.kept⟩)) = cellsF ((outFl L k).set j ⟨to, f.data, f.kept⟩) := fun κ => by rw [pullL_eq]; exact pull_rows κ _
                        refine ret_keep2 [0, 1] rfl ⟨⟨trivial, .inl rfl⟩, .inl rfl⟩ (RetW.refl ⟨some (v + 1, m - 1, cellsF ((outFl L k).set j ⟨to, f.data, f.kept⟩)), .inr ⟨by simp, by simp⟩, (by first | exact Nat.zero_le _ | (simp only [Fr.vr]; omega)), ⟨rfl, by rw [List.length_set, hl1, hm]⟩, rfl, ?_⟩)
                        simp only [keepSt, List.map_cons, List.map_nil, pullBox, List.getD_cons_zero, List.getD_cons_succ, hps]
                        rfl))
                | (have hf : (findF to (outFl L k) 0).2 = false := by assumption
                   have hjl : j ≤ (outFl L k).length := by omega
                   have hi := insF_rows (outFl L k) ⟨to, f.data, f.kept⟩ j hjl
                   simp only at hi
                   first
                     | (rw [hcs, hd, hm]
                        exact ⟨by rw [cl, hl1], rfl, by omega, by omega, by omega, by rw [cellsF, rowsD]; exact closedL_data 0 _, rfl⟩)
                     | (have h2 : powE a lf = 0 := by assumption
                        have hs : (Dk.mk q L o a lf).ren name to = (0, ⟨q, (outFl L k).take j ++ [⟨to, f.data, f.kept⟩] ++ (outFl L k).drop j, powO o a lf, a, powL a lf⟩) := by
                          unfold Dk.ren Dk.know renF
                          rw [if_neg h9, if_pos (by rw [← hcs]; exact h1), if_pos h2]
                          simp only [Dk.at, ← e2, e3, placeF, hf, Bool.false_eq_true, if_false, hj, Int.toNat_natCast]
                        rw [hs, hcs, hd, hi]
                        have hps : ∀ κ, pullL κ (cellsF ((outFl L k).take j ++ [⟨to, f.data, f.kept⟩] ++ (outFl L k).drop j)) = cellsF ((outFl L k).take j ++ [⟨to, f.data, f.kept⟩] ++ (outFl L k).drop j) := fun κ => by rw [pullL_eq]; exact pull_rows κ _
                        refine ret_keep2 [0, 1] rfl ⟨⟨trivial, .inl rfl⟩, .inl rfl⟩ (RetW.refl ⟨some (v + 1 + 1, m - 1 + 1, cellsF ((outFl L k).take j ++ [⟨to, f.data, f.kept⟩] ++ (outFl L k).drop j)), .inr (by simp), (by first | exact Nat.zero_le _ | (simp only [Fr.vr]; omega)), ⟨rfl, by rw [(ins_get (outFl L k) ⟨to, f.data, f.kept⟩ j hjl).2.1, hl1, hm]⟩, rfl, ?_⟩)
                        simp only [keepSt, List.map_cons, List.map_nil, pullBox, List.getD_cons_zero, List.getD_cons_succ, hps]
                        rfl))
                | fail))
      | fail
  · obtain ⟨hcs, hm⟩ := hfr
    have hisF : isF cs m := by rw [hcs, hm]; exact isF.mk (hD.okL (by decide))
    have hrow : rowF cs = L := by rw [hcs]; exact rowF_cells L
    have hpull : ∀ κ, pullL κ cs = cs := fun κ => by rw [hcs, pullL_eq]; exact pull_rows κ _
    obtain ⟨GFsD, hFsD⟩ : ∃ F, F = FsD0 := ⟨_, rfl⟩
    obtain ⟨GFsK, hFsK⟩ : ∃ F, F = FsK0 := ⟨_, rfl⟩
    obtain ⟨GFsM, hFsM⟩ : ∃ F, F = FsM0 := ⟨_, rfl⟩
    obtain ⟨GFsI, hFsI⟩ : ∃ F, F = FsI0 := ⟨_, rfl⟩
    have hH : SoundK Try.prog [kn_may GFsD] := by subst hFsD hFsK hFsM hFsI; exact orK_ok ok_may noK_ok
    have hB : SoundB Try.prog [kb_find GFsK, kb_known GFsM, kb_power GFsK, kb_ins GFsI, kb_del GFsI] := by subst hFsD hFsK hFsM hFsI; exact orB_ok okb_find (orB_ok okb_known (orB_ok okb_power (orB_ok okb_ins (orB_ok okb_del noB_ok))))
    refine FnD_cbv (T := fun _ => tabY [40, 41, 67, 68] [13, 15]) (H := fun _ => [kn_may GFsD]) (tabY_ok _ _) hH follows_mixed Try.func23 rfl Try.ntmps23 (by simp) fun A X W hA hX hW => ?_
    cbv
    repeat' first
      | (refine part (fun h => ?_) (fun h => ?_) <;> try cbv)
      | (refine And.intro ?_ ?_)
      | (with_reducible refine callB hX hB ?_) <;> cbv
      | ((with_reducible refine regionBZ [32] (T := fun _ => tabY [40, 41, 67, 68] []) (H := fun _ => [kn_may GFsD]) (B := fun _ => [kb_find GFsK, kb_known GFsM, kb_power GFsK, kb_ins GFsI, kb_del GFsI]) (A := A) (tabY_ok _ _) hH hB follows_mixed hA hX (by kernel_rfl) (by kernel_rfl) ?_) <;> cbv)
    all_goals subst hA hX hW hFsD hFsK hFsM hFsI
    all_goals clear hH hB
    all_goals try (show Region.lexB _ _ = true; kernel_rfl)
    all_goals try (show turnsB _ = true; kernel_rfl)
    all_goals try simp only [A0, FsD0, FsK0, FsM0, FsI0, decide_eq_true_eq, decide_eq_false_iff_not, Bool.not_eq_true', Bool.not_eq_false'] at *
    all_goals have hbad := @know_nil o name
    all_goals have hLl : L.length ≤ 900 := hD.len
    all_goals first
      | contradiction
      | assumption
      | exact hn
      | (intro q; exact q)
      | (intro _; exact hn)
      | (intro q; rw [q]; rfl)
      | (exfalso; exact hbad (by assumption))
      | (show okD 900 ⟨q, rowF [], o, a, lf⟩; rw [show rowF [] = L from hl0.symm]; exact hD)
      | (show okD 900 ⟨q, rowF cs, o, a, lf⟩; rw [hrow]; exact hD)
      | exact hD.l
      | (have h0 : (bif !o then !mayF to else false) = true := by assumption
         have h2 : o = false ∧ mayF to = false := by
           revert h0
           cases o <;> cases mayF to <;> simp
         have hs : (Dk.mk q L o a lf).ren name to = (11, ⟨q, L, o, a, lf⟩) := by
           unfold Dk.ren
           rw [if_pos h2]
         rw [hs]
         first
           | exact RetW.refl ⟨none, .inl ⟨rfl, .inl rfl⟩, (by first | exact Nat.zero_le _ | (simp only [Fr.vr]; omega)), hl0, rfl, rfl⟩
           | exact RetW.refl ⟨some (v, m, cs), .inr ⟨by simp, by simp⟩, (by first | exact Nat.zero_le _ | (simp only [Fr.vr]; omega)), ⟨hcs, hm⟩, rfl, rfl⟩)
      | (have h0 : (bif !o then !mayF to else false) = false := by assumption
         have h9 : ¬ (o = false ∧ mayF to = false) := by
           revert h0
           cases o <;> cases mayF to <;> simp
         first
           | (have h1 : ¬ knE cs o name = 0 := by assumption
              have hs : (Dk.mk q L o a lf).ren name to = (knE cs o name, ⟨q, L, o, a, lf⟩) := by
                unfold Dk.ren Dk.know
                rw [if_neg h9, if_neg (by rw [← hcs]; exact h1), hcs]
              rw [hs]
              exact RetW.refl ⟨some (v, m, cs), .inr ⟨by simp, by simp⟩, (by first | exact Nat.zero_le _ | (simp only [Fr.vr]; omega)), ⟨hcs, hm⟩, rfl, rfl⟩)
           | (have hs : (Dk.mk q L o a lf).ren name to = (knE [] o name, ⟨q, L, o, a, lf⟩) := by
                unfold Dk.ren Dk.know
                rw [if_neg h9, if_neg (by rw [hl0]; exact hbad), hl0]
                rfl
              rw [hs]
              exact RetW.refl ⟨none, .inl ⟨rfl, .inl rfl⟩, (by first | exact Nat.zero_le _ | (simp only [Fr.vr]; omega)), hl0, rfl, rfl⟩)
           | (have h1 : knE cs o name = 0 := by assumption
              have h2 : ¬ powE a lf = 0 := by assumption
              have hs : (Dk.mk q L o a lf).ren name to = (powE a lf, ⟨q, L, powO o a lf, a, powL a lf⟩) := by
                unfold Dk.ren Dk.know
                rw [if_neg h9, if_pos (by rw [← hcs]; exact h1), if_neg h2]
              rw [hs]
              exact RetW.refl ⟨some (v, m, cs), .inr ⟨by simp, by simp⟩, (by first | exact Nat.zero_le _ | (simp only [Fr.vr]; omega)), ⟨hcs, hm⟩, rfl, rfl⟩)
           | (have h1 : knE cs o name = 0 := by assumption
              obtain ⟨k, f, e1, e2, e3, e4, e5, e6, e7, e8, e9, e10⟩ := know_cell hcs h1
              obtain ⟨f0, f3⟩ := cell0 hcs e3
              have ew : IntKind.wrap .i64 ((k : Int) + 1) = k + 1 := wrap_i64 (by unfold r64; omega)
              have hd := delF_rows L k e4
              have hl1 := outF_len L k e4
              have hok := outFl_okL (hD.okL (by decide)) k f e3
              have hx : findX (delR cs (k : Int)) to = findF to (outFl L k) 0 := by unfold findX; rw [hcs, hd, rowF_cells]
              have hfr := findF_range to (outFl L k) 0
              obtain ⟨j, hj⟩ : ∃ j : Nat, (findF to (outFl L k) 0).1 = (j : Int) := ⟨(findF to (outFl L k) 0).1.toNat, by omega⟩
              have cl := cellsF_len (outFl L k)
              simp only [e1, hx] at *
              try simp only [hj, Int.toNat_natCast, Nat.zero_add, f0, e7, e8]
              first
                | (rw [hm]; exact (⟨by omega, by omega⟩ : (0 : Int) ≤ (k : Int) ∧ (k : Int) < (L.length : Int)))
                | (exact ⟨rfl, by omega, f3⟩)
                | (rw [ew, hm, hcs]
                   exact ⟨by rw [cellsF_len], by omega, by omega, rfl, by omega, by rw [cellsF, rowsD]; exact closedL_data 0 _⟩)
                | (rw [hcs, hd, show m - 1 = (outFl L k).length by rw [hl1, hm]]; exact isF.mk hok)
                | (have hf : (findF to (outFl L k) 0).2 = true := by assumption
                   have hjl : j < (outFl L k).length := by have := hfr.2.2 hf; omega
                   first
                     | (rw [hm, ← hl1]; exact (⟨by omega, by omega⟩ : (0 : Int) ≤ (j : Int) ∧ (j : Int) < ((outFl L k).length : Int)))
                     | (rw [hcs, hd]; omega)
                     | (have h2 : powE a lf = 0 := by assumption
                        have hs : (Dk.mk q L o a lf).ren name to = (0, ⟨q, (outFl L k).set j ⟨to, f.data, f.kept⟩, powO o a lf, a, powL a lf⟩) := by
                          unfold Dk.ren Dk.know renF
                          rw [if_neg h9, if_pos (by rw [← hcs]; exact h1), if_pos h2]
                          simp only [Dk.at, ← e2, e3, placeF, hf, if_true, hj, Int.toNat_natCast]
                        have hsa := set_all (outFl L k) j ⟨to, f.data, f.kept⟩ hjl
                        simp only at hsa
                        rw [hs, hcs, hd, hsa]
                        have hps : ∀ κ, pullL κ (cellsF ((outFl L k).set j ⟨to, f.data, f.kept⟩)) = cellsF ((outFl L k).set j ⟨to, f.data, f.kept⟩) := fun κ => by rw [pullL_eq]; exact pull_rows κ _
                        refine ret_keep2 [0, 1] rfl ⟨⟨trivial, .inl rfl⟩, .inl rfl⟩ (RetW.refl ⟨some (v + 1, m - 1, cellsF ((outFl L k).set j ⟨to, f.data, f.kept⟩)), .inr ⟨by simp, by simp⟩, (by first | exact Nat.zero_le _ | (simp only [Fr.vr]; omega)), ⟨rfl, by rw [List.length_set, hl1, hm]⟩, rfl, ?_⟩)
                        simp only [keepSt, List.map_cons, List.map_nil, pullBox, List.getD_cons_zero, List.getD_cons_succ, hps]
                        rfl))
                | (have hf : (findF to (outFl L k) 0).2 = false := by assumption
                   have hjl : j ≤ (outFl L k).length := by omega
                   have hi := insF_rows (outFl L k) ⟨to, f.data, f.kept⟩ j hjl
                   simp only at hi
                   first
                     | (rw [hcs, hd, hm]
                        exact ⟨by rw [cl, hl1], rfl, by omega, by omega, by omega, by rw [cellsF, rowsD]; exact closedL_data 0 _, rfl⟩)
                     | (have h2 : powE a lf = 0 := by assumption
                        have hs : (Dk.mk q L o a lf).ren name to = (0, ⟨q, (outFl L k).take j ++ [⟨to, f.data, f.kept⟩] ++ (outFl L k).drop j, powO o a lf, a, powL a lf⟩) := by
                          unfold Dk.ren Dk.know renF
                          rw [if_neg h9, if_pos (by rw [← hcs]; exact h1), if_pos h2]
                          simp only [Dk.at, ← e2, e3, placeF, hf, Bool.false_eq_true, if_false, hj, Int.toNat_natCast]
                        rw [hs, hcs, hd, hi]
                        have hps : ∀ κ, pullL κ (cellsF ((outFl L k).take j ++ [⟨to, f.data, f.kept⟩] ++ (outFl L k).drop j)) = cellsF ((outFl L k).take j ++ [⟨to, f.data, f.kept⟩] ++ (outFl L k).drop j) := fun κ => by rw [pullL_eq]; exact pull_rows κ _
                        refine ret_keep2 [0, 1] rfl ⟨⟨trivial, .inl rfl⟩, .inl rfl⟩ (RetW.refl ⟨some (v + 1 + 1, m - 1 + 1, cellsF ((outFl L k).take j ++ [⟨to, f.data, f.kept⟩] ++ (outFl L k).drop j)), .inr (by simp), (by first | exact Nat.zero_le _ | (simp only [Fr.vr]; omega)), ⟨rfl, by rw [(ins_get (outFl L k) ⟨to, f.data, f.kept⟩ j hjl).2.1, hl1, hm]⟩, rfl, ?_⟩)
                        simp only [keepSt, List.map_cons, List.map_nil, pullBox, List.getD_cons_zero, List.getD_cons_succ, hps]
                        rfl))
                | fail))
      | fail
end Go.Proofs.Ytmjmbfcfnhnpmaa
namespace Go.Proofs.Ytmjmbfcfnhnpmaa
open Go.RowKit
set_option linter.all false
set_option maxHeartbeats 4000000
/-- What stays of a file. -/
def stayN (f : FileM) (p : Int) : Nat := (f.kept + (max p 0) % (f.data.length - f.kept + 1)).toNat
def cr1 (f : FileM) (p : Int) : FileM := ⟨f.name, f.data.take (stayN f p), stayN f p⟩
def crF (ps : List Int) (L : List FileM) : List FileM := L.mapIdx fun i f => cr1 f (ps.getD i 0)
def crK (ps : List Int) (L : List FileM) (i : Nat) : List FileM := (crF ps L).take i ++ L.drop i
theorem crF_len (ps : List Int) (L : List FileM) : (crF ps L).length = L.length := by simp [crF]
theorem crK_len (ps : List Int) (L : List FileM) (i : Nat) (h : i ≤ L.length) : (crK ps L i).length = L.length := by simp [crK, crF_len]; omega
theorem crK_get (ps : List Int) (L : List FileM) (i : Nat) (f : FileM) (h : L[i]? = some f) : (crK ps L i)[i]? = some f := by
  have hl := (List.getElem?_eq_some_iff.1 h).1
  unfold crK
  rw [List.getElem?_append_right (by simp [crF_len]; omega), List.getElem?_drop]
  simp only [List.length_take, crF_len]
  rw [show i + (i - min i L.length) = i by omega]
  exact h
theorem crK_next (ps : List Int) (L : List FileM) (i : Nat) (f : FileM) (h : L[i]? = some f) : (crK ps L i).set i (cr1 f (ps.getD i 0)) = crK ps L (i + 1) := by
  obtain ⟨hl, he⟩ := List.getElem?_eq_some_iff.1 h
  have h1 : i < (crF ps L).length := by rw [crF_len]; exact hl
  have h2 : (crF ps L)[i] = cr1 f (ps.getD i 0) := by
    simp [crF, he]
  unfold crK
  rw [List.take_succ_eq_append_getElem h1, h2, show L.drop i = L[i] :: L.drop (i + 1) from List.drop_eq_getElem_cons hl, List.set_append_right _ _ (by simp [crF_len]; omega)]
  rw [show i - ((crF ps L).take i).length = 0 by simp [crF_len]; omega, List.set_cons_zero, List.append_assoc]
  rfl
theorem stay_le (f : FileM) (p : Int) (h : okFile f) : f.kept ≤ (stayN f p : Int) ∧ stayN f p ≤ f.data.length := by
  obtain ⟨_, h0, h1⟩ := h
  have h2 := Int.emod_nonneg (max p 0) (show (f.data.length : Int) - f.kept + 1 ≠ 0 by omega)
  have h3 := Int.emod_lt_of_pos (max p 0) (show 0 < (f.data.length : Int) - f.kept + 1 by omega)
  unfold stayN
  omega
theorem stay_eq (f : FileM) (p pk : Int) (h : okFile f) (hpk : pk = max p 0) : IntKind.wrap .i64 (f.kept + pk.tmod (IntKind.wrap .i64 (IntKind.wrap .i64 ((f.data.length : Int) - f.kept) + 1))) = (stayN f p : Int) := by
  have hs := stay_le f p h
  obtain ⟨⟨bs, hb, hbl⟩, h0, h1⟩ := h
  have hl : f.data.length ≤ 4000000 := by rw [hb, bytesP_length]; exact hbl
  have e1 : IntKind.wrap .i64 ((f.data.length : Int) - f.kept) = (f.data.length : Int) - f.kept := wrap_i64 (by unfold r64; omega)
  have e2 : IntKind.wrap .i64 ((f.data.length : Int) - f.kept + 1) = (f.data.length : Int) - f.kept + 1 := wrap_i64 (by unfold r64; omega)
  have h2 := Int.emod_nonneg (max p 0) (show (f.data.length : Int) - f.kept + 1 ≠ 0 by omega)
  have h3 := Int.emod_lt_of_pos (max p 0) (show 0 < (f.data.length : Int) - f.kept + 1 by omega)
  have e3 : (stayN f p : Int) = f.kept + (max p 0) % ((f.data.length : Int) - f.kept + 1) := by unfold stayN; omega
  rw [e1, e2, hpk, Int.tmod_eq_emod_of_nonneg (by omega), e3]
  exact wrap_i64 (by unfold r64; omega)
theorem nz_eq (f : FileM) (h : okFile f) : IntKind.wrap .i64 (IntKind.wrap .i64 ((f.data.length : Int) - f.kept) + 1) ≠ 0 := by
  obtain ⟨⟨bs, hb, hbl⟩, h0, h1⟩ := h
  have hl : f.data.length ≤ 4000000 := by rw [hb, bytesP_length]; exact hbl
  have e1 : IntKind.wrap .i64 ((f.data.length : Int) - f.kept) = (f.data.length : Int) - f.kept := wrap_i64 (by unfold r64; omega)
  have e2 : IntKind.wrap .i64 ((f.data.length : Int) - f.kept + 1) = (f.data.length : Int) - f.kept + 1 := wrap_i64 (by unfold r64; omega)
  rw [e1, e2]
  omega
theorem isB.take {xs : List (List PD)} (h : isB xs) (k : Nat) : isB (xs.take k) := by
  obtain ⟨bs, rfl, hl⟩ := h
  exact ⟨bs.take k, by simp [bytesP], by rw [List.length_take]; omega⟩
theorem cell_take {c : List DV} {n : Nat} {a : DV} (h : c[n]? = some a) : (c.drop n).take 1 = [a] := by
  obtain ⟨hn, e⟩ := List.getElem?_eq_some_iff.1 h
  rw [List.drop_eq_getElem_cons hn, e]
  rfl
def intsX (ps : List Int) : List (List PD) := ps.map fun p => [.sc (.int .i64 p)]
def isI (xs : List (List PD)) : Prop := ∃ ps, xs = intsX ps ∧ ps.length ≤ 4194304 ∧ ∀ p ∈ ps, r64 p
def Dk.crash (D : Dk) (ps : List Int) : Dk := ⟨D.q, crF ps D.L, false, false, 0⟩
set_option maxRecDepth 100000 in
theorem w_crash (q : Int) (fr : Fr) (o a : Bool) (lf : Int) (L : List FileM) (ps : List Int) (hfr : fr.is L) (hD : okD 900 ⟨q, L, o, a, lf⟩) (hp : ps.length ≤ 4194304) (hq : ∀ p ∈ ps, r64 p) : FnD Try.prog 13 [.ref 0 0 0, .d (.slc 1 (intsX ps))] (dkS q fr o a lf) (fun r st' => dkR fr ((Dk.mk q L o a lf).crash ps) (.tup []) r st') := by
  obtain ⟨xs, hxs⟩ : ∃ xs, xs = intsX ps := ⟨_, rfl⟩
  rw [← hxs]
  obtain ⟨n, hn⟩ : ∃ n : Int, n = L.length := ⟨_, rfl⟩
  have hn0 : 0 ≤ n := by omega
  have hn1 : n ≤ 900 := by have := hD.len; simp only at this; omega
  have hxl : (xs.length : Int) = ps.length := by rw [hxs]; simp [intsX]
  rcases fr with _ | ⟨v, m, cs⟩
  · have hl0 : L = [] := hfr
    have hn2 : n = 0 := by rw [hn, hl0]; rfl
    obtain ⟨GFsB, hFsB⟩ : ∃ F, F = FsB0 := ⟨_, rfl⟩
    have hH : SoundK Try.prog [kn_clone GFsB] := by subst hFsB; exact orK_ok ok_clone noK_ok
    have hB : SoundB Try.prog [] := by subst hFsB; exact noB_ok
    refine FnD_cbv (T := fun _ => tabY [5, 29, 36, 39, 40, 41, 42, 44, 45, 46, 49, 50, 51, 54, 55, 56, 64, 65, 66, 67, 68, 69, 72, 73] [8]) (H := fun _ => [kn_clone GFsB]) (tabY_ok _ _) hH follows_mixed Try.func13 rfl Try.ntmps13 (by simp) fun A X W hA hX hW => ?_
    cbv
    try refine And.intro (by subst hA; rfl) ?_
    refine loopL (T := fun _ => tabY [5, 29, 36, 39, 40, 41, 42, 44, 45, 46, 49, 50, 51, 54, 55, 56, 64, 65, 66, 67, 68, 69, 72, 73] [8]) (H := fun _ => [kn_clone GFsB]) (tabY_ok _ _) hH follows_mixed hA hX (fun x : Int × List DV => 0 ≤ x.1 ∧ x.1 ≤ n)
      (fun x => [(0, .ref 0 0 0), (1, .d (.slc 1 xs)), (20, .d (.sc (.int .i64 n))), (21, .d (.sc (.int .i64 x.1)))]) (fun x => [dB q (.d (.sc (.slice none 0 0))) false false 0])
      (fun x => n.toNat - x.1.toNat) (0, []) ?_ ?_ ?_
    · exact ⟨by simp only; omega, by simp only; omega⟩
    · subst hA hn2; exact told_less (by simp [toldP, getS, A0])
    rintro R ⟨i, c⟩ hR ⟨i0, i1⟩
    cbv
    repeat' first
      | (refine part (fun h => ?_) (fun h => ?_) <;> try cbv)
      | (refine And.intro ?_ ?_)
      | ((with_reducible refine regionY (T := fun _ => tabY [5, 29, 36, 39, 40, 41, 42, 44, 45, 46, 49, 50, 51, 54, 55, 56, 64, 65, 66, 67, 68, 69, 72, 73] []) (H := fun _ => [kn_clone GFsB]) (R := fun _ => []) (A := A) (tabY_ok _ _) hH noR_ok follows_mixed hA hX (by kernel_rfl) ?_) <;> cbv)
    all_goals subst hA hX hW hR hFsB
    all_goals clear hH hB
    all_goals replace hn : n = (L.length : Int) := hn
    all_goals replace hxl : (xs.length : Int) = ps.length := hxl
    all_goals replace i0 : 0 ≤ i := i0
    all_goals replace i1 : i ≤ n := i1
    all_goals replace hn2 : n = 0 := hn2
    all_goals first
      | (exfalso
         have h9 : A0.cmp .lss i n = true := by assumption
         simp only [A0, decide_eq_true_eq] at h9
         replace h9 : i < n := h9
         omega)
      | (refine RetW.refl ⟨none, .inl ⟨rfl, .inl rfl⟩, (by first | exact Nat.zero_le _ | (simp only [Fr.vr]; omega)), ?_, rfl, rfl⟩
         rw [hl0]; rfl)
      | fail
  · obtain ⟨hcs, hm⟩ := hfr
    have hn2 : n = (m : Int) := by rw [hm]; exact hn
    obtain ⟨GFsB, hFsB⟩ : ∃ F, F = FsB0 := ⟨_, rfl⟩
    have hH : SoundK Try.prog [kn_clone GFsB] := by subst hFsB; exact orK_ok ok_clone noK_ok
    have hB : SoundB Try.prog [] := by subst hFsB; exact noB_ok
    refine FnD_cbv (T := fun _ => tabY [5, 29, 36, 39, 40, 41, 42, 44, 45, 46, 49, 50, 51, 54, 55, 56, 64, 65, 66, 67, 68, 69, 72, 73] [8]) (H := fun _ => [kn_clone GFsB]) (tabY_ok _ _) hH follows_mixed Try.func13 rfl Try.ntmps13 (by simp) fun A X W hA hX hW => ?_
    cbv
    try refine And.intro (by subst hA; rfl) ?_
    refine loopL (T := fun _ => tabY [5, 29, 36, 39, 40, 41, 42, 44, 45, 46, 49, 50, 51, 54, 55, 56, 64, 65, 66, 67, 68, 69, 72, 73] [8]) (H := fun _ => [kn_clone GFsB]) (tabY_ok _ _) hH follows_mixed hA hX (fun x : Int × List DV => 0 ≤ x.1 ∧ x.1 ≤ n ∧ x.2 = cellsF (crK ps L x.1.toNat))
      (fun x => [(0, .ref 0 0 0), (1, .d (.slc 1 xs)), (20, .d (.sc (.int .i64 n))), (21, .d (.sc (.int .i64 x.1)))]) (fun x => [dB q (.view 3 1 v 0 m) false false 0, fB x.2 v])
      (fun x => n.toNat - x.1.toNat) (0, cs) ?_ ?_ ?_
    · exact ⟨by simp only; omega, by simp only; omega, by rw [hcs]; simp [crK]⟩
    · subst hA hn2; exact told_less (by simp [toldP, getS, A0])
    rintro R ⟨i, c⟩ hR ⟨i0, i1, i2⟩
    cbv
    repeat' first
      | (refine part (fun h => ?_) (fun h => ?_) <;> try cbv)
      | (refine And.intro ?_ ?_)
      | ((with_reducible refine regionY (T := fun _ => tabY [5, 29, 36, 39, 40, 41, 42, 44, 45, 46, 49, 50, 51, 54, 55, 56, 64, 65, 66, 67, 68, 69, 72, 73] []) (H := fun _ => [kn_clone GFsB]) (R := fun _ => []) (A := A) (tabY_ok _ _) hH noR_ok follows_mixed hA hX (by kernel_rfl) ?_) <;> cbv)
    all_goals subst hA hX hW hR hFsB
    all_goals clear hH hB
    all_goals replace hn : n = (L.length : Int) := hn
    all_goals replace hxl : (xs.length : Int) = ps.length := hxl
    all_goals replace i0 : 0 ≤ i := i0
    all_goals replace i1 : i ≤ n := i1
    all_goals replace hn2 : n = (m : Int) := hn2
    all_goals replace i2 : c = cellsF (crK ps L i.toNat) := i2
    all_goals first
      | exact rfl
      | (have h9 : A0.cmp .lss i n = false := by assumption
         simp only [A0, decide_eq_false_iff_not] at h9
         replace h9 : ¬ i < n := h9
         refine RetW.refl ⟨some (v, m, c), .inr ⟨by simp, by simp⟩, (by first | exact Nat.zero_le _ | (simp only [Fr.vr]; omega)), ⟨?_, ?_⟩, rfl, rfl⟩
         · rw [i2]
           show cellsF (crK ps L i.toNat) = cellsF (crF ps L)
           unfold crK
           rw [List.take_of_length_le (by rw [crF_len]; omega), List.drop_eq_nil_of_le (by omega), List.append_nil]
         · show m = (crF ps L).length
           rw [crF_len, hm])
      | (have h9 : A0.cmp .lss i n = true := by assumption
         simp only [A0, decide_eq_true_eq] at h9
         replace h9 : i < n := h9
         have hlt : i.toNat < L.length := by omega
         obtain ⟨f, hf⟩ : ∃ f, L[i.toNat]? = some f := ⟨_, List.getElem?_eq_getElem hlt⟩
         have hfL : okFile f := hD.fs f (List.mem_of_getElem? hf)
         have hk := crK_get ps L i.toNat f hf
         have hkl := (List.getElem?_eq_some_iff.1 hk).1
         have hke := (List.getElem?_eq_some_iff.1 hk).2
         obtain ⟨g0, g1, g2, g3, g4⟩ := file_cell i2 i.toNat hkl
         rw [hke] at g1 g2
         have hbd := hfL.1.len
         have hsl := stay_le f (ps.getD i.toNat 0) hfL
         have hnz := nz_eq f hfL
         have hrow : A0.cmp .lss i (A0.len xs) = true → i < (xs.length : Int) ∧ xs.getD i.toNat [] = [.sc (.int .i64 (ps.getD i.toNat 0))] := by
           intro h8
           simp only [A0, decide_eq_true_eq] at h8
           replace h8 : i < (xs.length : Int) := h8
           refine ⟨h8, ?_⟩
           have h7 : i.toNat < ps.length := by omega
           rw [hxs]
           simp [intsX, List.getD_eq_getElem?_getD, h7]
         have hnil : A0.cmp .lss i (A0.len xs) = false → ps.getD i.toNat 0 = 0 := by
           intro h8
           simp only [A0, decide_eq_false_iff_not] at h8
           replace h8 : ¬ i < (xs.length : Int) := h8
           rw [List.getD_eq_getElem?_getD, List.getElem?_eq_none (by omega)]
           rfl
         have hnx := crK_next ps L i.toNat f hf
         have hlen2 := crK_len ps L i.toNat (by omega)
         generalize ps.getD i.toNat 0 = p at hsl hrow hnil hnx
         generalize crK ps L i.toNat = K at i2 hk hkl hke hnx hlen2
         obtain ⟨s, hs⟩ : ∃ s, s = stayN f p := ⟨_, rfl⟩
         have hq : cr1 f p = ⟨f.name, f.data.take s, s⟩ := by unfold cr1; rw [← hs]
         rw [hq] at hnx
         rw [← hs] at hsl
         have hsd := set_data K i.toNat f hk (f.data.take s)
         have hk1 : (K.set i.toNat ⟨f.name, f.data.take s, f.kept⟩)[i.toNat]? = some ⟨f.name, f.data.take s, f.kept⟩ := by simp [hkl]
         have hsk := set_kept _ i.toNat _ hk1 (s : Int)
         rw [List.set_set] at hsk
         have hkl1 := (List.getElem?_eq_some_iff.1 hk1).1
         have hke1 := (List.getElem?_eq_some_iff.1 hk1).2
         obtain ⟨p0, p1, p2, p3, p4⟩ := file_cell rfl i.toNat hkl1
         rw [hke1] at p1
         rw [← hsd, ← i2] at p1 p4
         rw [← hsd, ← i2, hnx] at hsk
         have hes : ∀ pk, pk = max p 0 → IntKind.wrap .i64 (f.kept + pk.tmod (IntKind.wrap .i64 (IntKind.wrap .i64 ((f.data.length : Int) - f.kept) + 1))) = (s : Int) := fun pk hpk => by rw [hs]; exact stay_eq f p pk hfL hpk
         have htk : ((f.data.take s).length : Int) = s := by rw [List.length_take]; omega
         have ei : IntKind.wrap .i64 (i + 1) = i + 1 := wrap_i64 (by unfold r64; omega)
         have hpl : ∀ κ, pullL κ (cellsF (crK ps L (i.toNat + 1))) = cellsF (crK ps L (i.toNat + 1)) := fun κ => by rw [pullL_eq]; exact pull_rows κ _
         have hone : (f.data.drop (Int.toNat 0)).take ((s : Int).toNat - Int.toNat 0) = f.data.take s := by simp
         first
           | exact (⟨i0, lt_of_lt_of_eq h9 hn2⟩ : 0 ≤ i ∧ i < (m : Int))
           | (simp only [A0, Nat.zero_add, g1]; exact ⟨rfl, by omega, cell_take g1⟩)
           | (simp only [A0, Nat.zero_add, g2]; exact ⟨rfl, by omega, cell_take g2⟩)
           | (simp only [A0, Nat.zero_add, g1, g2]; exact hnz)
           | (simp only [A0, Nat.zero_add]; omega)
           | (have h8 : A0.cmp .lss i (A0.len xs) = true := by assumption
              obtain ⟨h7, hr⟩ := hrow h8
              have hm0 := hes (max p 0) rfl
              first
                | exact (⟨i0, h7⟩ : 0 ≤ i ∧ i < (xs.length : Int))
                | (simp only [A0, hr]; exact ⟨rfl, Nat.le_refl _, rfl⟩)
                | (simp only [A0, Nat.zero_add, g1, g2, hr, List.map_cons, List.map_nil, List.getElem?_cons_zero, if_true, hm0, hone, FsB0, idX, p1, htk, hsk, ei]
                   first
                     | exact hfL.1.take s
                     | exact ⟨by omega, by omega, by omega⟩
                     | exact ⟨rfl, by omega, cell_take p1⟩
                     | omega
                     | (refine ⟨(i + 1, cellsF (crK ps L (i.toNat + 1))), ⟨by simp only; omega, by simp only; omega, by simp only; rw [show (i + 1).toNat = i.toNat + 1 by omega]⟩, by simp only; omega, told_keep [0, 1] rfl ?_ ?_⟩
                        · simp [keepSt, pullBox, pullL, pullD, hpl]
                          try rfl
                        · simp [toldP, getS, pullD]
                          try rfl)
                     | fail))
           | (have h8 : A0.cmp .lss i (A0.len xs) = false := by assumption
              have hm0 := hes 0 (by rw [hnil h8]; rfl)
              simp only [A0, Nat.zero_add, g1, g2, hm0, hone, FsB0, idX, p1, htk, hsk, ei]
              first
                | exact hfL.1.take s
                | exact ⟨by omega, by omega, by omega⟩
                | exact ⟨rfl, by omega, cell_take p1⟩
                | omega
                | (refine ⟨(i + 1, cellsF (crK ps L (i.toNat + 1))), ⟨by simp only; omega, by simp only; omega, by simp only; rw [show (i + 1).toNat = i.toNat + 1 by omega]⟩, by simp only; omega, told_keep [0, 1] rfl ?_ ?_⟩
                   · simp [keepSt, pullBox, pullL, pullD, hpl]
                     try rfl
                   · simp [toldP, getS, pullD]
                     try rfl)
                | fail)
           | fail)
      | fail
end Go.Proofs.Ytmjmbfcfnhnpmaa
namespace Go.Proofs.Ytmjmbfcfnhnpmaa
open Go.RowKit
set_option linter.all false
set_option maxHeartbeats 4000000
set_option maxRecDepth 100000 in
theorem w_new (q : Int) (hq : 0 ≤ q ∧ q ≤ 1048576) : FnD Try.prog 10 [.d (.sc (.int .i64 q))] [] (fun r st' => r = .tup [.ref 0 0 0, .d (.sc (.int .i64 0))] ∧ st' = [dB q (.d (.sc (.slice none 0 0))) false false 0]) := by
  have hH : SoundK Try.prog [] := by exact noK_ok
  have hB : SoundB Try.prog [] := by exact noB_ok
  refine FnD_cbv (T := fun _ => tabY [] []) (H := fun _ => []) (tabY_ok _ _) hH follows_mixed Try.func10 rfl Try.ntmps10 (by simp) fun A X W hA hX hW => ?_
  cbv
  repeat' first
    | (refine part (fun h => ?_) (fun h => ?_) <;> try cbv)
    | (refine And.intro ?_ ?_)
    | (with_reducible refine callB hX hB ?_) <;> cbv
  all_goals subst hA hX hW
  all_goals first
    | exact RetW.refl ⟨rfl, rfl⟩
    | (intro q; exact q)
    | (intro q; simpa [A0] using q)
    | (intro _; trivial)
    | (simp [A0]; done)
    | (exfalso
       have h9 : A0.cond (A0.cmp .lss q 0) true (A0.cmp .gtr q 1048576) = true := by assumption
       simp only [A0, cond_eq_ite] at h9
       by_cases h8 : q < 0
       · omega
       · simp [h8] at h9
         omega)
    | fail
theorem app0 {st : Store} {K : DV → Store → Prop} {q : Int} {o a : Bool} {l : Int} (name : ByteArray) (p : List (List PD)) (b : Nat) {e : Int} {q' l' : Int} {o' a' : Bool} {L' : List FileM} (hb : st[b]? = some (dB q (.d (.sc (.slice none 0 0))) o a l)) (hD : okD 900 ⟨q, [], o, a, l⟩) (hn : name.size ≤ 1048576) (hp : isB p) (hr : (Dk.mk q [] o a l).app name p = (e, ⟨q', L', o', a', l'⟩))
    (hk0 : L' = [] → K (.d (.sc (.int .i64 e))) (st.set b (dB q' (.d (.sc (.slice none 0 0))) o' a' l'))) (hk1 : ∀ v n cs, cs = cellsF L' → n = L'.length → K (.d (.sc (.int .i64 e))) (st.set b (dB q' (.view 3 st.length v 0 n) o' a' l') ++ [fB cs v])) : FnD Try.prog 11 [.ref b 0 0, .d (.sc (.string name)), .d (.slc 1 p)] st K := by
  refine (FnD.dk0 (β := Fr) (G := fun y => y.is L') (fr' := fun y => y) (res := fun _ => (.d (.sc (.int .i64 e)))) (q' := fun _ => q') (l' := fun _ => l') (o' := fun _ => o') (a' := fun _ => a') b (FnD.mono (w_app q none o a l [] name p rfl hD hn hp) ?_) hb rfl (fun _ _ => rfl) ?_ ?_)
  · rintro r st' ⟨fr', _, _, h2, h3, h4⟩
    try rw [hr] at h2
    try rw [hr] at h3
    try rw [hr] at h4
    exact ⟨fr', h2, h3, h4⟩
  · rintro y v n cs hy rfl
    rw [hy.1, cellsF, rowsD]
    exact closedL_data 0 _
  · intro y hy
    refine ⟨?_, ?_⟩
    · rintro rfl
      exact hk0 hy
    · rintro v n cs rfl
      exact hk1 v n cs hy.1 hy.2
theorem app1 {st : Store} {K : DV → Store → Prop} {q : Int} {o a : Bool} {l : Int} (name : ByteArray) (p : List (List PD)) (b c : Nat) {v n : Nat} {cs : List DV} (L : List FileM) {e : Int} {q' l' : Int} {o' a' : Bool} {L' : List FileM} (hb : st[b]? = some (dB q (.view 3 c v 0 n) o a l)) (hc : st[c]? = some (fB cs v)) (hbc : b ≠ c) (hcs : cs = cellsF L) (hnl : n = L.length) (hD : okD 900 ⟨q, L, o, a, l⟩) (hn : name.size ≤ 1048576) (hp : isB p) (hr : (Dk.mk q L o a l).app name p = (e, ⟨q', L', o', a', l'⟩))
    (hk : ∀ v n cs, cs = cellsF L' → n = L'.length → K (.d (.sc (.int .i64 e))) ((st.set b (dB q' (.view 3 c v 0 n) o' a' l')).set c (fB cs v))) : FnD Try.prog 11 [.ref b 0 0, .d (.sc (.string name)), .d (.slc 1 p)] st K := by
  refine (FnD.dk (β := Nat × Nat × List DV) (G := fun y => y.2.2 = cellsF L' ∧ y.2.1 = L'.length) (res := fun _ => (.d (.sc (.int .i64 e)))) (q' := fun _ => q') (l' := fun _ => l') (o' := fun _ => o') (a' := fun _ => a') (v' := fun y => y.1) (n' := fun y => y.2.1) (cs' := fun y => y.2.2) b c (FnD.mono (w_app q (some (v, n, cs)) o a l L name p ⟨hcs, hnl⟩ hD hn hp) ?_) hb hc hbc rfl (fun _ _ => rfl) ?_ ?_ ?_)
  · rintro r st' ⟨fr', h1, _, h2, h3, h4⟩
    try rw [hr] at h2
    try rw [hr] at h3
    try rw [hr] at h4
    rcases h1 with ⟨h1, _⟩ | ⟨_, h1⟩
    · cases h1
    · rcases fr' with _ | ⟨v', n', cs'⟩
      · exact absurd rfl h1
      · exact ⟨(v', n', cs'), h2, h3, h4⟩
  · rw [hcs, cellsF, rowsD]
    exact closedL_data 0 _
  · rintro ⟨v, n, cs⟩ hy
    simp only at hy
    rw [hy.1, cellsF, rowsD]
    exact closedL_data 0 _
  · rintro ⟨v, n, cs⟩ hy
    exact hk v n cs hy.1 hy.2
theorem sync1 {st : Store} {K : DV → Store → Prop} {q : Int} {o a : Bool} {l : Int} (name : ByteArray) (b c : Nat) {v n : Nat} {cs : List DV} (L : List FileM) {e : Int} {q' l' : Int} {o' a' : Bool} {L' : List FileM} (hb : st[b]? = some (dB q (.view 3 c v 0 n) o a l)) (hc : st[c]? = some (fB cs v)) (hbc : b ≠ c) (hcs : cs = cellsF L) (hnl : n = L.length) (hD : okD 900 ⟨q, L, o, a, l⟩) (hr : (Dk.mk q L o a l).sync name = (e, ⟨q', L', o', a', l'⟩))
    (hk : ∀ v n cs, cs = cellsF L' → n = L'.length → K (.d (.sc (.int .i64 e))) ((st.set b (dB q' (.view 3 c v 0 n) o' a' l')).set c (fB cs v))) : FnD Try.prog 12 [.ref b 0 0, .d (.sc (.string name))] st K := by
  refine (FnD.dk (β := Nat × Nat × List DV) (G := fun y => y.2.2 = cellsF L' ∧ y.2.1 = L'.length) (res := fun _ => (.d (.sc (.int .i64 e)))) (q' := fun _ => q') (l' := fun _ => l') (o' := fun _ => o') (a' := fun _ => a') (v' := fun y => y.1) (n' := fun y => y.2.1) (cs' := fun y => y.2.2) b c (FnD.mono (w_sync q (some (v, n, cs)) o a l L name ⟨hcs, hnl⟩ hD) ?_) hb hc hbc rfl (fun _ _ => rfl) ?_ ?_ ?_)
  · rintro r st' ⟨fr', h1, _, h2, h3, h4⟩
    try rw [hr] at h2
    try rw [hr] at h3
    try rw [hr] at h4
    rcases h1 with ⟨h1, _⟩ | ⟨_, h1⟩
    · cases h1
    · rcases fr' with _ | ⟨v', n', cs'⟩
      · exact absurd rfl h1
      · exact ⟨(v', n', cs'), h2, h3, h4⟩
  · rw [hcs, cellsF, rowsD]
    exact closedL_data 0 _
  · rintro ⟨v, n, cs⟩ hy
    simp only at hy
    rw [hy.1, cellsF, rowsD]
    exact closedL_data 0 _
  · rintro ⟨v, n, cs⟩ hy
    exact hk v n cs hy.1 hy.2
theorem crash1 {st : Store} {K : DV → Store → Prop} {q : Int} {o a : Bool} {l : Int} (ps : List Int) (b c : Nat) {v n : Nat} {cs : List DV} (L : List FileM) {e : Int} {q' l' : Int} {o' a' : Bool} {L' : List FileM} (hb : st[b]? = some (dB q (.view 3 c v 0 n) o a l)) (hc : st[c]? = some (fB cs v)) (hbc : b ≠ c) (hcs : cs = cellsF L) (hnl : n = L.length) (hD : okD 900 ⟨q, L, o, a, l⟩) (hp : ps.length ≤ 4194304) (hq : ∀ p ∈ ps, r64 p) (hr : (Dk.mk q L o a l).crash ps = ⟨q', L', o', a', l'⟩)
    (hk : ∀ v n cs, cs = cellsF L' → n = L'.length → K (.tup []) ((st.set b (dB q' (.view 3 c v 0 n) o' a' l')).set c (fB cs v))) : FnD Try.prog 13 [.ref b 0 0, .d (.slc 1 (intsX ps))] st K := by
  refine (FnD.dk (β := Nat × Nat × List DV) (G := fun y => y.2.2 = cellsF L' ∧ y.2.1 = L'.length) (res := fun _ => (.tup [])) (q' := fun _ => q') (l' := fun _ => l') (o' := fun _ => o') (a' := fun _ => a') (v' := fun y => y.1) (n' := fun y => y.2.1) (cs' := fun y => y.2.2) b c (FnD.mono (w_crash q (some (v, n, cs)) o a l L ps ⟨hcs, hnl⟩ hD hp hq) ?_) hb hc hbc rfl (fun _ _ => rfl) ?_ ?_ ?_)
  · rintro r st' ⟨fr', h1, _, h2, h3, h4⟩
    try rw [hr] at h2
    try rw [hr] at h3
    try rw [hr] at h4
    rcases h1 with ⟨h1, _⟩ | ⟨_, h1⟩
    · cases h1
    · rcases fr' with _ | ⟨v', n', cs'⟩
      · exact absurd rfl h1
      · exact ⟨(v', n', cs'), h2, h3, h4⟩
  · rw [hcs, cellsF, rowsD]
    exact closedL_data 0 _
  · rintro ⟨v, n, cs⟩ hy
    simp only at hy
    rw [hy.1, cellsF, rowsD]
    exact closedL_data 0 _
  · rintro ⟨v, n, cs⟩ hy
    exact hk v n cs hy.1 hy.2
def readsX (cs : List DV) (name : ByteArray) : List (List PD) := (Dk.mk 0 (rowF cs) false false 0).reads name
structure FsL where
  rd : List DV → ByteArray → List (List PD)
  find : List DV → ByteArray → Int × Bool
  ge : Int → Bool
  mx : Int → Int
  isF : List DV → Nat → Prop
  same : Nat → Nat → Prop
  okD : List DV → Int → Bool → Bool → Int → Prop
  okq : Int → Prop
def FsL0 : FsL where
  rd := readsX
  find := findX
  ge := (fun k => decide (0 ≤ k))
  mx := (fun k => max k 0)
  isF := isF
  same := (· = ·)
  okD := (fun cs q o a l => okD 900 ⟨q, rowF cs, o, a, l⟩)
  okq := (fun q => 0 ≤ q ∧ q ≤ 1048576)
def kb_read (F : FsL) : FuncId × (List DV → Store → SV) := (14, fun args st => match args with
  | [.ref b ver o0, .d (.sc (.string name))] => (match st[b]? with
    | some ⟨t, [.d (.sc (.int .i64 q)), .d (.sc (.slice none 0 0)), .d (.sc (.bool o)), .d (.sc (.bool a)), .d (.sc (.int .i64 l))], false, bv, true⟩ => (bif (ver == 0) && (o0 == 0) && (bv == 0) && (t == 59) then some ([F.okD [] q o a l], .tup [.d (.slc 1 (F.rd [] name)), .d (.sc (.bool (F.find [] name).2))], st.set b (dB q (.d (.sc (.slice none 0 0))) o a l)) else none)
    | some ⟨t, [.d (.sc (.int .i64 q)), .view sz c v off n, .d (.sc (.bool o)), .d (.sc (.bool a)), .d (.sc (.int .i64 l))], false, bv, true⟩ => (match st[c]? with
      | some ⟨t2, cs, true, v2, true⟩ => (bif (ver == 0) && (o0 == 0) && (bv == 0) && (t == 59) && (sz == 3) && (off == 0) && (t2 == 65) && !(b == c) then some ([F.same v2 v, F.isF cs n, F.okD cs q o a l], .tup [.d (.slc 1 (F.rd cs name)), .d (.sc (.bool (F.find cs name).2))], (st.set b (dB q (.view 3 c v 0 n) o a l)).set c (fB cs v)) else none)
      | _ => none)
    | _ => none)
  | _ => none)
theorem okb_read (args : List DV) (st : Store) (cs : List Prop) (r : DV) (st' : Store) (h : (kb_read FsL0).2 args st = some (cs, r, st')) (hc : allP cs True) (K : DV → Store → Prop) (hk : K r st') : FnD Try.prog 14 args st K := by
  unfold kb_read at h
  simp only at h
  split at h
  · split at h
    · rename_i hb
      simp only [cond_eq_ite, Bool.and_eq_true, beq_iff_eq, Option.ite_none_right_eq_some] at h
      obtain ⟨⟨⟨⟨rfl, rfl⟩, rfl⟩, rfl⟩, h⟩ := h
      cases h
      refine FnD.dk0 (β := Unit) (G := fun _ => True) (fr' := fun _ => none) _ (FnD.mono (w_read _ none _ _ _ [] _ rfl hc.1) fun r st' h => ⟨(), trivial, h.1, h.2⟩) hb rfl (fun _ _ => rfl) (fun _ _ _ _ _ h => by cases h) fun _ _ => ⟨fun _ => hk, fun _ _ _ h => by cases h⟩
    · rename_i hb
      split at h
      · rename_i hb2
        simp only [cond_eq_ite, Bool.and_eq_true, beq_iff_eq, Option.ite_none_right_eq_some, Bool.not_eq_true', beq_eq_false_iff_ne] at h
        obtain ⟨⟨⟨⟨⟨⟨⟨⟨rfl, rfl⟩, rfl⟩, rfl⟩, rfl⟩, rfl⟩, rfl⟩, hbc⟩, h⟩ := h
        cases h
        have hc1 : _ = _ := hc.1
        subst hc1
        have hc2 : isF _ _ := hc.2.1
        refine FnD.dk (β := Unit) (G := fun _ => True) _ _ (FnD.mono (w_read _ (some _) _ _ _ _ _ ⟨hc2.1, hc2.2.1⟩ hc.2.2.1) fun r st' h => ⟨(), trivial, h.1, h.2⟩) hb hb2 hbc rfl (fun _ _ => rfl) hc2.closed (fun _ _ => hc2.closed) fun _ _ => hk
      · cases h
    · cases h
  · cases h
def kb_arm (F : FsL) : FuncId × (List DV → Store → SV) := (15, fun args st => match args with
  | [.ref b ver o0, .d (.sc (.int .i64 k))] => (match st[b]? with
    | some ⟨t, [.d (.sc (.int .i64 q)), .d (.sc (.slice none 0 0)), .d (.sc (.bool o)), .d (.sc (.bool a)), .d (.sc (.int .i64 l))], false, bv, true⟩ => (bif (ver == 0) && (o0 == 0) && (bv == 0) && (t == 59) then some ([], .tup [], st.set b (dB q (.d (.sc (.slice none 0 0))) o (F.ge k) (F.mx k))) else none)
    | some ⟨t, [.d (.sc (.int .i64 q)), .view sz c v off n, .d (.sc (.bool o)), .d (.sc (.bool a)), .d (.sc (.int .i64 l))], false, bv, true⟩ => (match st[c]? with
      | some ⟨t2, cs, true, v2, true⟩ => (bif (ver == 0) && (o0 == 0) && (bv == 0) && (t == 59) && (sz == 3) && (off == 0) && (t2 == 65) && !(b == c) then some ([F.same v2 v, F.isF cs n], .tup [], (st.set b (dB q (.view 3 c v 0 n) o (F.ge k) (F.mx k))).set c (fB cs v)) else none)
      | _ => none)
    | _ => none)
  | _ => none)
theorem okb_arm (args : List DV) (st : Store) (cs : List Prop) (r : DV) (st' : Store) (h : (kb_arm FsL0).2 args st = some (cs, r, st')) (hc : allP cs True) (K : DV → Store → Prop) (hk : K r st') : FnD Try.prog 15 args st K := by
  unfold kb_arm at h
  simp only at h
  split at h
  · split at h
    · rename_i hb
      simp only [cond_eq_ite, Bool.and_eq_true, beq_iff_eq, Option.ite_none_right_eq_some] at h
      obtain ⟨⟨⟨⟨rfl, rfl⟩, rfl⟩, rfl⟩, h⟩ := h
      cases h
      refine FnD.dk0 (β := Unit) (G := fun _ => True) (fr' := fun _ => none) _ (FnD.mono (w_arm _ none _ _ _ _) fun r st' h => ⟨(), trivial, h.1, h.2⟩) hb rfl (fun _ _ => rfl) (fun _ _ _ _ _ h => by cases h) fun _ _ => ⟨fun _ => hk, fun _ _ _ h => by cases h⟩
    · rename_i hb
      split at h
      · rename_i hb2
        simp only [cond_eq_ite, Bool.and_eq_true, beq_iff_eq, Option.ite_none_right_eq_some, Bool.not_eq_true', beq_eq_false_iff_ne] at h
        obtain ⟨⟨⟨⟨⟨⟨⟨⟨rfl, rfl⟩, rfl⟩, rfl⟩, rfl⟩, rfl⟩, rfl⟩, hbc⟩, h⟩ := h
        cases h
        have hc1 : _ = _ := hc.1
        subst hc1
        have hc2 : isF _ _ := hc.2.1
        refine FnD.dk (β := Unit) (G := fun _ => True) _ _ (FnD.mono (w_arm _ (some _) _ _ _ _) fun r st' h => ⟨(), trivial, h.1, h.2⟩) hb hb2 hbc rfl (fun _ _ => rfl) hc2.closed (fun _ _ => hc2.closed) fun _ _ => hk
      · cases h
    · cases h
  · cases h
def kb_new (F : FsL) : FuncId × (List DV → Store → SV) := (10, fun args st => match args with
  | [.d (.sc (.int .i64 q))] => some ([F.okq q], .tup [.ref st.length 0 0, .d (.sc (.int .i64 0))], st ++ [dB q (.d (.sc (.slice none 0 0))) false false 0])
  | _ => none)
theorem okb_new (args : List DV) (st : Store) (cs : List Prop) (r : DV) (st' : Store) (h : (kb_new FsL0).2 args st = some (cs, r, st')) (hc : allP cs True) (K : DV → Store → Prop) (hk : K r st') : FnD Try.prog 10 args st K := by
  unfold kb_new at h
  simp only at h
  split at h
  · cases h
    rename_i q
    have hq : 0 ≤ q ∧ q ≤ 1048576 := hc.1
    refine FnD.at (w_new q hq) [] (by simp [closedL, closedD]) (by simp) rfl ?_
    rintro r0 stc ⟨rfl, rfl⟩ _
    have e : mergeL st [] ([dB q (.d (.sc (.slice none 0 0))) false false 0].map (Box.ren (place [] st.length))) = st ++ [dB q (.d (.sc (.slice none 0 0))) false false 0] := by
      rw [List.map_cons, List.map_nil, dN_ren, mergeL]
      congr 1
      apply List.ext_getElem?
      intro i
      simp [List.idxOf?]
    rw [e]
    simpa [renD, renL, place] using hk
  · cases h
end Go.Proofs.Ytmjmbfcfnhnpmaa
namespace Go.Proofs.Ytmjmbfcfnhnpmaa
open Go.RowKit
set_option linter.all false
def within3 (n lo hi : Int) : Int := lo + n % (hi - lo + 1)
def span3 (lo hi : Int) : Prop := lo ≤ hi ∧ -1099511627776 ≤ lo ∧ hi ≤ 1099511627776
noncomputable def sameB (xs ys : List (List PD)) : Bool := @decide (xs = ys) (Classical.propDecidable _)
theorem rowB {bs : List UInt8} {xs : List (List PD)} (hxs : xs = bytesP bs) {i : Int} (h0 : 0 ≤ i) (h1 : i < bs.length) : xs.getD i.toNat [] = [.sc (.int .u8 ((bs[i.toNat]'(by omega)).toNat : Int))] := by
  subst hxs
  have : i.toNat < bs.length := by omega
  simp [bytesP, List.getD_eq_getElem?_getD, this]
structure FsQ where
  same : List (List PD) → List (List PD) → Bool
  within3 : Int → Int → Int → Int
  isB : List (List PD) → Prop
  r64 : Int → Prop
  span3 : Int → Int → Prop
noncomputable def FsQ0 : FsQ where
  same := sameB
  within3 := within3
  isB := isB
  r64 := r64
  span3 := span3
set_option maxRecDepth 100000 in
theorem v_same (xs : List (List PD)) (ys : List (List PD)) (hp0 : FsQ0.isB xs) (hp1 : FsQ0.isB ys) : FnV Try.prog 16 [.d (.slc 1 xs), .d (.slc 1 ys)] (boolD ((sameB xs ys))) := by
  obtain ⟨bs, hxs, hb⟩ := hp0
  obtain ⟨ds, hys, hd⟩ := hp1
  have hlx : xs.length = bs.length := by rw [hxs]; exact bytesP_length bs
  have hly : ys.length = ds.length := by rw [hys]; exact bytesP_length ds
  have heq : xs = ys ↔ bs = ds := by rw [hxs, hys]; exact bytesP_inj
  refine FnD_cbv (T := fun _ => tabY [19, 23] []) (H := fun _ => []) (tabY_ok _ _) noK_ok follows_mixed Try.func16 rfl Try.ntmps16 (by simp) fun A X W hA hX hW => ?_
  cbv
  refine part (fun h => ?_) (fun h => ?_)
  · cbv
    subst hA hX hW
    simp only [A0] at h
    refine ret_v ?_ rfl
    have hne : ¬ xs = ys := by
      intro e
      subst e
      simp at h
    simp [boolD, sameB, hne]
  · cbv
    refine loopL (T := fun _ => tabY [19, 23] []) (H := fun _ => []) (tabY_ok _ _) noK_ok follows_mixed hA hX (fun i : Int => 0 ≤ i ∧ i ≤ bs.length ∧ bs.take i.toNat = ds.take i.toNat)
      (fun i => [(0, .d (.slc 1 xs)), (1, .d (.slc 1 ys)), (5, .d (.sc (.int .i64 i)))]) (fun _ => [])
      (fun i => (bs.length : Int).toNat - i.toNat) 0 ?_ ?_ ?_
    · exact ⟨by omega, by omega, by simp⟩
    · exact told_less (by simp [toldP, getS])
    rintro R i hR ⟨i0, i1, i2⟩
    cbv
    have hlen : bs.length = ds.length := by
      subst hA
      simp only [A0] at h
      simp only [Bool.not_eq_false', decide_eq_true_eq] at h
      omega
    refine part (fun h2 => ?_) (fun h2 => ?_)
    · cbv
      have hi : i < bs.length := by
        subst hA
        simp only [A0, decide_eq_true_eq] at h2
        omega
      have hj : i.toNat < bs.length := by omega
      have hj2 : i.toNat < ds.length := by omega
      have hrx : xs.getD i.toNat [] = [.sc (.int .u8 ((bs[i.toNat]'hj).toNat : Int))] := rowB hxs i0 hi
      have hry : ys.getD i.toNat [] = [.sc (.int .u8 ((ds[i.toNat]'hj2).toNat : Int))] := rowB hys i0 (by omega)
      refine And.intro ?_ (And.intro ?_ (And.intro ?_ (And.intro ?_ (And.intro ?_ ?_))))
      · subst hA; show Region.lexB _ _ = true; kernel_rfl
      · subst hA; simp only [A0]; omega
      · subst hA; simp only [A0, hrx]; simp
      · subst hA; simp only [A0]; omega
      · subst hA; simp only [A0, hry]; simp
      · have key : A.gi (A.lift (A.row xs i)) 0 = ((bs[i.toNat]'hj).toNat : Int) ∧ A.gi (A.lift (A.row ys i)) 0 = ((ds[i.toNat]'hj2).toNat : Int) := by
          subst hA
          simp only [A0, hrx, hry]
          simp
        refine part (fun h3 => ?_) (fun h3 => ?_)
        · cbv
          subst hA hX hW hR
          have h4 : A0.cmp .neq (A0.gi (A0.lift (A0.row xs i)) 0) (A0.gi (A0.lift (A0.row ys i)) 0) = true := h3
          rw [key.1, key.2] at h4
          refine ret_v ?_ rfl
          have hne : ¬ xs = ys := by
            intro e
            have e2 := heq.1 e
            subst e2
            simp [A0] at h4
          simp [boolD, sameB, hne]
        · cbv
          subst hA hX hW hR
          have h4 : A0.cmp .neq (A0.gi (A0.lift (A0.row xs i)) 0) (A0.gi (A0.lift (A0.row ys i)) 0) = false := h3
          rw [key.1, key.2] at h4
          have he : bs[i.toNat]'hj = ds[i.toNat]'hj2 := by
            have h5 : ((bs[i.toNat]'hj).toNat : Int) = ((ds[i.toNat]'hj2).toNat : Int) := by
              simp only [A0, Bool.not_eq_false', decide_eq_true_eq] at h4
              exact h4
            exact UInt8.toNat_inj.1 (Int.ofNat.inj h5)
          have hw : IntKind.wrap .i64 (i + 1) = i + 1 := wrap_i64 (by unfold r64; omega)
          refine ⟨i + 1, ⟨by omega, by omega, ?_⟩, ?_, told_less ?_⟩
          · rw [show (i + 1).toNat = i.toNat + 1 by omega, List.take_succ_eq_append_getElem hj, List.take_succ_eq_append_getElem hj2, i2, he]
          · simp only [Int.toNat_natCast]
            omega
          · simp [toldP, getS, A0, hw]
    · cbv
      subst hA hX hW hR
      simp only [A0, decide_eq_false_iff_not] at h2
      replace h2 : ¬ i < (xs.length : Int) := h2
      replace i1 : i ≤ (bs.length : Int) := i1
      refine ret_v ?_ rfl
      have hil : i.toNat = bs.length := by omega
      rw [hil, List.take_length] at i2
      have e : xs = ys := heq.2 (by rw [i2, hlen, List.take_length])
      simp [boolD, sameB, e]
def kn_same (F : FsQ) : FuncId × (List DV → RV) := (16, fun args => match args with
  | [.d (.slc 1 xs), .d (.slc 1 ys)] => some ([F.isB xs, F.isB ys], boolD ((F.same xs ys)))
  | [.d (.sc (.slice none 0 0)), .d (.slc 1 ys)] => some ([F.isB [], F.isB ys], boolD ((F.same [] ys)))
  | [.d (.slc 1 xs), .d (.sc (.slice none 0 0))] => some ([F.isB xs, F.isB []], boolD ((F.same xs [])))
  | [.d (.sc (.slice none 0 0)), .d (.sc (.slice none 0 0))] => some ([F.isB [], F.isB []], boolD ((F.same [] [])))
  | _ => none)
theorem ok_same (args : List DV) (cs : List Prop) (r : DV) (h : (kn_same FsQ0).2 args = some (cs, r)) (hc : allP cs True) : FnV Try.prog 16 args r ∧ closedL 0 args = true := by
  unfold kn_same at h
  simp only at h
  split at h
  · cases h; exact ⟨v_same _ _ hc.1 hc.2.1, rfl⟩
  · cases h; exact ⟨FnP.nils (v_same [] _ hc.1 hc.2.1) ⟨.inr ⟨rfl, _, rfl⟩, ⟨.inl rfl, trivial⟩⟩, rfl⟩
  · cases h; exact ⟨FnP.nils (v_same _ [] hc.1 hc.2.1) ⟨.inl rfl, ⟨.inr ⟨rfl, _, rfl⟩, trivial⟩⟩, rfl⟩
  · cases h; exact ⟨FnP.nils (v_same [] [] hc.1 hc.2.1) ⟨.inr ⟨rfl, _, rfl⟩, ⟨.inr ⟨rfl, _, rfl⟩, trivial⟩⟩, rfl⟩
  · cases h
theorem sameB_eq (a b : List (List PD)) : sameB a b = true ↔ a = b := by simp [sameB]
end Go.Proofs.Ytmjmbfcfnhnpmaa
