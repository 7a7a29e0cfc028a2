/- The document's disk: Rename. No condition. -/
import Derived.Test.YtmjmbfcfnhnpmaaPC
namespace Go.Proofs.Ytmjmbfcfnhnpmaa
open Go.RowKit
set_option linter.all false
set_option maxHeartbeats 4000000
theorem out_ok {D : Dk} {nm : ByteArray} (h : okD 900 D) (hs : srtF D.L) (h0 : D.o = false) (h1 : ¬ atL nm D.L 0 < 0) (h3 : powE D.a D.l = 0) : okD 900 ⟨D.q, outFl D.L (D.at nm), powO D.o D.a D.l, D.a, powL D.a D.l⟩ := by
  have e : (D.rem nm).2 = ⟨D.q, outFl D.L (D.at nm), powO D.o D.a D.l, D.a, powL D.a D.l⟩ := by
    unfold Dk.rem
    rw [kn_ok hs h0 h1, pw_ok h3]
  rw [← e]
  exact okD.rem h nm
theorem ren_off {D : Dk} {nm to : ByteArray} (h : D.o = true) : D.ren nm to = (10, D) := by
  unfold Dk.ren
  rw [if_neg (by rw [h]; simp)]
  exact kn_off h
theorem ren_bad {D : Dk} {nm to : ByteArray} (h : D.o = false) (h1 : mayF to = false) : D.ren nm to = (11, D) := by
  unfold Dk.ren
  rw [if_pos ⟨h, h1⟩]
theorem ren_nof {D : Dk} {nm to : ByteArray} (hs : srtF D.L) (h : D.o = false) (h1 : mayF to = true) (h2 : atL nm D.L 0 < 0) : D.ren nm to = (8, D) := by
  unfold Dk.ren
  rw [if_neg (by rw [h1]; simp)]
  exact kn_none hs h h2
theorem ren_pow {D : Dk} {nm to : ByteArray} (hs : srtF D.L) (h : D.o = false) (h1 : mayF to = true) (h2 : ¬ atL nm D.L 0 < 0) (h3 : ¬ powE D.a D.l = 0) : D.ren nm to = (10, ⟨D.q, D.L, powO D.o D.a D.l, D.a, powL D.a D.l⟩) := by
  unfold Dk.ren
  rw [if_neg (by rw [h1]; simp), kn_ok hs h h2]
  exact pw_no h3
theorem ren_do {D : Dk} {nm to : ByteArray} (hs : srtF D.L) (h : D.o = false) (h1 : mayF to = true) (h2 : ¬ atL nm D.L 0 < 0) (h3 : powE D.a D.l = 0) : D.ren nm to = (0, ⟨D.q, renF D.L (D.at nm) to, powO D.o D.a D.l, D.a, powL D.a D.l⟩) := by
  unfold Dk.ren
  rw [if_neg (by rw [h1]; simp), kn_ok hs h h2]
  exact pw_ok h3
set_option maxRecDepth 100000 in
theorem w_rren (q : Int) (fr : Fr) (o a : Bool) (lf l : Int) (L : List FileM) (name : ByteArray) (to : ByteArray) (hfr : fr.is L) (hD : okD 900 ⟨q, L, o, a, lf⟩) (hs : srtF L) (hl : l = rlf a lf) (hn : to.size ≤ 1048576) : FnD Try.prog 41 [.ref 0 0 0, .d (.sc (.string name)), .d (.sc (.string to))] (rS q fr o a l) (fun r st' => rkR fr ((Dk.mk q L o a lf).ren name to).2 (.d (.sc (.int .i64 ((Dk.mk q L o a lf).ren name to).1))) r st') := by
  rcases fr with _ | ⟨v, m, cs⟩
  · have hl0 : L = [] := hfr
    have hlk := rlf_ok (a := a) hD.l
    rw [← hl] at hlk
    have htot : totF L ≤ 1048576 := by have := hD.tot; have := hD.q; simp only at *; omega
    have htn := totF_nonneg L
    have hLl : L.length ≤ 900 := hD.len
    have hfs := hD.fs
    have hD1 : 0 ≤ lf := hD.l.1
    have hpw := rpB_eq (a := a) hD1
    rw [← hl] at hpw
    have hpo := rpO_eq (o := o) (a := a) hD1
    rw [← hl] at hpo
    have hpL := rpL_eq (a := a) hD1
    rw [← hl] at hpL
    have hat : atL name L 0 = -1 := by rw [hl0]; rfl
    obtain ⟨GFsRn, hFsRn⟩ : ∃ F, F = FsRn0 := ⟨_, rfl⟩
    obtain ⟨GFsRd, hFsRd⟩ : ∃ F, F = FsRd0 := ⟨_, rfl⟩
    have hH : SoundK Try.prog [kn_rname GFsRn] := by subst hFsRn hFsRd; exact orK_ok ok_rname noK_ok
    have hB : SoundB Try.prog [kb_rat GFsRd, kb_rpow GFsRd, kb_rout GFsRd, kb_rplace GFsRd] := by subst hFsRn hFsRd; exact orB_ok okb_rat (orB_ok okb_rpow (orB_ok okb_rout (orB_ok okb_rplace noB_ok)))
    refine FnD_cbv (T := fun _ => tabY [34, 56, 57, 58, 59] [13]) (H := fun _ => [kn_rname GFsRn]) (tabY_ok _ _) hH follows_mixed Try.func41 rfl Try.ntmps41 (by simp) fun A X W hA hX hW => ?_
    cbv
    repeat' first
      | (refine part (fun h => ?_) (fun h => ?_) <;> try cbv)
      | ((with_reducible refine regionU (id := 13) [] [] [] (T := fun _ => tabY [34, 56, 57, 58, 59] []) (H := fun _ => [kn_rname GFsRn]) (B := fun _ => []) (R := fun _ => []) (A := A) (tabY_ok _ _) hH noB_ok noR_ok follows_mixed hA hX (by kernel_rfl) (by kernel_rfl) (by kernel_rfl) (by kernel_rfl) (by kernel_rfl) ?_) <;> cbv)
      | (refine And.intro ?_ ?_)
      | ((with_reducible refine callB hX hB ?_) <;> cbv)
    all_goals subst hA hX hW hFsRn hFsRd
    all_goals clear hH hB
    all_goals try simp only [A0, nc, FsRn0, FsRd0, Nat.zero_add, Nat.add_zero, List.nil_append, List.drop_zero] at *
    all_goals try simp only [hpw, hpo, hpL, hat] at *
    all_goals first
      | exact rfl
      | exact trivial
      | exact hlk
      | exact hisF
      | assumption
      | (exfalso
         have h9 : decide ((-1 : Int) < 0) = false := by assumption
         exact absurd h9 (by decide))
      | exact hn
      | (have h0 : o = true := by assumption
         rw [ren_off (D := ⟨q, L, o, a, lf⟩) h0]
         exact RetW.refl (rk_n hl0 rfl hl))
      | (have h0 : o = false := by assumption
         have h2 : mayF to = false := by simpa using (show (!mayF to) = true by assumption)
         rw [ren_bad (D := ⟨q, L, o, a, lf⟩) h0 h2]
         exact RetW.refl (rk_n hl0 rfl hl))
      | (have h0 : o = false := by assumption
         have h1 : atL name L 0 < 0 := by first | exact of_decide_eq_true (by assumption) | (rw [hl0]; exact (by decide : (-1 : Int) < 0))
         have h2 : mayF to = true := by simpa using (show (!mayF to) = false by assumption)
         rw [ren_nof (D := ⟨q, L, o, a, lf⟩) hs h0 h2 h1]
         exact RetW.refl (rk_n hl0 rfl hl))
      | (have h0 : o = false := by assumption
         have h1 : ¬ atL name L 0 < 0 := of_decide_eq_false (by assumption)
         have h2 : mayF to = true := by simpa using (show (!mayF to) = false by assumption)
         have h3 : ¬ powE a lf = 0 := by simpa using (show (!decide (powE a lf = 0)) = true by assumption)
         rw [ren_pow (D := ⟨q, L, o, a, lf⟩) hs h0 h2 h1 h3]
         exact RetW.refl (rk_n hl0 rfl rfl))
      | (have h0 : o = true := by assumption
         rw [show (Dk.mk q L o a lf).ren name to = (10, ⟨q, L, o, a, lf⟩) from by unfold Dk.ren; exact kn_off h0]
         exact RetW.refl (rk_n hl0 rfl hl))
      | (have h0 : o = false := by assumption
         have h1 : atL name L 0 < 0 := by rw [hl0]; exact (by decide : (-1 : Int) < 0)
         rw [show (Dk.mk q L o a lf).ren name to = (8, ⟨q, L, o, a, lf⟩) from by unfold Dk.ren;  exact kn_none hs h0 h1]
         exact RetW.refl (rk_n hl0 rfl hl))
      | (have h0 : o = false := by assumption
         have h1 : ¬ atL name L 0 < 0 := of_decide_eq_false (by assumption)
         have h3 : ¬ powE a lf = 0 := by simpa using (show (!decide (powE a lf = 0)) = true by assumption)
         rw [show (Dk.mk q L o a lf).ren name to = (10, ⟨q, L, powO o a lf, a, powL a lf⟩) from by unfold Dk.ren;  rw [kn_ok hs h0 h1]; exact pw_no h3]
         exact RetW.refl (rk_n hl0 rfl rfl))
      | fail
  · obtain ⟨hcs, hm⟩ := hfr
    have hisF : isF cs m := by rw [hcs, hm]; exact isF.mk (hD.okL (by decide))
    have hrow : rowF cs = L := by rw [hcs]; exact rowF_cells L
    have hpull : ∀ κ, pullL κ cs = cs := fun κ => by rw [hcs, pullL_eq]; exact pull_rows κ _
    have hlc : cs.length = m * 3 := by rw [hcs, cellsF_len, hm]
    have hlk := rlf_ok (a := a) hD.l
    rw [← hl] at hlk
    have htot : totF L ≤ 1048576 := by have := hD.tot; have := hD.q; simp only at *; omega
    have htn := totF_nonneg L
    have hLl : L.length ≤ 900 := hD.len
    have hfs := hD.fs
    have hD1 : 0 ≤ lf := hD.l.1
    have hpw := rpB_eq (a := a) hD1
    rw [← hl] at hpw
    have hpo := rpO_eq (o := o) (a := a) hD1
    rw [← hl] at hpo
    have hpL := rpL_eq (a := a) hD1
    rw [← hl] at hpL
    have hat : atX cs name = atL name L 0 := by rw [atX, hrow]
    obtain ⟨k, f, hk⟩ := at_facts (name := name) (L := L) hs hcs
    obtain ⟨GFsRn, hFsRn⟩ : ∃ F, F = FsRn0 := ⟨_, rfl⟩
    obtain ⟨GFsRd, hFsRd⟩ : ∃ F, F = FsRd0 := ⟨_, rfl⟩
    have hH : SoundK Try.prog [kn_rname GFsRn] := by subst hFsRn hFsRd; exact orK_ok ok_rname noK_ok
    have hB : SoundB Try.prog [kb_rat GFsRd, kb_rpow GFsRd, kb_rout GFsRd, kb_rplace GFsRd] := by subst hFsRn hFsRd; exact orB_ok okb_rat (orB_ok okb_rpow (orB_ok okb_rout (orB_ok okb_rplace noB_ok)))
    refine FnD_cbv (T := fun _ => tabY [34, 56, 57, 58, 59] [13]) (H := fun _ => [kn_rname GFsRn]) (tabY_ok _ _) hH follows_mixed Try.func41 rfl Try.ntmps41 (by simp) fun A X W hA hX hW => ?_
    cbv
    repeat' first
      | (refine part (fun h => ?_) (fun h => ?_) <;> try cbv)
      | ((with_reducible refine regionU (id := 13) [] [] [] (T := fun _ => tabY [34, 56, 57, 58, 59] []) (H := fun _ => [kn_rname GFsRn]) (B := fun _ => []) (R := fun _ => []) (A := A) (tabY_ok _ _) hH noB_ok noR_ok follows_mixed hA hX (by kernel_rfl) (by kernel_rfl) (by kernel_rfl) (by kernel_rfl) (by kernel_rfl) ?_) <;> cbv)
      | (refine And.intro ?_ ?_)
      | ((with_reducible refine callB hX hB ?_) <;> cbv)
    all_goals subst hA hX hW hFsRn hFsRd
    all_goals clear hH hB
    all_goals try simp only [A0, nc, FsRn0, FsRd0, Nat.zero_add, Nat.add_zero, List.nil_append, List.drop_zero] at *
    all_goals try simp only [hpw, hpo, hpL, hat] at *
    all_goals first
      | exact rfl
      | exact trivial
      | exact hlk
      | exact hisF
      | assumption
      | (have h0 : ¬ atL name L 0 < 0 := of_decide_eq_false (by assumption)
         obtain ⟨e1, e2, e3, e4, e5, e6, e7, e8⟩ := hk h0
         simp only [e1, Int.toNat_natCast, e6, e7]
         first
           | exact ⟨by omega, by omega⟩
           | exact one_at e6
           | exact one_at e7
           | omega
           | fail)
      | exact hn
      | (have h0 : o = true := by assumption
         rw [ren_off (D := ⟨q, L, o, a, lf⟩) h0]
         exact RetW.refl (rk_s (by omega) hcs hm rfl hl))
      | (have h0 : o = false := by assumption
         have h2 : mayF to = false := by simpa using (show (!mayF to) = true by assumption)
         rw [ren_bad (D := ⟨q, L, o, a, lf⟩) h0 h2]
         exact RetW.refl (rk_s (by omega) hcs hm rfl hl))
      | (have h0 : o = false := by assumption
         have h1 : atL name L 0 < 0 := by first | exact of_decide_eq_true (by assumption) | (rw [hl0]; exact (by decide : (-1 : Int) < 0))
         have h2 : mayF to = true := by simpa using (show (!mayF to) = false by assumption)
         rw [ren_nof (D := ⟨q, L, o, a, lf⟩) hs h0 h2 h1]
         exact RetW.refl (rk_s (by omega) hcs hm rfl hl))
      | (have h0 : o = false := by assumption
         have h1 : ¬ atL name L 0 < 0 := of_decide_eq_false (by assumption)
         have h2 : mayF to = true := by simpa using (show (!mayF to) = false by assumption)
         have h3 : ¬ powE a lf = 0 := by simpa using (show (!decide (powE a lf = 0)) = true by assumption)
         rw [ren_pow (D := ⟨q, L, o, a, lf⟩) hs h0 h2 h1 h3]
         exact RetW.refl (rk_s (by omega) hcs hm rfl rfl))
      | (have h0 : o = true := by assumption
         rw [show (Dk.mk q L o a lf).ren name to = (10, ⟨q, L, o, a, lf⟩) from by unfold Dk.ren; exact kn_off h0]
         exact RetW.refl (rk_s (by omega) hcs hm rfl hl))
      | (have h0 : o = false := by assumption
         have h1 : atL name L 0 < 0 := of_decide_eq_true (by assumption)
         rw [show (Dk.mk q L o a lf).ren name to = (8, ⟨q, L, o, a, lf⟩) from by unfold Dk.ren;  exact kn_none hs h0 h1]
         exact RetW.refl (rk_s (by omega) hcs hm rfl hl))
      | (have h0 : o = false := by assumption
         have h1 : ¬ atL name L 0 < 0 := of_decide_eq_false (by assumption)
         have h3 : ¬ powE a lf = 0 := by simpa using (show (!decide (powE a lf = 0)) = true by assumption)
         rw [show (Dk.mk q L o a lf).ren name to = (10, ⟨q, L, powO o a lf, a, powL a lf⟩) from by unfold Dk.ren;  rw [kn_ok hs h0 h1]; exact pw_no h3]
         exact RetW.refl (rk_s (by omega) hcs hm rfl rfl))
      | (have h0 : o = false := by assumption
         have h1 : ¬ atL name L 0 < 0 := of_decide_eq_false (by assumption)
         have h2 : mayF to = true := by simpa using (show (!mayF to) = false by assumption)
         have h3 : powE a lf = 0 := by simpa using (show (!decide (powE a lf = 0)) = false by assumption)
         obtain ⟨e1, e2, e3, e4, e5, e6, e7, e8⟩ := hk h1
         have hat2 : (Dk.mk q L o a lf).at name = k := e2
         have hok := out_ok (nm := name) hD hs h0 h1 h3
         rw [hat2] at hok
         obtain ⟨j, g, k1, k2, k3, k4, k5, k6, k7, k8, k9, k10⟩ := plc_facts (nm := to) hok
         simp only at k1 k2 k3 k4 k5 k6 k8 k9 k10
         have hoC : outC cs (k : Int) = cellsF (outFl L k) := by unfold outC outFl; rw [hrow]; rfl
         have hqI : plcI (cellsF (outFl L k)) to = (j : Int) := by unfold plcI; rw [rowF_cells]; exact k1
         have hqM : plcM (cellsF (outFl L k)) to = (plcL to (outFl L k)).length := by unfold plcM; rw [rowF_cells]
         have hqC : plcC (cellsF (outFl L k)) to = cellsF (plcL to (outFl L k)) := by unfold plcC; rw [rowF_cells]
         have hqW : ∀ w, plcW (cellsF (outFl L k)) to w ≤ w + 4 := fun w => by unfold plcW plcV; split <;> omega
         have f0 : cs[k * 3]? = some (.d (.sc (.string f.name))) := (cell0 hcs e3).1
         have f3 := (cell0 hcs e3).2
         have hlo : (outFl L k).length = m - 1 := by rw [outF_len L k e4, hm]
         try simp only [e1, hoC, hqI, hqM, hqC, Int.toNat_natCast, e6, e7, f0]
         first
           | exact ⟨by omega, by omega⟩
           | exact ⟨rfl, by omega, f3⟩
           | (rw [← hlo]; exact isF.mk (hok.okL (by decide)))
           | omega
           | (rw [cellsF_len]; omega)
           | (rw [splice_len (by omega)]; omega)
           | (rw [ren_do (D := ⟨q, L, o, a, lf⟩) hs h0 h2 h1 h3]
              have hrn : renF L k to = (plcL to (outFl L k)).set j ⟨g.name, f.data, f.kept⟩ := by unfold renF; rw [e3]; exact k9 _ _
              simp only [hat2, hrn]
              have hcc : splice (splice (cellsF (plcL to (outFl L k))) (j * 3 + 1) [.d (.slc 1 f.data)]) (j * 3 + 2) [.d (.sc (.int .i64 f.kept))] = cellsF ((plcL to (outFl L k)).set j ⟨g.name, f.data, f.kept⟩) := by
                rw [set_data _ j g k2, set_kept _ j ⟨g.name, f.data, g.kept⟩ (by simp [k3])]
                simp only [List.set_set]
              rw [hcc]
              have hps : ∀ κ, pullL κ (cellsF ((plcL to (outFl L k)).set j ⟨g.name, f.data, f.kept⟩)) = cellsF ((plcL to (outFl L k)).set j ⟨g.name, f.data, f.kept⟩) := fun κ => by rw [pullL_eq]; exact pull_rows κ _
              refine ret_keep2 [0, 1] rfl ⟨⟨trivial, .inl rfl⟩, .inl rfl⟩ (RetW.refl ?_)
              simp only [keepSt, List.map_cons, List.map_nil, pullBox, List.getD_cons_zero, List.getD_cons_succ, hps]
              have hw9 := hqW (v + 4)
              refine rk_s (by omega) rfl (by simp only [List.length_set]) rfl rfl)
           | fail)
      | fail
end Go.Proofs.Ytmjmbfcfnhnpmaa
namespace Go.Proofs.Ytmjmbfcfnhnpmaa
open Go.RowKit
set_option linter.all false
set_option maxHeartbeats 4000000
theorem reads_at {D : Dk} {nm : ByteArray} (hs : srtF D.L) : (atL nm D.L 0 < 0 → D.reads nm = [] ∧ (findF nm D.L 0).2 = false) ∧ (¬ atL nm D.L 0 < 0 → D.reads nm = readF D.L nm ∧ (findF nm D.L 0).2 = true) := by
  have hr := (findF_range nm D.L 0).1
  rw [at_find hs]
  unfold Dk.reads
  cases hf : (findF nm D.L 0).2 with
  | true =>
    rw [if_pos rfl, if_pos rfl]
    exact ⟨fun h => by omega, fun _ => ⟨rfl, rfl⟩⟩
  | false =>
    rw [if_neg (by decide), if_neg (by decide)]
    exact ⟨fun _ => ⟨rfl, rfl⟩, fun h => absurd (by decide) h⟩
set_option maxRecDepth 100000 in
theorem w_rread (q : Int) (fr : Fr) (o a : Bool) (lf l : Int) (L : List FileM) (name : ByteArray) (hfr : fr.is L) (hD : okD 900 ⟨q, L, o, a, lf⟩) (hs : srtF L) (hl : l = rlf a lf) : FnD Try.prog 47 [.ref 0 0 0, .d (.sc (.string name))] (rS q fr o a l) (fun r st' => r = .tup [.d (.slc 1 ((Dk.mk q L o a lf).reads name)), .d (.sc (.bool (findF name L 0).2))] ∧ st' = rS q fr o a l) := by
  rcases fr with _ | ⟨v, m, cs⟩
  · have hl0 : L = [] := hfr
    have hlk := rlf_ok (a := a) hD.l
    rw [← hl] at hlk
    have hat : atL name L 0 = -1 := by rw [hl0]; rfl
    have hra := reads_at (D := ⟨q, L, o, a, lf⟩) (nm := name) hs
    simp only at hra
    obtain ⟨GFsRd, hFsRd⟩ : ∃ F, F = FsRd0 := ⟨_, rfl⟩
    have hH : SoundK Try.prog [] := by subst hFsRd; exact noK_ok
    have hB : SoundB Try.prog [kb_rat GFsRd] := by subst hFsRd; exact orB_ok okb_rat noB_ok
    refine FnD_cbv (T := fun _ => tabY [17, 18] []) (H := fun _ => []) (tabY_ok _ _) hH follows_mixed Try.func47 rfl Try.ntmps47 (by simp) fun A X W hA hX hW => ?_
    cbv
    repeat' first
      | (refine part (fun h => ?_) (fun h => ?_) <;> try cbv)
      | (refine And.intro ?_ ?_)
      | ((with_reducible refine callB hX hB ?_) <;> cbv)
    all_goals subst hA hX hW hFsRd
    all_goals clear hH hB
    all_goals try simp only [A0, nc, FsRd0, Nat.zero_add, Nat.add_zero, List.nil_append, List.drop_zero] at *
    all_goals try simp only [hat] at *
    all_goals first
      | exact rfl
      | exact trivial
      | exact hisF
      | (exfalso
         have h9 : decide ((-1 : Int) < 0) = false := by assumption
         exact absurd h9 (by decide))
      | (obtain ⟨g1, g2⟩ := hra.1 (by first | decide | (rw [hl0]; exact (by decide : (-1 : Int) < 0)))
         rw [g1, g2]
         exact ret_up2 (d' := .tup [.d (.slc 1 []), .d (.sc (.bool false))]) ⟨_, rfl, UpL.nil (UpL.keep UpL.done)⟩ (RetW.refl ⟨rfl, rfl⟩))
      | fail
  · obtain ⟨hcs, hm⟩ := hfr
    have hisF : isF cs m := by rw [hcs, hm]; exact isF.mk (hD.okL (by decide))
    have hrow : rowF cs = L := by rw [hcs]; exact rowF_cells L
    have hpull : ∀ κ, pullL κ cs = cs := fun κ => by rw [hcs, pullL_eq]; exact pull_rows κ _
    have hlc : cs.length = m * 3 := by rw [hcs, cellsF_len, hm]
    have hlk := rlf_ok (a := a) hD.l
    rw [← hl] at hlk
    have hat : atX cs name = atL name L 0 := by rw [atX, hrow]
    obtain ⟨k, f, hk⟩ := at_facts (name := name) (L := L) hs hcs
    have hra := reads_at (D := ⟨q, L, o, a, lf⟩) (nm := name) hs
    simp only at hra
    obtain ⟨GFsRd, hFsRd⟩ : ∃ F, F = FsRd0 := ⟨_, rfl⟩
    have hH : SoundK Try.prog [] := by subst hFsRd; exact noK_ok
    have hB : SoundB Try.prog [kb_rat GFsRd] := by subst hFsRd; exact orB_ok okb_rat noB_ok
    refine FnD_cbv (T := fun _ => tabY [17, 18] []) (H := fun _ => []) (tabY_ok _ _) hH follows_mixed Try.func47 rfl Try.ntmps47 (by simp) fun A X W hA hX hW => ?_
    cbv
    repeat' first
      | (refine part (fun h => ?_) (fun h => ?_) <;> try cbv)
      | (refine And.intro ?_ ?_)
      | ((with_reducible refine callB hX hB ?_) <;> cbv)
    all_goals subst hA hX hW hFsRd
    all_goals clear hH hB
    all_goals try simp only [A0, nc, FsRd0, Nat.zero_add, Nat.add_zero, List.nil_append, List.drop_zero] at *
    all_goals try simp only [hat] at *
    all_goals first
      | exact rfl
      | exact trivial
      | exact hisF
      | (have h0 : ¬ atL name L 0 < 0 := of_decide_eq_false (by assumption)
         obtain ⟨e1, e2, e3, e4, e5, e6, e7, e8⟩ := hk h0
         have hrf : readF L name = f.data := by unfold readF; rw [e2, e3]
         simp only [e1, Int.toNat_natCast, e6, e7]
         first
           | exact ⟨by omega, by omega⟩
           | exact one_at e6
           | (obtain ⟨g1, g2⟩ := hra.2 h0
              rw [g1, g2, hrf]
              exact RetW.refl ⟨rfl, rfl⟩)
           | fail)
      | (obtain ⟨g1, g2⟩ := hra.1 (of_decide_eq_true (by assumption))
         rw [g1, g2]
         exact ret_up2 (d' := .tup [.d (.slc 1 []), .d (.sc (.bool false))]) ⟨_, rfl, UpL.nil (UpL.keep UpL.done)⟩ (RetW.refl ⟨rfl, rfl⟩))
      | fail
def rnS : Int → Option (Nat × Nat × List DV) → SL
  | i, none => [(0, .ref 0 0 0), (3, .d (.sc (.slice none 0 0))), (4, .d (.sc (.int .i64 i)))]
  | i, some (u, k, _) => [(0, .ref 0 0 0), (3, .view 1 2 u 0 k), (4, .d (.sc (.int .i64 i)))]
set_option maxRecDepth 100000 in
theorem w_rnames0 (q : Int) (o a : Bool) (lf : Int) : FnD Try.prog 45 [.ref 0 0 0] (rS q none o a lf) (fun r st' => r = .d (.slc 1 (namesF [])) ∧ st' = rS q none o a lf) := by
  have hH : SoundK Try.prog [] := by exact noK_ok
  have hB : SoundB Try.prog [] := by exact noB_ok
  refine FnD_cbv (T := fun _ => tabY [5003] []) (H := fun _ => []) (tabY_ok _ _) hH follows_mixed Try.func45 rfl Try.ntmps45 (by simp) fun A X W hA hX hW => ?_
  cbv
  have l0 : A.cmp .lss 0 0 = false := by subst hA; rfl
  cbv at l0
  repeat' (refine And.intro ?_ ?_)
  all_goals try (subst hA; exact rfl)
  refine unrollL (T := fun _ => tabY [5003] []) (H := fun _ => []) (tabY_ok _ _) noK_ok follows_mixed hA hX 1 fun R hR => ?_
  cbv
  refine hR _ _ _ ?_
  cbv
  simp only [l0]
  cbv
  subst hA hX hW
  exact ⟨.d (.slc 1 []), _, TellsV.nil _ _ 1, rfl, rfl⟩
set_option maxRecDepth 100000 in
theorem w_rnames1 (q : Int) (v m : Nat) (cs : List DV) (o a : Bool) (lf : Int) (L : List FileM) (hcs : cs = cellsF L) (hm : m = L.length) (hL : L.length ≤ 900) : FnD Try.prog 45 [.ref 0 0 0] (rS q (some (v, m, cs)) o a lf) (fun r st' => r = .d (.slc 1 (namesF L)) ∧ st' = rS q (some (v, m, cs)) o a lf) := by
  obtain ⟨n, hn⟩ : ∃ n : Int, n = L.length := ⟨_, rfl⟩
  have hn0 : 0 ≤ n := by omega
  have hn1 : n ≤ 900 := by omega
  have hmn : n = (m : Int) := by rw [hm]; exact hn
  have hcell : ∀ {i : Int}, 0 ≤ i → i < n → ∃ f, L[i.toNat]? = some f ∧ L.drop i.toNat = f :: L.drop (i + 1).toNat ∧ cs[i.toNat * 3]? = some (.d (.sc (.string f.name))) ∧ cs[i.toNat * 3 + 1]? = some (.d (.slc 1 f.data)) ∧ cs[i.toNat * 3 + 2]? = some (.d (.sc (.int .i64 f.kept))) ∧
      (cs.drop (i.toNat * 3)).take 3 = [.d (.sc (.string f.name)), .d (.slc 1 f.data), .d (.sc (.int .i64 f.kept))] ∧ i.toNat * 3 + 3 ≤ cs.length := by
    intro i h0 h1
    have h2 : i.toNat < L.length := by omega
    refine ⟨L[i.toNat], List.getElem?_eq_getElem h2, ?_, file_cell hcs i.toNat h2⟩
    rw [List.drop_eq_getElem_cons h2, show (i + 1).toNat = i.toNat + 1 by omega]
  have hpull : ∀ κ, pullL κ cs = cs := fun κ => by rw [hcs, pullL_eq]; exact pull_rows κ _
  have hH : SoundK Try.prog [] := by exact noK_ok
  have hB : SoundB Try.prog [] := by exact noB_ok
  refine FnD_cbv (T := fun _ => tabY [20, 21] []) (H := fun _ => []) (tabY_ok _ _) hH follows_mixed Try.func45 rfl Try.ntmps45 (by simp) fun A X W hA hX hW => ?_
  cbv
  refine loopL (T := fun _ => tabY [20, 21] []) (H := fun _ => []) (tabY_ok _ _) noK_ok follows_mixed hA hX (fun x : Int × Option (Nat × Nat × List DV) => (0 ≤ x.1 ∧ x.1 ≤ n) ∧ nmI (namesF (L.take x.1.toNat)) x.2) (fun x => rnS x.1 x.2) (fun x => nmT (rS q (some (v, m, cs)) o a lf) x.2) (fun x => n.toNat - x.1.toNat) (0, none) ?_ ?_ ?_
  · exact ⟨⟨Int.le_refl 0, hn0⟩, rfl⟩
  · subst hA
    refine told_less ?_
    simp only [A0, nc] at *
    simp [toldP, getS, rnS, rS, Fr.d, Fr.rst, hmn]
  rintro R ⟨i, oo⟩ hR ⟨hi, h2⟩
  replace hi : 0 ≤ i ∧ i ≤ n := hi
  replace h2 : nmI (namesF (L.take i.toNat)) oo := h2
  rcases oo with _ | ⟨u, k, c⟩
  · replace h2 : namesF (L.take i.toNat) = [] := h2
    cbv
    refine And.intro (by subst hA; exact rfl) ?_
    refine part (fun h => ?_) (fun h => ?_) <;> cbv
    · have hlt : i < n := by subst hA; exact lt_of_lt_of_eq (of_decide_eq_true h) hmn.symm
      obtain ⟨f, k0, k1, k2, k3, k4, k5, k6⟩ := hcell hi.1 hlt
      have hsc := namesF_succ hi.1 k0
      rw [h2, List.nil_append] at hsc
      repeat' (refine And.intro ?_ ?_)
      all_goals subst hA hX hR
      all_goals clear hH hB
      all_goals replace hmn : n = (m : Int) := hmn
      all_goals have hpm : ∀ κ, cs.map (pullD κ) = cs := fun κ => (pullL_eq κ cs).symm.trans (hpull κ)
      all_goals have ei : IntKind.wrap .i64 (i + 1) = i + 1 := wrap_i64 (by unfold r64; omega)
      all_goals try simp only [A0, nc, Nat.zero_add, Nat.add_zero, k2, k3, k4]
      all_goals first
        | rfl
        | exact ⟨hi.1, by omega⟩
        | exact one_at k2
        | exact Nat.le_refl _
        | (simp; done)
        | (refine ⟨(i + 1, some (0, 1, [.d (.sc (.string f.name))])), ⟨⟨by simp only; omega, by simp only; omega⟩, ?_⟩, by simp only; omega, told_keep [0, 1, 3] rfl ?_ ?_⟩
           · show nmI (namesF (L.take (i + 1).toNat)) _
             rw [hsc]
             exact ⟨rfl, rfl⟩
           · simp [keepSt, pullBox, pullL, pullD, hpull, nmT, rS, Fr.d, Fr.rst]
             try rfl
           · simp [toldP, getS, rnS, pullD, ei]
             try (repeat' (first | rfl | apply And.intro)))
        | fail
    · have hge : ¬ i < n := by subst hA; exact fun h9 => of_decide_eq_false h (lt_of_lt_of_eq h9 hmn)
      replace hn : n = (L.length : Int) := hn
      have e : L.take i.toNat = L := List.take_of_length_le (by omega)
      rw [e] at h2
      subst hA hX hW
      rw [h2]
      exact ⟨.d (.slc 1 []), _, TellsV.nil _ _ 1, rfl, rfl⟩
  · obtain ⟨hc, hk⟩ : c = rowsD (namesF (L.take i.toNat)) ∧ k = (namesF (L.take i.toNat)).length := h2
    have hkl : c.length = k * 1 := by rw [hc, hk, namesF]; exact rowsD_len (strR1_sz _)
    have hkb : k ≤ 900 := by rw [hk, namesF, strR1, List.length_map, List.length_map, List.length_take]; omega
    cbv
    refine And.intro (by subst hA; exact rfl) ?_
    refine part (fun h => ?_) (fun h => ?_) <;> cbv
    · have hlt : i < n := by subst hA; exact lt_of_lt_of_eq (of_decide_eq_true h) hmn.symm
      obtain ⟨f, k0, k1, k2, k3, k4, k5, k6⟩ := hcell hi.1 hlt
      have hsc := namesF_succ hi.1 k0
      repeat' (refine And.intro ?_ ?_)
      all_goals subst hA hX hR
      all_goals clear hH hB
      all_goals replace hmn : n = (m : Int) := hmn
      all_goals have hpm : ∀ κ, cs.map (pullD κ) = cs := fun κ => (pullL_eq κ cs).symm.trans (hpull κ)
      all_goals have ei : IntKind.wrap .i64 (i + 1) = i + 1 := wrap_i64 (by unfold r64; omega)
      all_goals try simp only [A0, nc, Nat.zero_add, Nat.add_zero, k2, k3, k4]
      all_goals first
        | rfl
        | exact ⟨hi.1, by omega⟩
        | exact one_at k2
        | exact Nat.le_refl _
        | exact hkl
        | omega
        | (simp; done)
        | (exact ⟨by omega, by omega⟩)
        | (refine ⟨(i + 1, some (u + 1, k + 1, c ++ [.d (.sc (.string f.name))])), ⟨⟨by simp only; omega, by simp only; omega⟩, ?_⟩, by simp only; omega, told_keep [0, 1, 2] rfl ?_ ?_⟩
           · show nmI (namesF (L.take (i + 1).toNat)) _
             rw [hsc]
             exact ⟨by rw [hc, rowsD_append]; rfl, by rw [hk, List.length_append]; rfl⟩
           · have hpc : ∀ κ, c.map (pullD κ) = c := fun κ => by rw [hc]; exact pull_rows κ _
             simp [keepSt, pullBox, pullL_eq, pullD, hpm, hpc, nmT, rS, Fr.d, Fr.rst]
             try rfl
           · simp [toldP, getS, rnS, pullD, ei]
             try (repeat' (first | rfl | apply And.intro)))
        | fail
    · have hge : ¬ i < n := by subst hA; exact fun h9 => of_decide_eq_false h (lt_of_lt_of_eq h9 hmn)
      replace hn : n = (L.length : Int) := hn
      have e : L.take i.toNat = L := List.take_of_length_le (by omega)
      rw [e] at hc hk
      subst hA hX hW
      refine ret_freeze 2 1 (namesF L) _ rfl rfl (Nat.le_refl 2) hc (strR1_sz _) (ret_keep [0, 1] rfl ⟨?_, ?_⟩)
      · simp [fzD, pullD, hk]
      · have hfz : ∀ v, fzL 2 v 1 (namesF L) cs = cs := fun v => by rw [fzL_eq, hcs, cellsF, rowsD, List.map_map]; rfl
        simp [keepSt, fzSt, fzBox, fzL, fzD, pullBox, pullL, pullD, hfz, hpull, rS, Fr.d, Fr.rst]
        rfl
set_option maxRecDepth 100000 in
theorem w_rnew (q : Int) (hq : 0 ≤ q ∧ q ≤ 1048576) : FnD Try.prog 26 [.d (.sc (.int .i64 q))] [] (fun r st' => r = .tup [.ref 0 0 0, .d (.sc (.int .i64 0))] ∧ st' = rS q none false false (-1)) := by
  have hH : SoundK Try.prog [] := by exact noK_ok
  have hB : SoundB Try.prog [] := by exact noB_ok
  refine FnD_cbv (T := fun _ => tabY [] []) (H := fun _ => []) (tabY_ok _ _) hH follows_mixed Try.func26 rfl Try.ntmps26 (by simp) fun A X W hA hX hW => ?_
  cbv
  have t1 : A.cmp .lss q 0 = false := by subst hA; exact decide_eq_false (by omega)
  have t2 : A.cmp .gtr q 1048576 = false := by subst hA; exact decide_eq_false (by omega)
  cbv at t1 t2
  simp only [t1, t2]
  cbv
  repeat' first
    | (refine part (fun h => ?_) (fun h => ?_) <;> try cbv)
    | (refine And.intro ?_ ?_)
  all_goals subst hA hX hW
  all_goals first
    | exact RetW.refl ⟨rfl, rfl⟩
    | exact rfl
    | (intro q; exact q)
    | (intro _; exact trivial)
    | (exfalso; simp [A0] at h; done)
    | fail
end Go.Proofs.Ytmjmbfcfnhnpmaa
namespace Go.Proofs.Ytmjmbfcfnhnpmaa
open Go.RowKit
set_option linter.all false
set_option maxHeartbeats 4000000
/-- A region with guards, way by way. -/
theorem regionG {P : Program} {T : Unit → Tab} (hT : TabOk P (T ())) {H : Unit → Kn} (hH : SoundK P (H ())) {N : Nat} {Q : Exit → SL → Store → Prop} {s : SL} {st : Store} {id : Nat} {ops : Array Oper} {A : Ar} {X : Cps} (hA : A = A0) (hX : X = X0 P N)
    (h : genG T A X H N ops ops.toList s st (Q .normal)) : X.st (.region id ops false) Q s st := by
  subst hA; subst hX
  obtain ⟨l⟩ := ops
  show wpD P N (.region id l.toArray false) (lessQ Q) (getS s) st
  refine region_less fun E a Q' hst hc hs hn => ?_
  subst hst
  exact genG_ok hT hH l s E a _ hc hs h hn
theorem dk_n {D : Dk} {res : DV} (h0 : D.L = []) : dkR none D res res (dkS D.q none D.o D.a D.l) := ⟨none, .inl ⟨rfl, .inl rfl⟩, Nat.zero_le _, h0, rfl, rfl⟩
theorem dk_s {D : Dk} {res : DV} {v m v' m' : Nat} {cs cs' : List DV} (hv : v' ≤ v + 9) (hcs : cs' = cellsF D.L) (hm : m' = D.L.length) : dkR (some (v, m, cs)) D res res (dkS D.q (some (v', m', cs')) D.o D.a D.l) := ⟨some (v', m', cs'), .inr ⟨by simp, by simp⟩, hv, ⟨hcs, hm⟩, rfl, rfl⟩
theorem cut_no {D : Dk} {nm : ByteArray} {n : Int} (h : ¬ D.know nm = 0) : D.cut nm n = (D.know nm, D) := by unfold Dk.cut; rw [if_neg h]
theorem cut_arg {D : Dk} {nm : ByteArray} {n : Int} (h : D.know nm = 0) (h1 : n < 0 ∨ ((readF D.L nm).length : Int) < n) : D.cut nm n = (1, D) := by unfold Dk.cut; rw [if_pos h, if_pos h1]
theorem cut_pow {D : Dk} {nm : ByteArray} {n : Int} (h : D.know nm = 0) (h1 : ¬ (n < 0 ∨ ((readF D.L nm).length : Int) < n)) (h2 : ¬ powE D.a D.l = 0) : D.cut nm n = (powE D.a D.l, ⟨D.q, D.L, powO D.o D.a D.l, D.a, powL D.a D.l⟩) := by unfold Dk.cut; rw [if_pos h, if_neg h1, if_neg h2]
theorem cut_do {D : Dk} {nm : ByteArray} {n : Int} (h : D.know nm = 0) (h1 : ¬ (n < 0 ∨ ((readF D.L nm).length : Int) < n)) (h2 : powE D.a D.l = 0) : D.cut nm n = (0, ⟨D.q, cutF D.L (D.at nm) n, powO D.o D.a D.l, D.a, powL D.a D.l⟩) := by unfold Dk.cut; rw [if_pos h, if_neg h1, if_pos h2]
set_option maxRecDepth 100000 in
theorem w_cut (q : Int) (fr : Fr) (o a : Bool) (lf : Int) (L : List FileM) (name : ByteArray) (n : Int) (hfr : fr.is L) (hD : okD 900 ⟨q, L, o, a, lf⟩) : FnD Try.prog 39 [.ref 0 0 0, .d (.sc (.string name)), .d (.sc (.int .i64 n))] (dkS q fr o a lf) (fun r st' => dkR fr ((Dk.mk q L o a lf).cut name n).2 (.d (.sc (.int .i64 ((Dk.mk q L o a lf).cut name n).1))) r st') := by
  rcases fr with _ | ⟨v, m, cs⟩
  · have hl0 : L = [] := hfr
    have hbad := @know_nil o name
    obtain ⟨GFsB, hFsB⟩ : ∃ F, F = FsB0 := ⟨_, rfl⟩
    obtain ⟨GFsM, hFsM⟩ : ∃ F, F = FsM0 := ⟨_, rfl⟩
    obtain ⟨GFsK, hFsK⟩ : ∃ F, F = FsK0 := ⟨_, rfl⟩
    have hH : SoundK Try.prog [kn_clone GFsB] := by subst hFsB hFsM hFsK; exact orK_ok ok_clone noK_ok
    have hB : SoundB Try.prog [kb_known GFsM, kb_power GFsK] := by subst hFsB hFsM hFsK; exact orB_ok okb_known (orB_ok okb_power noB_ok)
    refine FnD_cbv (T := fun _ => tabY [28, 29, 46, 47, 48, 49, 50, 55, 56, 57, 58, 59, 60, 64, 65] [2]) (H := fun _ => [kn_clone GFsB]) (tabY_ok _ _) hH follows_mixed Try.func39 rfl Try.ntmps39 (by simp) fun A X W hA hX hW => ?_
    cbv
    have e0 : A.cmp .eql (GFsM.knE [] o name) 0 = false := by subst hA hFsM; exact decide_eq_false hbad
    cbv at e0
    repeat' first
      | (refine And.intro ?_ ?_)
      | ((with_reducible refine callB hX hB ?_) <;> cbv)
    rotate_right
    refine regionG (id := 2) (T := fun _ => tabY [28, 29, 46, 47, 48, 49, 50, 55, 56, 57, 58, 59, 60, 64, 65, 5005] []) (H := fun _ => [kn_clone GFsB]) (tabY_ok _ _) hH hA hX ?_
    show genG _ _ _ _ _ _ _ _ _ _
    repeat
      (refine genS (fun G hG => ?_)
       cbv
       repeat first
         | (simp only [e0]; cbv)
         | refine And.intro (by
             (subst hA
              first
                | exact rfl
                | exact trivial
                | (intro q; exact q)
                | (intro _; exact trivial))) ?_
       subst hG)
    cbv
    repeat' first
      | (simp only [e0]; cbv)
      | (refine part (fun h => ?_) (fun h => ?_) <;> try cbv)
      | (refine And.intro ?_ ?_)
    all_goals subst hA hX hW hFsB hFsK hFsM
    all_goals clear hH hB
    all_goals try simp only [A0, nc, FsB0, FsK0, FsM0, Nat.zero_add, Nat.add_zero, List.nil_append, List.drop_zero] at *
    all_goals first
      | exact rfl
      | exact trivial
      | (intro q; exact q)
      | (intro _; exact trivial)
      | (show okD 900 ⟨q, rowF [], o, a, lf⟩; rw [show rowF [] = L from hl0.symm]; exact hD)
      | (have hb2 : ¬ (Dk.mk q L o a lf).know name = 0 := by unfold Dk.know; rw [hl0]; exact hbad
         rw [cut_no hb2]
         rw [show (Dk.mk q L o a lf).know name = knE [] o name from by unfold Dk.know; rw [hl0]; rfl]
         exact RetW.refl (dk_n hl0))
      | fail
  · obtain ⟨hcs, hm⟩ := hfr
    have hisF : isF cs m := by rw [hcs, hm]; exact isF.mk (hD.okL (by decide))
    have hrow : rowF cs = L := by rw [hcs]; exact rowF_cells L
    have hlc : cs.length = m * 3 := by rw [hcs, cellsF_len, hm]
    have hfs := hD.fs
    obtain ⟨GFsB, hFsB⟩ : ∃ F, F = FsB0 := ⟨_, rfl⟩
    obtain ⟨GFsM, hFsM⟩ : ∃ F, F = FsM0 := ⟨_, rfl⟩
    obtain ⟨GFsK, hFsK⟩ : ∃ F, F = FsK0 := ⟨_, rfl⟩
    have hH : SoundK Try.prog [kn_clone GFsB] := by subst hFsB hFsM hFsK; exact orK_ok ok_clone noK_ok
    have hB : SoundB Try.prog [kb_known GFsM, kb_power GFsK] := by subst hFsB hFsM hFsK; exact orB_ok okb_known (orB_ok okb_power noB_ok)
    refine FnD_cbv (T := fun _ => tabY [28, 29, 46, 47, 48, 49, 50, 55, 56, 57, 58, 59, 60, 64, 65] []) (H := fun _ => [kn_clone GFsB]) (tabY_ok _ _) hH follows_mixed Try.func39 rfl Try.ntmps39 (by simp) fun A X W hA hX hW => ?_
    cbv
    have b10 : A.cmp .eql 1 0 = false := by subst hA; rfl
    cbv at b10
    by_cases hk0 : knE cs o name = 0
    · have e0 : A.cmp .eql (GFsM.knE cs o name) 0 = true := by subst hA hFsM; exact decide_eq_true hk0
      cbv at e0
      repeat' first
        | (simp only [e0, b10]; cbv)
        | (refine part (fun h => ?_) (fun h => ?_) <;> try cbv)
        | (refine And.intro ?_ ?_)
        | ((with_reducible refine callB hX hB ?_) <;> cbv)
      all_goals subst hA hX hW hFsB hFsK hFsM
      all_goals clear hH hB
      all_goals try simp only [A0, nc, FsB0, FsK0, FsM0, Nat.zero_add, Nat.add_zero, List.nil_append, List.drop_zero] at *
      all_goals have hD1 := hD.l
      all_goals first
        | exact rfl
        | exact trivial
        | exact hisF
        | exact hD1
        | (intro q; exact q)
        | (intro _; exact trivial)
        | (intro q; simpa using q)
        | (show okD 900 ⟨q, rowF cs, o, a, lf⟩; rw [hrow]; exact hD)
        | (have h1 : ¬ knE cs o name = 0 := hk0
           have hb2 : ¬ (Dk.mk q L o a lf).know name = 0 := by unfold Dk.know; rw [← hcs]; exact h1
           first
             | (rw [cut_no hb2, show (Dk.mk q L o a lf).know name = knE cs o name from by unfold Dk.know; rw [← hcs]]
                exact RetW.refl (dk_s (by omega) hcs hm))
             | (exfalso; simp only [cond_false] at h; cases h; done)
             | fail)
        | (have h1 : knE cs o name = 0 := hk0
           obtain ⟨k, f, e1, e2, e3, e4, e5, e6, e7, e8, e9, e10⟩ := know_cell hcs h1
           have hkn : (Dk.mk q L o a lf).know name = 0 := by unfold Dk.know; rw [← hcs]; exact h1
           have hrf : readF L name = f.data := by unfold readF; rw [← e2, e3]
           have hfb := (hfs f (List.mem_of_getElem? e3)).1
           have hj : k * 3 + 1 < cs.length := by omega
           have hj2 : k * 3 + 2 < cs.length := by omega
           have g9 : ∀ x, (splice cs (k * 3 + 1) [x])[k * 3 + 2]? = some (.d (.sc (.int .i64 f.kept))) := fun x => by rw [splc_get hj (by omega)]; exact e8
           have g8 : ∀ x, (splice cs (k * 3 + 1) [x]).length = cs.length := fun x => splice_len hj
           have has7 := one_at e7
           have has8 : ∀ x, [DV.d (.sc (.int .i64 f.kept))].length = 1 ∧ k * 3 + 2 + 1 ≤ cs.length ∧ ((splice cs (k * 3 + 1) [x]).drop (k * 3 + 2)).take 1 = [DV.d (.sc (.int .i64 f.kept))] := fun x => ⟨rfl, by omega, (one_at (g9 x)).2.2⟩
           have hz : Int.toNat 0 = 0 := rfl
           simp only [e1, Int.toNat_natCast, e7, hz, Nat.sub_zero, List.drop_zero, g9, g8, idX] at *
           first
             | exact ⟨by omega, by omega⟩
             | exact has7
             | exact fun _ => has7
             | exact fun _ => ⟨by omega, by omega⟩
             | exact hfb.take n.toNat
             | omega
             | exact has8 _
             | (have hh : (bif true then bif decide (n < 0) then true else decide ((f.data.length : Int) < n) else false) = true := by assumption
                simp only [cond_true] at hh
                have ha : n < 0 ∨ (f.data.length : Int) < n := by
                  by_cases h7 : n < 0
                  · exact .inl h7
                  · right; simpa [h7] using hh
                rw [cut_arg hkn (by rw [hrf]; exact ha)]
                exact RetW.refl (dk_s (by omega) hcs hm))
             | (have hh : (bif true then bif decide (n < 0) then true else decide ((f.data.length : Int) < n) else false) = false := by assumption
                simp only [cond_true] at hh
                have ha : ¬ (n < 0 ∨ (f.data.length : Int) < n) := by
                  by_cases h7 : n < 0
                  · simp [h7] at hh
                  · simp [h7] at hh
                    omega
                first
                  | exact ⟨by omega, by omega, by omega⟩
                  | (have h3 : ¬ powE a lf = 0 := of_decide_eq_false (by assumption)
                     rw [cut_pow hkn (by rw [hrf]; exact ha) h3]
                     exact RetW.refl (dk_s (by omega) hcs hm))
                  | (have h3 : powE a lf = 0 := of_decide_eq_true (by assumption)
                     have hat : (Dk.mk q L o a lf).at name = k := e2.symm
                     rw [cut_do hkn (by rw [hrf]; exact ha) h3]
                     simp only [hat]
                     rw [cutF_some e3, hcs, set_data L k f e3, set_kept _ k ⟨f.name, f.data.take n.toNat, f.kept⟩ (by simp [e4]), h3]
                     refine RetW.refl (dk_s (by omega) ?_ (by simp only [List.length_set]; exact hm))
                     simp only [List.set_set]
                     try rfl)
                  | fail)
             | fail)
        | fail
    · have e0 : A.cmp .eql (GFsM.knE cs o name) 0 = false := by subst hA hFsM; exact decide_eq_false hk0
      cbv at e0
      repeat' first
        | (simp only [e0, b10]; cbv)
        | (refine part (fun h => ?_) (fun h => ?_) <;> try cbv)
        | (refine And.intro ?_ ?_)
        | ((with_reducible refine callB hX hB ?_) <;> cbv)
      all_goals subst hA hX hW hFsB hFsK hFsM
      all_goals clear hH hB
      all_goals try simp only [A0, nc, FsB0, FsK0, FsM0, Nat.zero_add, Nat.add_zero, List.nil_append, List.drop_zero] at *
      all_goals have hD1 := hD.l
      all_goals first
        | exact rfl
        | exact trivial
        | exact hisF
        | exact hD1
        | (intro q; exact q)
        | (intro _; exact trivial)
        | (intro q; simpa using q)
        | (show okD 900 ⟨q, rowF cs, o, a, lf⟩; rw [hrow]; exact hD)
        | (have h1 : ¬ knE cs o name = 0 := hk0
           have hb2 : ¬ (Dk.mk q L o a lf).know name = 0 := by unfold Dk.know; rw [← hcs]; exact h1
           first
             | (rw [cut_no hb2, show (Dk.mk q L o a lf).know name = knE cs o name from by unfold Dk.know; rw [← hcs]]
                exact RetW.refl (dk_s (by omega) hcs hm))
             | (exfalso; simp only [cond_false] at h; cases h; done)
             | fail)
        | (have h1 : knE cs o name = 0 := hk0
           obtain ⟨k, f, e1, e2, e3, e4, e5, e6, e7, e8, e9, e10⟩ := know_cell hcs h1
           have hkn : (Dk.mk q L o a lf).know name = 0 := by unfold Dk.know; rw [← hcs]; exact h1
           have hrf : readF L name = f.data := by unfold readF; rw [← e2, e3]
           have hfb := (hfs f (List.mem_of_getElem? e3)).1
           have hj : k * 3 + 1 < cs.length := by omega
           have hj2 : k * 3 + 2 < cs.length := by omega
           have g9 : ∀ x, (splice cs (k * 3 + 1) [x])[k * 3 + 2]? = some (.d (.sc (.int .i64 f.kept))) := fun x => by rw [splc_get hj (by omega)]; exact e8
           have g8 : ∀ x, (splice cs (k * 3 + 1) [x]).length = cs.length := fun x => splice_len hj
           have has7 := one_at e7
           have has8 : ∀ x, [DV.d (.sc (.int .i64 f.kept))].length = 1 ∧ k * 3 + 2 + 1 ≤ cs.length ∧ ((splice cs (k * 3 + 1) [x]).drop (k * 3 + 2)).take 1 = [DV.d (.sc (.int .i64 f.kept))] := fun x => ⟨rfl, by omega, (one_at (g9 x)).2.2⟩
           have hz : Int.toNat 0 = 0 := rfl
           simp only [e1, Int.toNat_natCast, e7, hz, Nat.sub_zero, List.drop_zero, g9, g8, idX] at *
           first
             | exact ⟨by omega, by omega⟩
             | exact has7
             | exact fun _ => has7
             | exact fun _ => ⟨by omega, by omega⟩
             | exact hfb.take n.toNat
             | omega
             | exact has8 _
             | (have hh : (bif true then bif decide (n < 0) then true else decide ((f.data.length : Int) < n) else false) = true := by assumption
                simp only [cond_true] at hh
                have ha : n < 0 ∨ (f.data.length : Int) < n := by
                  by_cases h7 : n < 0
                  · exact .inl h7
                  · right; simpa [h7] using hh
                rw [cut_arg hkn (by rw [hrf]; exact ha)]
                exact RetW.refl (dk_s (by omega) hcs hm))
             | (have hh : (bif true then bif decide (n < 0) then true else decide ((f.data.length : Int) < n) else false) = false := by assumption
                simp only [cond_true] at hh
                have ha : ¬ (n < 0 ∨ (f.data.length : Int) < n) := by
                  by_cases h7 : n < 0
                  · simp [h7] at hh
                  · simp [h7] at hh
                    omega
                first
                  | exact ⟨by omega, by omega, by omega⟩
                  | (have h3 : ¬ powE a lf = 0 := of_decide_eq_false (by assumption)
                     rw [cut_pow hkn (by rw [hrf]; exact ha) h3]
                     exact RetW.refl (dk_s (by omega) hcs hm))
                  | (have h3 : powE a lf = 0 := of_decide_eq_true (by assumption)
                     have hat : (Dk.mk q L o a lf).at name = k := e2.symm
                     rw [cut_do hkn (by rw [hrf]; exact ha) h3]
                     simp only [hat]
                     rw [cutF_some e3, hcs, set_data L k f e3, set_kept _ k ⟨f.name, f.data.take n.toNat, f.kept⟩ (by simp [e4]), h3]
                     refine RetW.refl (dk_s (by omega) ?_ (by simp only [List.length_set]; exact hm))
                     simp only [List.set_set]
                     try rfl)
                  | fail)
             | fail)
        | fail
end Go.Proofs.Ytmjmbfcfnhnpmaa
namespace Go.Proofs.Ytmjmbfcfnhnpmaa
open Go.RowKit
set_option linter.all false
set_option maxHeartbeats 4000000
theorem told_freeze2 {k : Nat} {s s' : SL} {st st' : Store} (b sz : Nat) (xs : List (List PD)) (bx : Box) (hb : st[b]? = some bx) (hl : bx.live = true) (hcells : bx.cells = rowsD xs) (hsz : ∀ x ∈ xs, x.length = sz)
    (hst : st' = fzSt b sz xs st) (hs : toldP (fzD b bx.ver sz xs) s s') : Told k s st s' st' := by
  subst hst
  intro E N a hc he hsl
  obtain ⟨E', e1, e2, e3, e4, e5, _⟩ := freeze_env b sz xs bx hb hl hcells hsz E hc he
  refine ⟨E', e1, e2, e3, ⟨hsl.size, fun i => ?_, hsl.defers⟩, fun F hF _ hx => Ext.trans hF hc.len hx e5⟩
  rcases toldP_get hs i with h | h
  · rw [h]
    exact e4 _ _ (hsl.rep i)
  · rw [h]
    trivial
set_option maxRecDepth 100000 in
theorem w_rcrash0 (q : Int) (o a : Bool) (lf l : Int) (L : List FileM) (ps : List Int) (hfr : Fr.is L none) (hD : okD 900 ⟨q, L, o, a, lf⟩) (hp : ps.length ≤ 4194304) (hq : ∀ p ∈ ps, r64 p) : FnD Try.prog 44 [.ref 0 0 0, .d (.slc 1 (intsX ps))] (rS q none o a l) (fun r st' => r = .tup [] ∧ st' = rS q none false false (-1)) := by
  have hH : SoundK Try.prog [] := by exact noK_ok
  have hB : SoundB Try.prog [] := by exact noB_ok
  refine FnD_cbv (T := fun _ => tabY [5003] []) (H := fun _ => []) (tabY_ok _ _) hH follows_mixed Try.func44 rfl Try.ntmps44 (by simp) fun A X W hA hX hW => ?_
  cbv
  have l0 : A.cmp .lss 0 0 = false := by subst hA; rfl
  cbv at l0
  repeat (refine And.intro (by subst hA; exact rfl) ?_)
  refine unrollL (T := fun _ => tabY [5003] []) (H := fun _ => []) (tabY_ok _ _) noK_ok follows_mixed hA hX 1 fun R hR => ?_
  refine hR _ _ _ ?_
  cbv
  repeat (refine And.intro (by subst hA; exact rfl) ?_)
  simp only [l0]
  cbv
  subst hA hX hW
  exact RetW.refl ⟨rfl, rfl⟩
set_option maxRecDepth 100000 in
theorem w_rcrash1 (q : Int) (v m : Nat) (cs : List DV) (o a : Bool) (lf l : Int) (L : List FileM) (ps : List Int) (hfr : Fr.is L (some (v, m, cs))) (hD : okD 900 ⟨q, L, o, a, lf⟩) (hp : ps.length ≤ 4194304) (hq : ∀ p ∈ ps, r64 p) : FnD Try.prog 44 [.ref 0 0 0, .d (.slc 1 (intsX ps))] (rS q (some (v, m, cs)) o a l) (fun r st' => r = .tup [] ∧ st' = rS q (some (v, m, cellsF (crF ps L))) false false (-1)) := by
  obtain ⟨hcs, hm⟩ := hfr
  obtain ⟨xs, hxs⟩ : ∃ xs, xs = intsX ps := ⟨_, rfl⟩
  rw [← hxs]
  obtain ⟨n, hn⟩ : ∃ n : Int, n = L.length := ⟨_, rfl⟩
  have hn0 : 0 ≤ n := by omega
  have hn1 : n ≤ 900 := by have := hD.len; simp only at this; omega
  have hn2 : n = (m : Int) := by rw [hm]; exact hn
  have hxl : (xs.length : Int) = ps.length := by rw [hxs]; simp [intsX]
  have hH : SoundK Try.prog [] := by exact noK_ok
  have hB : SoundB Try.prog [] := by exact noB_ok
  refine FnD_cbv (T := fun _ => tabY [28, 36, 37, 38, 39, 40, 41, 42, 43, 44, 45, 46, 47, 48, 49, 50, 51, 52, 53, 54, 55, 56, 57, 58, 59, 60, 61, 62, 63, 64, 65, 66, 67, 68, 69, 70, 71, 72] [8, 9]) (H := fun _ => []) (tabY_ok _ _) hH follows_mixed Try.func44 rfl Try.ntmps44 (by simp) fun A X W hA hX hW => ?_
  cbv
  repeat (refine And.intro (by subst hA; exact rfl) ?_)
  refine loopL (T := fun _ => tabY [28, 36, 37, 38, 39, 40, 41, 42, 43, 44, 45, 46, 47, 48, 49, 50, 51, 52, 53, 54, 55, 56, 57, 58, 59, 60, 61, 62, 63, 64, 65, 66, 67, 68, 69, 70, 71, 72] [8, 9]) (H := fun _ => []) (tabY_ok _ _) noK_ok follows_mixed hA hX (fun x : Int × List DV => (0 ≤ x.1 ∧ x.1 ≤ n) ∧ x.2 = cellsF (crK ps L x.1.toNat)) (fun x => [(0, .ref 0 0 0), (1, .d (.slc 1 xs)), (4, .d (.sc (.int .i64 x.1)))]) (fun x => [rB q (.view 3 1 v 0 m) false a (-1), gB x.2 v]) (fun x => n.toNat - x.1.toNat) (0, cs) ?_ ?_ ?_
  · exact ⟨⟨Int.le_refl 0, hn0⟩, by rw [hcs]; simp [crK]⟩
  · exact told_less (by simp [toldP, getS])
  rintro R ⟨i, c0⟩ hR ⟨hi, hc0⟩
  replace hi : 0 ≤ i ∧ i ≤ n := hi
  replace hc0 : c0 = cellsF (crK ps L i.toNat) := hc0
  replace hn : n = (L.length : Int) := hn
  replace hn2 : n = (m : Int) := hn2
  have hxl2 : xs.length = ps.length := by rw [hxs]; simp [intsX]
  by_cases hlt : i < n
  · have hil : i.toNat < L.length := by omega
    obtain ⟨f, hf⟩ : ∃ f, L[i.toNat]? = some f := ⟨_, List.getElem?_eq_getElem hil⟩
    have hfL : okFile f := hD.fs f (List.mem_of_getElem? hf)
    have hk := crK_get ps L i.toNat f hf
    have hkl := (List.getElem?_eq_some_iff.1 hk).1
    have hke := (List.getElem?_eq_some_iff.1 hk).2
    obtain ⟨g0, g1, g2, g3, g4⟩ := file_cell hc0 i.toNat hkl
    rw [hke] at g1 g2
    have hbd := hfL.1.len
    have hsl := stay_le f (ps.getD i.toNat 0) hfL
    have hnz := nz_eq f hfL
    have hnx := crK_next ps L i.toNat f hf
    have hlen2 := crK_len ps L i.toNat (by omega)
    have hlc : c0.length = L.length * 3 := by rw [hc0, cellsF_len, hlen2]
    obtain ⟨p, hpv⟩ : ∃ p, p = ps.getD i.toNat 0 := ⟨_, rfl⟩
    rw [← hpv] at hsl hnx
    obtain ⟨s, hs⟩ : ∃ s, s = stayN f p := ⟨_, rfl⟩
    obtain ⟨dt, hdt⟩ : ∃ dt, dt = f.data.take s := ⟨_, rfl⟩
    have hq1 : cr1 f p = ⟨f.name, dt, s⟩ := by unfold cr1; rw [← hs, hdt]
    rw [hq1] at hnx
    rw [← hs] at hsl
    have hdl : (dt.length : Int) = s := by rw [hdt, List.length_take]; omega
    have hdn : dt.length ≤ 4000000 := by omega
    have hdc : dt.length = s := by omega
    have hdo : dt.length ≤ 9007199254740992 ∧ dt.length * 1 ≤ 140737488355328 := ⟨by omega, by omega⟩
    have hd1 : ∀ x ∈ dt, x.length = 1 := fun x hx => hfL.1.sz x (List.mem_of_mem_take (by rw [← hdt]; exact hx))
    obtain ⟨c1, hc1⟩ : ∃ c1, c1 = cellsF ((crK ps L i.toNat).set i.toNat ⟨f.name, dt, f.kept⟩) := ⟨_, rfl⟩
    have hk1 : ((crK ps L i.toNat).set i.toNat ⟨f.name, dt, f.kept⟩)[i.toNat]? = some ⟨f.name, dt, f.kept⟩ := by simp [hkl]
    have hkl1 := (List.getElem?_eq_some_iff.1 hk1).1
    have hke1 := (List.getElem?_eq_some_iff.1 hk1).2
    obtain ⟨p0, p1, p2, p3, p4⟩ := file_cell hc1 i.toNat hkl1
    rw [hke1] at p1 p2
    have hsk := set_kept _ i.toNat _ hk1 (s : Int)
    rw [List.set_set, hnx, ← hc1] at hsk
    have hfz : ∀ ver, fzL 2 ver 1 dt (splice c0 (i.toNat * 3 + 1) [.view 1 2 ver 0 dt.length]) = c1 := by
      intro ver
      rw [fzL_eq, splice_map (β := Nat) _ _ _ _ (by rw [← fzL_eq, hc0]; exact fz_cells 2 ver 1 dt _), hc1, ← set_data _ i.toNat f hk dt, hc0]
      simp [fzD]
    have hpl : ∀ κ, pullL κ (cellsF (crK ps L (i.toNat + 1))) = cellsF (crK ps L (i.toNat + 1)) := fun κ => by rw [pullL_eq]; exact pull_rows κ _
    have ei : IntKind.wrap .i64 (i + 1) = i + 1 := wrap_i64 (by unfold r64; omega)
    have t1 : A.cmp .lss i (A.int m) = true := by subst hA; exact decide_eq_true (show i < (m : Int) from by omega)
    have f1 : A.gl c0 (A.pl (A.off 0 i 3) 1) = f.data := by subst hA; simp only [A0, Nat.zero_add, g1]
    have f2 : A.gi c0 (A.pl (A.off 0 i 3) 2) = f.kept := by subst hA; simp only [A0, Nat.zero_add, g2]
    have f6 : A.sub f.data 0 (s : Int) = dt := by subst hA; simp only [A0]; rw [hdt]; simp
    have f7 : A.gl c1 (A.pl (A.off 0 i 3) 1) = dt := by subst hA; simp only [A0, Nat.zero_add, p1]
    have hes : ∀ pk, pk = max p 0 → IntKind.wrap .i64 (f.kept + pk.tmod (IntKind.wrap .i64 (IntKind.wrap .i64 ((f.data.length : Int) - f.kept) + 1))) = (s : Int) := fun pk hpk => by rw [hs]; exact stay_eq f p pk hfL hpk
    cbv at t1 f1 f2 f6 f7
    by_cases hxi : i < (xs.length : Int)
    · have t2 : A.cmp .lss i (A.len xs) = true := by subst hA; exact decide_eq_true hxi
      have hrow : xs.getD i.toNat [] = [.sc (.int .i64 p)] := by
        have h7 : i.toNat < ps.length := by omega
        rw [hxs, hpv]
        simp [intsX, List.getD_eq_getElem?_getD, h7]
      have f3 : A.gi (A.lift (A.row xs i)) 0 = p := by subst hA; simp only [A0, hrow]; rfl
      have f4 : A.bin .add .i64 f.kept (A.bin .rem .i64 (A.mm true p 0) (A.bin .add .i64 (A.bin .sub .i64 (A.len f.data) f.kept) 1)) = (s : Int) := by subst hA; exact hes (max p 0) rfl
      cbv at t2 f3 f4
      cbv
      repeat' first
        | (simp only [t1, t2, f1, f2, f3, f4, f6, f7]; cbv)
        | ((with_reducible refine regionU (id := 8) [] [] [50, 50, 1, 1, 1, 1, 1, 1, 1, 1, 1, 1, 1, 1, 1, 1, 1, 1, 1, 1, 1, 1, 1, 1, 1, 50, 50, 50, 50] (T := fun _ => tabY [28, 36, 37, 38, 39, 40, 41, 42, 43, 44, 45, 46, 47, 48, 49, 50, 51, 52, 53, 54, 55, 56, 57, 58, 59, 60, 61, 62, 63, 64, 65, 66, 67, 68, 69, 70, 71, 72] []) (H := fun _ => []) (B := fun _ => []) (R := fun _ => []) (A := A) (tabY_ok _ _) hH noB_ok noR_ok follows_mixed hA hX (by kernel_rfl) (by kernel_rfl) (by kernel_rfl) (by kernel_rfl) (by kernel_rfl) ?_) <;> cbv)
        | (refine pauseL (c := .region 9 _ _) hX (s' := [(0, .ref 0 0 0), (1, .d (.slc 1 xs)), (4, .d (.sc (.int .i64 i))), (6, .ref 1 v (A.off 0 i 3))]) (st' := [rB q (.view 3 1 v 0 m) false a (-1), gB c1 v, ⟨5, [], false, 2, false⟩]) ?_ ?_
           rotate_left 1
           refine goL (c := .region 9 _ _) (T := fun _ => tabY [28, 36, 37, 38, 39, 40, 41, 42, 43, 44, 45, 46, 47, 48, 49, 50, 51, 52, 53, 54, 55, 56, 57, 58, 59, 60, 61, 62, 63, 64, 65, 66, 67, 68, 69, 70, 71, 72] []) (H := fun _ => []) (tabY_ok _ _) noK_ok follows_mixed hA hX ?_
           cbv)
        | (refine And.intro ?_ ?_)
      all_goals subst hA hX
      all_goals try simp only [A0, nc, Nat.zero_add, Nat.add_zero, List.nil_append, List.drop_zero]
      all_goals first
        | exact rfl
        | exact trivial
        | exact ⟨hi.1, by omega⟩
        | exact ⟨by omega, by omega⟩
        | omega
        | (refine told_freeze2 2 1 dt ⟨5, rowsD dt, true, 1, true⟩ ?_ rfl rfl hd1 ?_ ?_
           · rfl
           · simp [fzSt, fzBox, fzL, fzD, hfz]
           · simp [toldP, getS, fzD])
        | (rw [hrow]; exact ⟨rfl, Nat.le_refl _, rfl⟩)
        | exact one_at g1
        | exact one_at g2
        | exact one_at p1
        | exact (show (0 : Int) ≤ 0 ∧ (0 : Int) ≤ (s : Int) ∧ (s : Int) ≤ (f.data.length : Int) from ⟨by omega, by omega, by omega⟩)
        | exact hdo
        | exact ⟨by omega, by omega⟩
        | (rw [hdc]
           rw [show splice c1 (i.toNat * 3 + 2) [.d (.sc (.int .i64 (s : Int)))] = cellsF (crK ps L (i.toNat + 1)) from hsk]
           subst hR
           refine ⟨(i + 1, cellsF (crK ps L (i.toNat + 1))), ⟨⟨by simp only; omega, by simp only; omega⟩, by simp only; rw [show (i + 1).toNat = i.toNat + 1 by omega]⟩, by simp only; omega, told_keep [0, 1] rfl ?_ ?_⟩
           · simp [keepSt, pullBox, pullL, pullD, hpl]
             try rfl
           · simp [toldP, getS, pullD, ei]
             try rfl)
        | fail
    · have t2 : A.cmp .lss i (A.len xs) = false := by subst hA; exact decide_eq_false hxi
      have hp0 : p = 0 := by
        rw [hpv, List.getD_eq_getElem?_getD, List.getElem?_eq_none (by omega)]
        rfl
      have f3 := True.intro
      have f4 : A.bin .add .i64 f.kept (A.bin .rem .i64 0 (A.bin .add .i64 (A.bin .sub .i64 (A.len f.data) f.kept) 1)) = (s : Int) := by subst hA; exact hes 0 (by rw [hp0]; rfl)
      cbv at t2 f4
      cbv
      repeat' first
        | (simp only [t1, t2, f1, f2, f3, f4, f6, f7]; cbv)
        | ((with_reducible refine regionU (id := 8) [] [] [50, 50, 1, 1, 1, 1, 1, 1, 1, 1, 1, 1, 1, 1, 1, 1, 1, 1, 1, 1, 1, 1, 1, 1, 1, 50, 50, 50, 50] (T := fun _ => tabY [28, 36, 37, 38, 39, 40, 41, 42, 43, 44, 45, 46, 47, 48, 49, 50, 51, 52, 53, 54, 55, 56, 57, 58, 59, 60, 61, 62, 63, 64, 65, 66, 67, 68, 69, 70, 71, 72] []) (H := fun _ => []) (B := fun _ => []) (R := fun _ => []) (A := A) (tabY_ok _ _) hH noB_ok noR_ok follows_mixed hA hX (by kernel_rfl) (by kernel_rfl) (by kernel_rfl) (by kernel_rfl) (by kernel_rfl) ?_) <;> cbv)
        | (refine pauseL (c := .region 9 _ _) hX (s' := [(0, .ref 0 0 0), (1, .d (.slc 1 xs)), (4, .d (.sc (.int .i64 i))), (6, .ref 1 v (A.off 0 i 3))]) (st' := [rB q (.view 3 1 v 0 m) false a (-1), gB c1 v, ⟨5, [], false, 2, false⟩]) ?_ ?_
           rotate_left 1
           refine goL (c := .region 9 _ _) (T := fun _ => tabY [28, 36, 37, 38, 39, 40, 41, 42, 43, 44, 45, 46, 47, 48, 49, 50, 51, 52, 53, 54, 55, 56, 57, 58, 59, 60, 61, 62, 63, 64, 65, 66, 67, 68, 69, 70, 71, 72] []) (H := fun _ => []) (tabY_ok _ _) noK_ok follows_mixed hA hX ?_
           cbv)
        | (refine And.intro ?_ ?_)
      all_goals subst hA hX
      all_goals try simp only [A0, nc, Nat.zero_add, Nat.add_zero, List.nil_append, List.drop_zero]
      all_goals first
        | exact rfl
        | exact trivial
        | exact ⟨hi.1, by omega⟩
        | exact ⟨by omega, by omega⟩
        | omega
        | (refine told_freeze2 2 1 dt ⟨5, rowsD dt, true, 1, true⟩ ?_ rfl rfl hd1 ?_ ?_
           · rfl
           · simp [fzSt, fzBox, fzL, fzD, hfz]
           · simp [toldP, getS, fzD])
        | (rw [hrow]; exact ⟨rfl, Nat.le_refl _, rfl⟩)
        | exact one_at g1
        | exact one_at g2
        | exact one_at p1
        | exact (show (0 : Int) ≤ 0 ∧ (0 : Int) ≤ (s : Int) ∧ (s : Int) ≤ (f.data.length : Int) from ⟨by omega, by omega, by omega⟩)
        | exact hdo
        | exact ⟨by omega, by omega⟩
        | (rw [hdc]
           rw [show splice c1 (i.toNat * 3 + 2) [.d (.sc (.int .i64 (s : Int)))] = cellsF (crK ps L (i.toNat + 1)) from hsk]
           subst hR
           refine ⟨(i + 1, cellsF (crK ps L (i.toNat + 1))), ⟨⟨by simp only; omega, by simp only; omega⟩, by simp only; rw [show (i + 1).toNat = i.toNat + 1 by omega]⟩, by simp only; omega, told_keep [0, 1] rfl ?_ ?_⟩
           · simp [keepSt, pullBox, pullL, pullD, hpl]
             try rfl
           · simp [toldP, getS, pullD, ei]
             try rfl)
        | fail
  · have hge : L.length ≤ i.toNat := by omega
    have t1 : A.cmp .lss i (A.int m) = false := by subst hA; exact decide_eq_false (show ¬ i < (m : Int) from by omega)
    cbv at t1
    cbv
    repeat' first
      | (simp only [t1]; cbv)
      | (refine And.intro ?_ ?_)
    all_goals subst hA hX hW
    all_goals first
      | exact rfl
      | (have e : crK ps L i.toNat = crF ps L := by
           unfold crK
           rw [List.take_of_length_le (show (crF ps L).length ≤ i.toNat by rw [crF_len]; exact hge), List.drop_eq_nil_of_le hge, List.append_nil]
         rw [hc0, e]
         exact RetW.refl ⟨rfl, rfl⟩)
      | fail
end Go.Proofs.Ytmjmbfcfnhnpmaa
namespace Go.Proofs.Ytmjmbfcfnhnpmaa
open Go.RowKit
set_option linter.all false
set_option maxHeartbeats 4000000
theorem bump_rR {D : Dk} {u n w : Nat} {L : List FileM} (res : DV) (hres : ∀ b v w, bumpD b v w res = res) (h : u ≤ w) (hn : n = L.length) {R : DV → Store → Prop} {k : Nat} (hR : R res [rB D.q (.view 3 1 w 0 L.length) D.o D.a (rlf D.a D.l), gB (cellsF L) w]) : RetW k R res [rB D.q (.view 3 1 u 0 n) D.o D.a (rlf D.a D.l), gB (cellsF L) u] := by
  subst hn
  refine ret_bump2 1 w (gB (cellsF L) u) rfl rfl h ?_
  have e1 : bumpD 1 (gB (cellsF L) u).ver w res = res := hres _ _ _
  have hc : ∀ b v w, bumpL b v w (cellsF L) = cellsF L := fun b v w => by
    rw [bumpL_eq, cellsF, rowsD, List.map_map]
    rfl
  have e2 : bumpSt 1 w [rB D.q (.view 3 1 u 0 L.length) D.o D.a (rlf D.a D.l), gB (cellsF L) u] = [rB D.q (.view 3 1 w 0 L.length) D.o D.a (rlf D.a D.l), gB (cellsF L) w] := by
    simp [bumpSt, hc, bumpL, bumpD]
  rw [e1, e2]
  exact RetW.refl hR
theorem FnD.rfix1 {P : Program} {f : FuncId} {args : List DV} {q : Int} {v n : Nat} {cs : List DV} {o a : Bool} {l : Int} {D : Dk} {res : DV} (hres : ∀ b v w, bumpD b v w res = res) (h : FnD P f args (rS q (some (v, n, cs)) o a l) fun r st' => rkR (some (v, n, cs)) D res r st') : FnD P f args (rS q (some (v, n, cs)) o a l) fun r st' => r = res ∧ st' = rS D.q (some (v + 9, D.L.length, cellsF D.L)) D.o D.a (rlf D.a D.l) := by
  refine FnD.ret (h.mono ?_)
  rintro r st' ⟨fr', h1, h2, h3, rfl, rfl⟩
  rcases h1 with ⟨h1, _⟩ | ⟨_, h1⟩
  · cases h1
  · rcases fr' with _ | ⟨u, n', cs'⟩
    · exact absurd rfl h1
    · obtain ⟨rfl, hn⟩ := h3
      exact bump_rR _ hres h2 hn ⟨rfl, rfl⟩
def rkN (D : Dk) : Store := if D.L = [] then rS D.q none D.o D.a (rlf D.a D.l) else rS D.q (some (9, D.L.length, cellsF D.L)) D.o D.a (rlf D.a D.l)
theorem FnD.rfix0 {P : Program} {f : FuncId} {args : List DV} {q : Int} {o a : Bool} {l : Int} {D : Dk} {res : DV} (hres : ∀ b v w, bumpD b v w res = res) (h : FnD P f args (rS q none o a l) fun r st' => rkR none D res r st') : FnD P f args (rS q none o a l) fun r st' => r = res ∧ st' = rkN D := by
  refine FnD.ret (h.mono ?_)
  rintro r st' ⟨fr', h1, h2, h3, rfl, rfl⟩
  rcases fr' with _ | ⟨u, n', cs'⟩
  · have h3' : D.L = [] := h3
    refine RetW.refl ⟨rfl, ?_⟩
    rw [rkN, if_pos h3']
  · obtain ⟨rfl, hn⟩ := h3
    rcases h1 with ⟨_, h1⟩ | ⟨h1, _⟩
    · rcases h1 with h1 | h1
      · cases h1
      · refine bump_rR _ hres h2 hn ⟨rfl, ?_⟩
        rw [rkN, if_neg h1]
        rfl
    · exact absurd rfl h1
/-- A change of a disk with a row, at any two places. -/
theorem FnD.rfixA1 {P : Program} {f : FuncId} {args : List DV} {st : Store} {K : DV → Store → Prop} {q : Int} {v n : Nat} {cs : List DV} {o a : Bool} {l : Int} {D : Dk} {res : DV} (b c : Nat) (hres : ∀ b v w, bumpD b v w res = res) (hrc : closedD 0 res = true)
    (h : FnD P f (.ref 0 0 0 :: args) (rS q (some (v, n, cs)) o a l) fun r st' => rkR (some (v, n, cs)) D res r st') (hb : st[b]? = some (rB q (.view 3 c v 0 n) o a l)) (hc : st[c]? = some (gB cs v)) (hbc : b ≠ c) (hcs : ∃ L, cs = cellsF L) (ha : closedL 0 args = true)
    (hk : K res ((st.set b (rB D.q (.view 3 c (v + 9) 0 D.L.length) D.o D.a (rlf D.a D.l))).set c (gB (cellsF D.L) (v + 9)))) : FnD P f (.ref b 0 0 :: args) st K := by
  refine FnD.rk (β := Unit) (G := fun _ => True) (res := fun _ => res) (q' := fun _ => D.q) (l' := fun _ => rlf D.a D.l) (o' := fun _ => D.o) (a' := fun _ => D.a) (v' := fun _ => v + 9) (n' := fun _ => D.L.length) (cs' := fun _ => cellsF D.L) b c (FnD.mono (FnD.rfix1 hres h) fun r st' h => ⟨(), trivial, h.1, h.2⟩) hb hc hbc ha (fun _ _ => hrc) ?_ ?_ fun _ _ => hk
  · obtain ⟨L, rfl⟩ := hcs
    rw [cellsF, rowsD]
    exact closedL_data 0 _
  · intro _ _
    rw [cellsF, rowsD]
    exact closedL_data 0 _
/-- A change of a disk without a row, at any place. -/
theorem FnD.rfixA0 {P : Program} {f : FuncId} {args : List DV} {st : Store} {K : DV → Store → Prop} {q : Int} {o a : Bool} {l : Int} {D : Dk} {res : DV} (b : Nat) (hres : ∀ b v w, bumpD b v w res = res) (hrc : closedD 0 res = true)
    (h : FnD P f (.ref 0 0 0 :: args) (rS q none o a l) fun r st' => rkR none D res r st') (hb : st[b]? = some (rB q (.d (.sc (.slice none 0 0))) o a l)) (ha : closedL 0 args = true)
    (hk : K res (if D.L = [] then st.set b (rB D.q (.d (.sc (.slice none 0 0))) D.o D.a (rlf D.a D.l)) else st.set b (rB D.q (.view 3 st.length 9 0 D.L.length) D.o D.a (rlf D.a D.l)) ++ [gB (cellsF D.L) 9])) : FnD P f (.ref b 0 0 :: args) st K := by
  by_cases h0 : D.L = []
  · rw [if_pos h0] at hk
    refine FnD.rk0 (β := Unit) (G := fun _ => True) (fr' := fun _ => none) (res := fun _ => res) (q' := fun _ => D.q) (l' := fun _ => rlf D.a D.l) (o' := fun _ => D.o) (a' := fun _ => D.a) b (FnD.mono (FnD.rfix0 hres h) fun r st' h => ⟨(), trivial, h.1, ?_⟩) hb ha (fun _ _ => hrc) (fun _ _ _ _ _ h => by cases h) fun _ _ => ⟨fun _ => hk, fun _ _ _ h => by cases h⟩
    rw [h.2, rkN, if_pos h0]
  · rw [if_neg h0] at hk
    refine FnD.rk0 (β := Unit) (G := fun _ => True) (fr' := fun _ => some (9, D.L.length, cellsF D.L)) (res := fun _ => res) (q' := fun _ => D.q) (l' := fun _ => rlf D.a D.l) (o' := fun _ => D.o) (a' := fun _ => D.a) b (FnD.mono (FnD.rfix0 hres h) fun r st' h => ⟨(), trivial, h.1, ?_⟩) hb ha (fun _ _ => hrc) ?_ fun _ _ => ⟨fun h => (by cases h), fun v n cs h => (by cases h; exact hk)⟩
    · rw [h.2, rkN, if_neg h0]
    · intro _ v n cs _ h
      cases h
      rw [cellsF, rowsD]
      exact closedL_data 0 _
theorem okD.cut {k : Nat} {D : Dk} (h : okD k D) (name : ByteArray) (n : Int) : okD k (D.cut name n).2 := by
  unfold Dk.cut
  split
  · split
    · exact h
    · rename_i hn
      split
      · unfold cutF
        split
        · rename_i f h1
          have hl : (f.data.take n.toNat).length ≤ f.data.length := by rw [List.length_take]; omega
          refine ⟨h.q, ?_, ?_, fun g hg => ?_, powL_ok h.l⟩
          · show totF (D.L.set _ _) ≤ D.q
            rw [totF_set h1]
            have := h.tot
            simp only
            omega
          · show (D.L.set _ _).length ≤ k
            rw [List.length_set]; exact h.len
          · rcases List.mem_or_eq_of_mem_set hg with hg | rfl
            · exact h.fs g hg
            · obtain ⟨k1, k2, k3⟩ := h.fs f (List.mem_of_getElem? h1)
              refine ⟨k1.take _, ?_, ?_⟩
              · simp only; omega
              · simp only [List.length_take]
                omega
        · exact h.pow
      · exact h.pow
  · exact h
theorem srtF.cutD {D : Dk} (h : srtF D.L) (name : ByteArray) (n : Int) : srtF (D.cut name n).2.L := by
  unfold Dk.cut
  split
  · split
    · exact h
    · split
      · exact h.cut _ _
      · exact h
  · exact h
theorem srtF.appD {D : Dk} (h : srtF D.L) (name : ByteArray) (p : List (List PD)) : srtF (D.app name p).2.L := by
  unfold Dk.app
  repeat' split
  all_goals first
    | exact h
    | exact h.app _ _
theorem srtF.syncD {D : Dk} (h : srtF D.L) (name : ByteArray) : srtF (D.sync name).2.L := by
  unfold Dk.sync
  repeat' split
  all_goals first
    | exact h
    | exact h.kept _
theorem srtF.remD {D : Dk} (h : srtF D.L) (name : ByteArray) : srtF (D.rem name).2.L := by
  unfold Dk.rem
  repeat' split
  all_goals first
    | exact h
    | exact h.out _
theorem srtF.renD {D : Dk} (h : srtF D.L) (name to : ByteArray) : srtF (D.ren name to).2.L := by
  unfold Dk.ren
  repeat' split
  all_goals first
    | exact h
    | exact h.ren _ _
end Go.Proofs.Ytmjmbfcfnhnpmaa
namespace Go.Proofs.Ytmjmbfcfnhnpmaa
open Go.RowKit
set_option linter.all false
/-- All names are right. -/
def nmF (L : List FileM) : Prop := ∀ f ∈ L, mayF f.name = true
theorem nmF.set {L : List FileM} {k : Nat} {f g : FileM} (h : nmF L) (hk : L[k]? = some f) (e : g.name = f.name) : nmF (L.set k g) := fun x hx => by
  rcases List.mem_or_eq_of_mem_set hx with hx | rfl
  · exact h x hx
  · rw [e]; exact h f (List.mem_of_getElem? hk)
theorem nmF.plc {L : List FileM} (h : nmF L) {nm : ByteArray} (hn : mayF nm = true) : nmF (plcL nm L) := fun x hx => by
  unfold plcL at hx
  split at hx
  · exact h x hx
  · rcases List.mem_append.1 hx with hx | hx
    · rcases List.mem_append.1 hx with hx | hx
      · exact h x (List.mem_of_mem_take hx)
      · simp at hx
        rw [hx]; exact hn
    · exact h x (List.mem_of_mem_drop hx)
theorem nmF.out {L : List FileM} (h : nmF L) (k : Nat) : nmF (outFl L k) := fun x hx => by
  rcases List.mem_append.1 hx with hx | hx
  · exact h x (List.mem_of_mem_take hx)
  · exact h x (List.mem_of_mem_drop hx)
theorem nmF.add {L : List FileM} (h : nmF L) {nm : ByteArray} (hn : mayF nm = true) (p : List (List PD)) : nmF (addF L nm p) := by
  obtain ⟨f, h1, h2, h3, h4, _⟩ := plc_get nm L
  rw [h4]
  exact (h.plc hn).set h1 rfl
theorem nmF.place {L : List FileM} (h : nmF L) (g : FileM) (hn : mayF g.name = true) : nmF (placeF L g) := by
  obtain ⟨f, h1, h2, h3, _, h4, _⟩ := plc_get g.name L
  have := h4 g.data g.kept
  rw [show placeF L g = _ from this]
  exact (h.plc hn).set h1 rfl
theorem nmF.appD {D : Dk} (h : nmF D.L) (name : ByteArray) (p : List (List PD)) : nmF (D.app name p).2.L := by
  unfold Dk.app
  split
  · exact h
  · split
    · exact h
    · rename_i hm
      split
      · exact h
      · split
        · exact h.add (by simpa using hm) _
        · exact h
theorem nmF.syncD {D : Dk} (h : nmF D.L) (name : ByteArray) : nmF (D.sync name).2.L := by
  unfold Dk.sync setKept
  repeat' split
  all_goals first
    | exact h
    | exact h.set ‹D.L[D.at name]? = some _› (by first | rfl | (simp only; rfl))
theorem nmF.remD {D : Dk} (h : nmF D.L) (name : ByteArray) : nmF (D.rem name).2.L := by
  unfold Dk.rem
  repeat' split
  all_goals first
    | exact h
    | exact h.out _
theorem nmF.cutD {D : Dk} (h : nmF D.L) (name : ByteArray) (n : Int) : nmF (D.cut name n).2.L := by
  unfold Dk.cut cutF
  repeat' split
  all_goals first
    | exact h
    | exact h.set ‹D.L[D.at name]? = some _› (by first | rfl | (simp only; rfl))
theorem nmF.renD {D : Dk} (h : nmF D.L) (name to : ByteArray) : nmF (D.ren name to).2.L := by
  unfold Dk.ren
  split
  · exact h
  · rename_i hm
    split
    · split
      · rename_i hk _
        have ho := (know_ok hk).1
        have hm2 : mayF to = true := by
          cases e : mayF to with
          | true => rfl
          | false => exact absurd ⟨ho, e⟩ hm
        unfold renF
        split
        · exact (h.out _).place _ hm2
        · exact h
      · exact h
    · exact h
theorem nmF.crashD {D : Dk} (h : nmF D.L) (ps : List Int) : nmF (D.crash ps).L := fun x hx => by
  obtain ⟨i, hi⟩ := List.mem_iff_getElem?.1 hx
  have hi2 : (crF ps D.L)[i]? = some x := hi
  unfold crF at hi2
  rw [List.getElem?_mapIdx] at hi2
  cases e : D.L[i]? with
  | none => rw [e] at hi2; cases hi2
  | some f =>
    rw [e] at hi2
    simp only [Option.map_some, Option.some.injEq] at hi2
    rw [← hi2]
    exact h f (List.mem_of_getElem? e)
/-- A name that may not be is found nowhere. -/
theorem nmF.no {D : Dk} (h : nmF D.L) {nm : ByteArray} (hn : mayF nm = false) : (findF nm D.L 0).2 = false := by
  cases e : (findF nm D.L 0).2 with
  | false => rfl
  | true =>
    obtain ⟨f, h4, h5⟩ := Dk.at_get (D := D) e
    have := h f (List.mem_of_getElem? h4)
    rw [h5, hn] at this
    cases this
end Go.Proofs.Ytmjmbfcfnhnpmaa
namespace Go.Proofs.Ytmjmbfcfnhnpmaa
open Go.RowKit
set_option linter.all false
set_option maxHeartbeats 4000000
set_option maxRecDepth 100000 in
theorem w_newX (q : Int) (hq : q < 0 ∨ 1048576 < q) : FnD Try.prog 10 [.d (.sc (.int .i64 q))] [] (fun r st' => r = .tup [.d (.sc (.pointer none)), .d (.sc (.int .i64 1))] ∧ st' = []) := by
  have hH : SoundK Try.prog [] := by exact noK_ok
  have hB : SoundB Try.prog [] := by exact noB_ok
  refine FnD_cbv (T := fun _ => tabY [] []) (H := fun _ => []) (tabY_ok _ _) hH follows_mixed Try.func10 rfl Try.ntmps10 (by simp) fun A X W hA hX hW => ?_
  cbv
  repeat' first
    | (refine part (fun h => ?_) (fun h => ?_) <;> try cbv)
    | (refine And.intro ?_ ?_)
  all_goals subst hA hX hW
  all_goals first
    | exact RetW.refl ⟨rfl, rfl⟩
    | exact rfl
    | (intro q; exact q)
    | (intro q; simpa [A0] using q)
    | (intro _; exact trivial)
    | (simp [A0]; done)
    | (exfalso
       have h9 : A0.cond (A0.cmp .lss q 0) true (A0.cmp .gtr q 1048576) = false := by assumption
       simp only [A0, cond_eq_ite] at h9
       by_cases h8 : q < 0
       · simp [h8] at h9
       · simp [h8] at h9
         omega)
    | fail
set_option maxRecDepth 100000 in
theorem w_rnewX (q : Int) (hq : q < 0 ∨ 1048576 < q) : FnD Try.prog 26 [.d (.sc (.int .i64 q))] [] (fun r st' => r = .tup [.d (.sc (.pointer none)), .d (.sc (.int .i64 1))] ∧ st' = []) := by
  have hH : SoundK Try.prog [] := by exact noK_ok
  have hB : SoundB Try.prog [] := by exact noB_ok
  refine FnD_cbv (T := fun _ => tabY [] []) (H := fun _ => []) (tabY_ok _ _) hH follows_mixed Try.func26 rfl Try.ntmps26 (by simp) fun A X W hA hX hW => ?_
  cbv
  repeat' first
    | (refine part (fun h => ?_) (fun h => ?_) <;> try cbv)
    | (refine And.intro ?_ ?_)
  all_goals subst hA hX hW
  all_goals first
    | exact RetW.refl ⟨rfl, rfl⟩
    | exact rfl
    | (intro q; exact q)
    | (intro q; simpa [A0] using q)
    | (intro _; exact trivial)
    | (simp [A0]; done)
    | (exfalso
       have h9 : A0.cond (A0.cmp .lss q 0) true (A0.cmp .gtr q 1048576) = false := by assumption
       simp only [A0, cond_eq_ite] at h9
       by_cases h8 : q < 0
       · simp [h8] at h9
       · simp [h8] at h9
         omega)
    | fail
/-- Armed alike. -/
theorem arm_rlf (k : Int) : rlf (decide (0 ≤ k)) (max k 0) = max k (-1) := by
  by_cases h : 0 ≤ k
  · rw [decide_eq_true h]
    show max k 0 = max k (-1)
    omega
  · rw [decide_eq_false h]
    show (-1 : Int) = max k (-1)
    omega
end Go.Proofs.Ytmjmbfcfnhnpmaa
namespace Go.Proofs.Ytmjmbfcfnhnpmaa
open Go.RowKit
set_option linter.all false
/-- What one call leaves of a disk. -/
def Dk.call (D : Dk) (a : AskM) (ps : List Int) : Dk :=
  if a.k = 1 then (D.app a.nm a.d).2 else if a.k = 2 then (D.sync a.nm).2 else if a.k = 3 then (D.cut a.nm a.n).2 else if a.k = 4 then (D.ren a.nm a.to).2 else if a.k = 5 then (D.rem a.nm).2 else if a.k = 6 then ⟨D.q, D.L, D.o, decide (0 ≤ a.n), max a.n 0⟩ else if a.k = 7 then D.crash ps else D
/-- What the law's walk keeps. -/
structure okP (k : Nat) (D : Dk) : Prop where
  ok : okD k D
  srt : srtF D.L
  nm : nmF D.L
theorem okP.call {k : Nat} {D : Dk} (h : okP k D) {a : AskM} (ha : okAsk a) (ps : List Int) : okP (k + 1) (D.call a ps) := by
  obtain ⟨a1, a2, a3, a4, a5, a6⟩ := ha
  have hm : ∀ {D' : Dk}, okD k D' → okD (k + 1) D' := fun h => h.mono (Nat.le_succ k)
  unfold Dk.call
  split
  · exact ⟨h.ok.app a5, h.srt.appD _ _, h.nm.appD _ _⟩
  split
  · exact ⟨hm (h.ok.sync _), h.srt.syncD _, h.nm.syncD _⟩
  split
  · exact ⟨hm (h.ok.cut _ _), h.srt.cutD _ _, h.nm.cutD _ _⟩
  split
  · exact ⟨hm (h.ok.ren _ _), h.srt.renD _ _, h.nm.renD _ _⟩
  split
  · exact ⟨hm (h.ok.rem _), h.srt.remD _, h.nm.remD _⟩
  split
  · refine ⟨hm ⟨h.ok.q, h.ok.tot, h.ok.len, h.ok.fs, ?_⟩, h.srt, h.nm⟩
    unfold r64 at a2
    show 0 ≤ max a.n 0 ∧ max a.n 0 ≤ 9223372036854775807
    omega
  split
  · exact ⟨hm (h.ok.crash ps), h.srt.crash ps, h.nm.crashD ps⟩
  · exact ⟨hm h.ok, h.srt, h.nm⟩
theorem okP.new {q : Int} (h : 0 ≤ q ∧ q ≤ 1048576) : okP 0 ⟨q, [], false, false, 0⟩ := ⟨⟨h, h.1, Nat.le_refl 0, fun f hf => (by cases hf), (show (0 : Int) ≤ 0 ∧ (0 : Int) ≤ 9223372036854775807 from ⟨by decide, by decide⟩)⟩, List.Pairwise.nil, fun f hf => (by cases hf)⟩
end Go.Proofs.Ytmjmbfcfnhnpmaa
namespace Go.Proofs.Ytmjmbfcfnhnpmaa
open Go.RowKit
set_option linter.all false
set_option maxHeartbeats 4000000
abbrev nilV : DV := .d (.sc (.slice none 0 0))
section
variable {f : FuncId} {args : List DV} {q : Int} {o a : Bool} {l : Int} {v n : Nat} {cs : List DV} {res : DV} {L : List FileM} {q9 l9 : Int} {o9 a9 : Bool} {L9 : List FileM} {n9 w : Nat} {c9 : List DV} {K : DV → Store → Prop} {X Y V : Box} {Z : Store} {lr lr9 : Int}
theorem pD1 (h : FnD Try.prog f (.ref 0 0 0 :: args) (dkS q (some (v, n, cs)) o a l) fun r st' => dkR (some (v, n, cs)) ⟨q9, L9, o9, a9, l9⟩ res r st') (hres : ∀ b v w, bumpD b v w res = res) (hrc : closedD 0 res = true) (ha : closedL 0 args = true) (hcs : cs = cellsF L) (hn9 : n9 = L9.length) (hc9 : c9 = cellsF L9) (hw : w = v + 9) (hK : K res (dB q9 (.view 3 2 w 0 n9) o9 a9 l9 :: X :: fB c9 w :: Y :: Z)) : FnD Try.prog f (.ref 0 0 0 :: args) (dB q (.view 3 2 v 0 n) o a l :: X :: fB cs v :: Y :: Z) K := by
  subst hn9 hc9 hw
  exact FnD.fixA1 (D := ⟨q9, L9, o9, a9, l9⟩) 0 2 hres hrc h rfl rfl (by decide) ⟨L, hcs⟩ ha hK
theorem pR1 (h : FnD Try.prog f (.ref 0 0 0 :: args) (rS q (some (v, n, cs)) o a lr) fun r st' => rkR (some (v, n, cs)) ⟨q9, L9, o9, a9, l9⟩ res r st') (hres : ∀ b v w, bumpD b v w res = res) (hrc : closedD 0 res = true) (ha : closedL 0 args = true) (hcs : cs = cellsF L) (hn9 : n9 = L9.length) (hc9 : c9 = cellsF L9) (hw : w = v + 9) (hlr0 : lr = rlf a l) (hlr : lr9 = rlf a9 l9) (hK : K res (X :: rB q9 (.view 3 3 w 0 n9) o9 false lr9 :: Y :: gB c9 w :: Z)) : FnD Try.prog f (.ref 1 0 0 :: args) (X :: rB q (.view 3 3 v 0 n) o false lr :: Y :: gB cs v :: Z) K := by
  subst hn9 hc9 hw hlr hlr0
  exact FnD.rfixA1 (D := ⟨q9, L9, o9, a9, l9⟩) 1 3 hres hrc h rfl rfl (by decide) ⟨L, hcs⟩ ha hK
theorem pD0e (h : FnD Try.prog f (.ref 0 0 0 :: args) (dkS q none o a l) fun r st' => dkR none ⟨q9, L9, o9, a9, l9⟩ res r st') (hres : ∀ b v w, bumpD b v w res = res) (hrc : closedD 0 res = true) (ha : closedL 0 args = true) (h0 : L9 = []) (hK : K res (dB q9 nilV o9 a9 l9 :: X :: Z)) : FnD Try.prog f (.ref 0 0 0 :: args) (dB q nilV o a l :: X :: Z) K :=
  FnD.fixA0 (D := ⟨q9, L9, o9, a9, l9⟩) 0 hres hrc h rfl ha (by rw [if_pos h0]; exact hK)
theorem pR0e (h : FnD Try.prog f (.ref 0 0 0 :: args) (rS q none o a lr) fun r st' => rkR none ⟨q9, L9, o9, a9, l9⟩ res r st') (hres : ∀ b v w, bumpD b v w res = res) (hrc : closedD 0 res = true) (ha : closedL 0 args = true) (h0 : L9 = []) (hlr0 : lr = rlf a l) (hlr : lr9 = rlf a9 l9) (hK : K res (X :: rB q9 nilV o9 false lr9 :: Z)) : FnD Try.prog f (.ref 1 0 0 :: args) (X :: rB q nilV o false lr :: Z) K := by
  subst hlr hlr0
  exact FnD.rfixA0 (D := ⟨q9, L9, o9, a9, l9⟩) 1 hres hrc h rfl ha (by rw [if_pos h0]; exact hK)
theorem pD0s (h : FnD Try.prog f (.ref 0 0 0 :: args) (dkS q none o a l) fun r st' => dkR none ⟨q9, L9, o9, a9, l9⟩ res r st') (hres : ∀ b v w, bumpD b v w res = res) (hrc : closedD 0 res = true) (ha : closedL 0 args = true) (h0 : L9 ≠ []) (hn9 : n9 = L9.length) (hc9 : c9 = cellsF L9) (hK : K res [dB q9 (.view 3 3 9 0 n9) o9 a9 l9, X, Y, fB c9 9]) : FnD Try.prog f (.ref 0 0 0 :: args) [dB q nilV o a l, X, Y] K := by
  subst hn9 hc9
  exact FnD.fixA0 (D := ⟨q9, L9, o9, a9, l9⟩) 0 hres hrc h rfl ha (by rw [if_neg h0]; exact hK)
theorem pR0s (h : FnD Try.prog f (.ref 0 0 0 :: args) (rS q none o a lr) fun r st' => rkR none ⟨q9, L9, o9, a9, l9⟩ res r st') (hres : ∀ b v w, bumpD b v w res = res) (hrc : closedD 0 res = true) (ha : closedL 0 args = true) (h0 : L9 ≠ []) (hn9 : n9 = L9.length) (hc9 : c9 = cellsF L9) (hlr0 : lr = rlf a l) (hlr : lr9 = rlf a9 l9) (hK : K res [X, rB q9 (.view 3 4 9 0 n9) o9 false lr9, Y, V, gB c9 9]) : FnD Try.prog f (.ref 1 0 0 :: args) [X, rB q nilV o false lr, Y, V] K := by
  subst hn9 hc9 hlr hlr0
  exact FnD.rfixA0 (D := ⟨q9, L9, o9, a9, l9⟩) 1 hres hrc h rfl ha (by rw [if_neg h0]; exact hK)
end
/-- A known function, at one place. -/
def oneB (f : FuncId) (A1 : List DV) (S1 : Store) (r1 : DV) (T1 : Store) : FuncId × (List DV → Store → SV) := (f, fun args st => some ([args = A1, st = S1], r1, T1))
theorem oneB_ok {P : Program} {f : FuncId} {A1 : List DV} {S1 : Store} {r1 : DV} {T1 : Store} (h1 : ∀ K : DV → Store → Prop, K r1 T1 → FnD P f A1 S1 K) (args : List DV) (st : Store) (cs : List Prop) (r : DV) (st' : Store) (h : (oneB f A1 S1 r1 T1).2 args st = some (cs, r, st')) (hc : allP cs True) (K : DV → Store → Prop) (hk : K r st') : FnD P f args st K := by
  unfold oneB at h
  cases h
  obtain ⟨e1, e2, _⟩ := hc
  rw [e1, e2]
  exact h1 K hk
/-- How the program's disk and the document's stand. -/
def clT (D : Dk) : Option (Nat × Nat × Nat × List DV) → Store
  | none => [dB D.q nilV D.o D.a D.l, rB D.q nilV D.o false (rlf D.a D.l)]
  | some (v, u, n, cs) => [dB D.q (.view 3 2 v 0 n) D.o D.a D.l, rB D.q (.view 3 3 u 0 n) D.o false (rlf D.a D.l), fB cs v, gB cs u]
def clI (D : Dk) : Option (Nat × Nat × Nat × List DV) → Prop
  | none => D.L = []
  | some (_, _, n, cs) => cs = cellsF D.L ∧ n = D.L.length
theorem armD (q : Int) (fr : Fr) (o a : Bool) (l : Int) (L : List FileM) (k : Int) (hfr : fr.is L) : FnD Try.prog 15 [.ref 0 0 0, .d (.sc (.int .i64 k))] (dkS q fr o a l) fun r st' => dkR fr ⟨q, L, o, decide (0 ≤ k), max k 0⟩ (.tup []) r st' := by
  refine (w_arm q fr o a l k).mono ?_
  rintro r st' ⟨rfl, rfl⟩
  exact ⟨fr, by rcases fr with _ | y; exact .inl ⟨rfl, .inl rfl⟩; exact .inr ⟨by simp, by simp⟩, Nat.le_add_right _ _, hfr, rfl, rfl⟩
theorem armR (q : Int) (fr : Fr) (o a : Bool) (l : Int) (L : List FileM) (k : Int) (hfr : fr.is L) : FnD Try.prog 43 [.ref 0 0 0, .d (.sc (.int .i64 k))] (rS q fr o a l) fun r st' => rkR fr ⟨q, L, o, decide (0 ≤ k), max k 0⟩ (.tup []) r st' := by
  rcases fr with _ | ⟨v, m, cs⟩
  · refine (w_rarm0 q o a l k).mono ?_
    rintro r st' ⟨rfl, rfl⟩
    exact ⟨none, .inl ⟨rfl, .inl rfl⟩, Nat.le_add_right _ _, hfr, rfl, by rw [arm_rlf]; rfl⟩
  · refine (w_rarm1 q v m cs o a l k).mono ?_
    rintro r st' ⟨rfl, rfl⟩
    exact ⟨some (v, m, cs), .inr ⟨by simp, by simp⟩, Nat.le_add_right _ _, hfr, rfl, by rw [arm_rlf]; rfl⟩
theorem crashR (q : Int) (fr : Fr) (o a : Bool) (lf l : Int) (L : List FileM) (ps : List Int) (hfr : fr.is L) (hD : okD 900 ⟨q, L, o, a, lf⟩) (hp : ps.length ≤ 4194304) (hq : ∀ p ∈ ps, r64 p) : FnD Try.prog 44 [.ref 0 0 0, .d (.slc 1 (intsX ps))] (rS q fr o a l) fun r st' => rkR fr ((Dk.mk q L o a lf).crash ps) (.tup []) r st' := by
  rcases fr with _ | ⟨v, m, cs⟩
  · refine (w_rcrash0 q o a lf l L ps hfr hD hp hq).mono ?_
    rintro r st' ⟨rfl, rfl⟩
    have h0 : L = [] := hfr
    subst h0
    exact ⟨none, .inl ⟨rfl, .inl rfl⟩, Nat.le_add_right _ _, rfl, rfl, rfl⟩
  · refine (w_rcrash1 q v m cs o a lf l L ps hfr hD hp hq).mono ?_
    rintro r st' ⟨rfl, rfl⟩
    refine ⟨some (v, m, cellsF (crF ps L)), .inr ⟨by simp, by simp⟩, Nat.le_add_right _ _, ⟨rfl, ?_⟩, rfl, rfl⟩
    show m = (crF ps L).length
    rw [crF_len]
    exact hfr.2
end Go.Proofs.Ytmjmbfcfnhnpmaa
