/- Chapter 12: noting one client's number changes no other one's. No condition. -/
import Derived.Test.YtjlbdfehkbcmfaaDed
namespace Go.Proofs.Ytjlbdfehkbcmfaa
open Go.RowKit
set_option linter.all false

theorem look_note {cs : List DV} (h : isOwnU cs) {r : Reply} (hr : isP r.pairs) {x : Int} (hx : knownX x = true) (y seq other : Int) :
    lookU (noteU cs x seq r) y other = if x = y then (if seq < other then (1, zeroRep) else if other = seq then (2, r) else (3, zeroRep)) else lookU cs y other := by
  have hn := own_up (isOwnU.note h hr x seq)
  obtain ⟨os, hos, hcs, hop⟩ := h
  have e1 : noteU cs x seq r = ownsD (os.set (x - 1).toNat ⟨seq, r⟩) := by
    have := noteX_D hos hcs x seq r
    rw [noteOs, hx] at this
    exact this
  have hx' := hx
  simp only [knownX, Bool.and_eq_true, decide_eq_true_eq] at hx'
  simp only [lookU, hn]
  unfold lookX
  cases hy : knownX y with
  | false =>
    rw [if_neg]
    · rfl
    · intro e; subst e; rw [hx] at hy; cases hy
  | true =>
    have hy' := hy
    simp only [knownX, Bool.and_eq_true, decide_eq_true_eq] at hy'
    have hl : (y - 1).toNat < os.length := by omega
    have hl2 : (y - 1).toNat < (os.set (x - 1).toNat ⟨seq, r⟩).length := by rw [List.length_set]; exact hl
    rw [ownOf_D e1 _ hl2, ownOf_D hcs _ hl, List.getElem_set]
    by_cases e : x = y
    · subst e
      rw [if_pos rfl, if_pos rfl]
      simp only [cond_true]
      by_cases h1 : seq < other
      · simp [h1]
      · by_cases h2 : other = seq <;> simp [h1, h2]
    · rw [if_neg e, if_neg (by omega)]
theorem within18 (a : Int) : 1 ≤ within3 a 1 8 ∧ within3 a 1 8 ≤ 8 := by unfold within3; omega
theorem known18 (a : Int) : knownX (within3 a 1 8) = true := by
  have := within18 a
  simp only [knownX, Bool.and_eq_true, decide_eq_true_eq]
  omega

set_option maxRecDepth 100000 in
theorem v_others (cs : List DV) (a : Int) (b : Int) (seq : Int) (other : Int) (r : Reply) (hp0 : isOwnU cs) (hp1 : isP r.pairs) (hp2 : r64 a) (hp3 : r64 b) : FnV Try.prog 5 [.agg cs, intD a, intD b, intD seq, intD other, Reply.D r] (boolD (((fun (_ : List DV) (_ _ _ _ : Int) (_ : Reply) => true) cs a b seq other r))) := by
  obtain ⟨r_why, r_found, r_value, r_version, r_pairs⟩ := r
  obtain ⟨GFsW, hGFsW⟩ : ∃ F, F = FsW0 := ⟨_, rfl⟩
  obtain ⟨GFsD, hGFsD⟩ : ∃ F, F = FsD0 := ⟨_, rfl⟩
  obtain ⟨GFsR, hGFsR⟩ : ∃ F, F = FsR0 := ⟨_, rfl⟩
  have hH : SoundK Try.prog [kn_within3 GFsW, kn_noteU GFsD, kn_lookU GFsD, kn_replies GFsR, kn_runs GFsD] := by subst hGFsW hGFsD hGFsR; exact orK_ok ok_within3 (orK_ok ok_noteU (orK_ok ok_lookU (orK_ok ok_replies (orK_ok ok_runs noK_ok))))
  refine FnD_cbv (T := fun _ => tabY [0, 1006, 1029, 1015] []) (H := fun _ => [kn_within3 GFsW, kn_noteU GFsD, kn_lookU GFsD, kn_replies GFsR, kn_runs GFsD]) (tabY_ok _ _) hH follows_mixed Try.func5 rfl Try.ntmps5 (by simp) fun A X W hA hX hW => ?_
  clear hH
  cbv
  have e : A.tk cs 0 1 48 = cs := by subst hA; exact tk48 (isOwnU.len hp0)
  have e2 : A.tk (A.spl Z48 0 (GFsD.noteU cs (GFsW.within3 a 1 8) seq ⟨r_why, r_found, r_value, r_version, r_pairs⟩)) 0 1 48 = GFsD.noteU cs (GFsW.within3 a 1 8) seq ⟨r_why, r_found, r_value, r_version, r_pairs⟩ := by
    subst hA hGFsD
    exact tk_spl rfl (isOwnU.note hp0 hp1 _ _).len
  cbv at e e2
  simp only [e, e2]
  repeat' first
    | (refine part (fun h => ?_) (fun h => ?_) <;> try cbv)
    | (refine And.intro ?_ ?_)
  all_goals subst hA hX hW hGFsD hGFsW hGFsR
  all_goals first
    | rfl
    | exact hp2
    | exact hp3
    | (show span3 1 8; unfold span3; decide)
    | (show cs.length ≤ 1000000; rw [isOwnU.len hp0]; decide)
    | (show 0 + 1 * 48 ≤ cs.length; rw [isOwnU.len hp0]; decide)
    | exact hp0
    | exact hp1
    | exact Nat.le_refl 48
    | exact (isOwnU.note hp0 hp1 _ _).len
    | exact fit_spl rfl (isOwnU.note hp0 hp1 _ _).len
    | exact (isOwnU.note hp0 hp1 _ _).u
    | (intro _; exact isOwnU.look hp0 _ _)
    | (intro _; exact isOwnU.look (isOwnU.note hp0 hp1 _ _).u _ _)
    | (intro _; exact hp1)
    | (intro _; trivial)
    | (intro hq; exact hq)
    | (intro hq; simpa [A0] using hq)
    | skip
  all_goals refine ret_v ?_ rfl
  all_goals have hl := look_note hp0 hp1 (known18 a) (within3 b 1 8) seq other
  all_goals clear hp0 hp1 hp2 hp3
  all_goals simp only [A0, FsD0, FsR0, FsW0] at *
  all_goals clear e e2
  all_goals simp only [hl]
  all_goals clear hl
  all_goals simp only [Bool.not_eq_true', Bool.not_eq_false', decide_eq_true_eq, decide_eq_false_iff_not] at *
  all_goals first
    | (simp_all [repliesX, boolD, zeroRep]; done)
    | (exfalso; omega)
    | (have hlt : seq < other := by omega
       simp_all [repliesX, boolD, zeroRep]; done)
    | (have hlt : ¬ seq < other := by omega
       simp only [hlt, ↓reduceIte]
       simp_all [repliesX, boolD, zeroRep]; done)
end Go.Proofs.Ytjlbdfehkbcmfaa
