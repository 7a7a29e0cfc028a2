/- Any bytes as commands: both readers tell the same. No condition. -/
import Derived.Test.YtdcelfgdnepghaaRdC
namespace Go.Proofs.Ytdcelfgdnepghaa
open Go.RowKit
set_option linter.all false
set_option maxHeartbeats 4000000

theorem set_self {st : Store} {b : Nat} {bx : Box} (h : st[b]? = some bx) : st.set b bx = st := by
  apply List.ext_getElem?
  intro i
  rw [List.getElem?_set]
  by_cases hi : b = i
  · subst hi
    have := (List.getElem?_eq_some_iff.1 h).1
    simp only [↓reduceIte, this]
    exact h.symm
  · simp [hi]
def kr_pwrong (F : FsR) : FuncId × (List DV → Store → RV) := (25, fun args st => match args with
  | [.ref b ver o] => (match st[b]? with
    | some ⟨t, [.d (.slc 1 xs), .d (.sc (.int .i64 a)), .d (.sc (.int .i64 w))], false, v, true⟩ => (bif (ver == 0) && (o == 0) && (v == 0) && (t == 59) then some ([F.rd xs a w], .d (.sc (.int .i64 w))) else none)
    | _ => none)
  | _ => none)
theorem okr_pwrong (args : List DV) (st : Store) (cs : List Prop) (r : DV) (h : (kr_pwrong FsR0).2 args st = some (cs, r)) (hc : allP cs True) (K : DV → Store → Prop) (hk : K r st) : FnD Try.prog 25 args st K := by
  unfold kr_pwrong at h
  simp only at h
  split at h
  · split at h
    · rename_i hb
      simp only [cond_eq_ite, Bool.and_eq_true, beq_iff_eq, Option.ite_none_right_eq_some] at h
      obtain ⟨⟨⟨⟨rfl, rfl⟩, rfl⟩, rfl⟩, h⟩ := h
      cases h
      exact FnD.one _ (v_pwrong _ _ _ hc.1) hb rfl rfl rfl rfl (by rw [set_self hb]; exact hk)
    · cases h
  · cases h
set_option maxRecDepth 100000 in
theorem v_reads5 (xs : List (List PD)) (n : Int) (hp0 : isB8 xs) (hp1 : r64 n) : FnV Try.prog 7 [.d (.slc 1 xs), .d (.sc (.int .i64 n))] (boolD true) := by
  obtain ⟨GFsQ, hFsQ⟩ : ∃ F, F = FsQ0 := ⟨_, rfl⟩
  obtain ⟨GFs6, hFs6⟩ : ∃ F, F = Fs60 := ⟨_, rfl⟩
  obtain ⟨GFsS, hFsS⟩ : ∃ F, F = FsS0 := ⟨_, rfl⟩
  obtain ⟨GFsG, hFsG⟩ : ∃ F, F = FsG0 := ⟨_, rfl⟩
  have hH : SoundK Try.prog [kn_within3 GFsQ, kn_runs GFs6] := by subst hFsQ hFs6 hFsS hFsG; exact orK_ok ok_within3 (orK_ok ok_runs noK_ok)
  have hB : SoundB Try.prog [kb_pRead GFsS, kb_rRead GFsS, kb_cGet GFsG, kb_rGet GFsG] := by subst hFsQ hFs6 hFsS hFsG; exact orB_ok okb_pRead (orB_ok okb_rRead (orB_ok okb_cGet (orB_ok okb_rGet noB_ok)))
  obtain ⟨GFsR, hFsR⟩ : ∃ F, F = FsR0 := ⟨_, rfl⟩
  have hR0 : SoundR Try.prog [kr_pwrong GFsR] := by subst hFsR; exact orR_ok okr_pwrong noR_ok
  refine FnD_cbv (T := fun _ => tabY [] [5]) (H := fun _ => [kn_within3 GFsQ, kn_runs GFs6]) (tabY_ok _ _) hH follows_mixed Try.func7 rfl Try.ntmps7 (by simp) fun A X W hA hX hW => ?_
  cbv
  refine callB hX hB ?_
  cbv
  refine And.intro (by subst hFsS; exact hp0) ?_
  refine callB hX hB ?_
  cbv
  refine And.intro (by subst hFsS; exact hp0) ?_
  refine And.intro (by subst hFsQ; exact hp1) ?_
  refine And.intro (by subst hFsQ; exact ⟨by decide, by decide, by decide⟩) ?_
  obtain ⟨m, hm⟩ : ∃ m, GFsQ.within3 n 1 5 = m := ⟨_, rfl⟩
  have hm5 : 1 ≤ m ∧ m ≤ 5 := by subst hm hFsQ; show 1 ≤ 1 + n % (5 - 1 + 1) ∧ 1 + n % (5 - 1 + 1) ≤ 5; omega
  cbv at hm
  simp only [hm]
  refine loopL (T := fun _ => tabY [] [5]) (H := fun _ => [kn_within3 GFsQ, kn_runs GFs6]) (tabY_ok _ _) hH follows_mixed hA hX (fun x : Int × Int × Int => (0 ≤ x.1 ∧ x.1 ≤ 5) ∧ isRd xs x.2.1 x.2.2)
    (fun x => [(0, .d (.slc 1 xs)), (5, .ref 0 0 0), (6, .ref 1 0 0), (7, .d (.sc (.int .i64 x.1)))]) (fun x => [rdB 59 xs x.2.1 x.2.2, rdB 48 xs x.2.1 x.2.2])
    (fun x => x.1.toNat) (m, 0, 0) ?_ ?_ ?_
  · exact ⟨⟨by show 0 ≤ m; omega, by show m ≤ 5; omega⟩, rd0 hp0⟩
  · exact told_less (by simp [toldP, getS])
  rintro R ⟨i, a, w⟩ hR ⟨⟨i0, i1⟩, hrd⟩
  cbv
  repeat' first
    | (refine part (fun h => ?_) (fun h => ?_) <;> try cbv)
    | (refine And.intro ?_ ?_)
    | (with_reducible refine callB hX hB ?_) <;> cbv
    | ((with_reducible refine regionL [23, 24] [0, 0, 0, 1, 2, 2, 2, 2, 2, 2, 2, 2, 2, 2] (T := fun _ => tabY [] []) (H := fun _ => [kn_within3 GFsQ, kn_runs GFs6]) (B := fun _ => [kb_pRead GFsS, kb_rRead GFsS, kb_cGet GFsG, kb_rGet GFsG]) (R := fun _ => [kr_pwrong GFsR]) (A := A) (tabY_ok _ _) hH hB hR0 follows_mixed hA hX (by kernel_rfl) (by kernel_rfl) (by kernel_rfl) ?_) <;> cbv)
  all_goals try subst hR
  all_goals subst hA hX hW hFsQ hFs6 hFsS hFsG hFsR
  all_goals clear hH hB hR0
  all_goals simp only [A0, nc, FsQ0, Fs60, FsS0, FsG0, FsR0, decide_eq_true_eq, decide_eq_false_iff_not, Bool.not_eq_true', Bool.not_eq_false'] at *
  all_goals try replace hrd : isRd xs a w := hrd
  all_goals first
    | assumption
    | exact get_rd hrd
    | (intros; first | assumption | trivial | (simp_all; done))
    | (exfalso; simp at h; done)
    | (exfalso; simp_all; done)
    | exact ret_v rfl rfl
    | (have hi : 0 < i := by
         have hz := ‹(bif decide (0 < i) then _ else false) = true›
         simpa using hz
       have ei : IntKind.wrap .i64 (i - 1) = i - 1 := wrap_i64 (by unfold r64; omega)
       refine ⟨(i - 1, (getX xs a w).2.1, (getX xs a w).2.2), ⟨⟨by show 0 ≤ i - 1; omega, by show i - 1 ≤ 5; omega⟩, get_rd hrd⟩, by show (i - 1).toNat < i.toNat; omega, told_less ?_⟩
       simp [toldP, getS, ei])



end Go.Proofs.Ytdcelfgdnepghaa
