/- Any bytes read by any calls: both readers answer the same. No condition. -/
import Derived.Test.YtligainhbdidgaaRd5
import Derived.Test.YtligainhbdidgaaRm
import Derived.Test.YtligainhbdidgaaAm34
namespace Go.Proofs.Ytligainhbdidgaa
open Go.RowKit
set_option linter.all false


/-- The items' rows: kind, number, text, flag. -/
def isIt (ls : List (List PD)) : Prop := ls.length ≤ 1048576 ∧ ∀ x ∈ ls, ∃ (k n : Int) (s : ByteArray) (f : Bool), x = [.sc (.int .i64 k), .sc (.int .i64 n), .sc (.string s), .sc (.bool f)] ∧ r64 k ∧ r64 n ∧ s.size ≤ 1048576
theorem isIt.row {ls : List (List PD)} (h : isIt ls) {i : Int} (h0 : 0 ≤ i) (h1 : i < ls.length) : ∃ (k n : Int) (s : ByteArray) (f : Bool), ls.getD i.toNat [] = [.sc (.int .i64 k), .sc (.int .i64 n), .sc (.string s), .sc (.bool f)] ∧ r64 k ∧ r64 n ∧ s.size ≤ 1048576 := by
  have hj : i.toNat < ls.length := by omega
  have := h.2 _ (List.getElem_mem hj)
  rw [List.getD_eq_getElem?_getD, List.getElem?_eq_getElem hj]
  exact this
theorem ans_same (k n : Int) (xs : List (List PD)) (a w : Int) : ansR k n xs a w xs a w = true := by
  unfold ansR
  repeat' split
  all_goals simp

theorem set_self {st : Store} {b : Nat} {bx : Box} (h : st[b]? = some bx) : st.set b bx = st := by
  apply List.ext_getElem?
  intro i
  rw [List.getElem?_set]
  by_cases hi : b = i
  · subst hi
    have := (List.getElem?_eq_some_iff.1 h).1
    simp only [↓reduceIte, this]
    exact h.symm
  · simp [hi]
def kr_pwrong (F : FsR) : FuncId × (List DV → Store → RV) := (57, fun args st => match args with
  | [.ref b ver o] => (match st[b]? with
    | some ⟨t, [.d (.slc 1 xs), .d (.sc (.int .i64 a)), .d (.sc (.int .i64 w))], false, v, true⟩ => (bif (ver == 0) && (o == 0) && (v == 0) && (t == 111) then some ([F.rd xs a w], .d (.sc (.int .i64 w))) else none)
    | _ => none)
  | _ => none)
theorem okr_pwrong (args : List DV) (st : Store) (cs : List Prop) (r : DV) (h : (kr_pwrong FsR0).2 args st = some (cs, r)) (hc : allP cs True) (K : DV → Store → Prop) (hk : K r st) : FnD Try.prog 57 args st K := by
  unfold kr_pwrong at h
  simp only at h
  split at h
  · split at h
    · rename_i hb
      simp only [cond_eq_ite, Bool.and_eq_true, beq_iff_eq, Option.ite_none_right_eq_some] at h
      obtain ⟨⟨⟨⟨rfl, rfl⟩, rfl⟩, rfl⟩, h⟩ := h
      cases h
      exact FnD.one _ (v_pwrong _ _ _ hc.1) hb rfl rfl rfl rfl (by rw [set_self hb]; exact hk)
    · cases h
  · cases h
def kr_pat (F : FsR) : FuncId × (List DV → Store → RV) := (58, fun args st => match args with
  | [.ref b ver o] => (match st[b]? with
    | some ⟨t, [.d (.slc 1 xs), .d (.sc (.int .i64 a)), .d (.sc (.int .i64 w))], false, v, true⟩ => (bif (ver == 0) && (o == 0) && (v == 0) && (t == 111) then some ([F.rd xs a w], .d (.sc (.int .i64 a))) else none)
    | _ => none)
  | _ => none)
theorem okr_pat (args : List DV) (st : Store) (cs : List Prop) (r : DV) (h : (kr_pat FsR0).2 args st = some (cs, r)) (hc : allP cs True) (K : DV → Store → Prop) (hk : K r st) : FnD Try.prog 58 args st K := by
  unfold kr_pat at h
  simp only at h
  split at h
  · split at h
    · rename_i hb
      simp only [cond_eq_ite, Bool.and_eq_true, beq_iff_eq, Option.ite_none_right_eq_some] at h
      obtain ⟨⟨⟨⟨rfl, rfl⟩, rfl⟩, rfl⟩, h⟩ := h
      cases h
      exact FnD.one _ (v_pat _ _ _ hc.1) hb rfl rfl rfl rfl (by rw [set_self hb]; exact hk)
    · cases h
  · cases h
set_option maxRecDepth 100000 in
set_option maxHeartbeats 8000000 in
theorem v_reads (xs ls : List (List PD)) (hp0 : isB xs) (hp1 : isIt ls) : FnV Try.prog 15 [.d (.slc 1 xs), .d (.slc 4 ls)] (boolD true) := by
  have hl8 := isB_len hp0
  obtain ⟨full, hfull⟩ : ∃ f, f = roomyX xs 12 := ⟨_, rfl⟩
  obtain ⟨GFsU, hFsU⟩ : ∃ F, F = FsU0 := ⟨_, rfl⟩
  obtain ⟨GFsT, hFsT⟩ : ∃ F, F = FsT0 := ⟨_, rfl⟩
  obtain ⟨GFsS, hFsS⟩ : ∃ F, F = FsS0 := ⟨_, rfl⟩
  obtain ⟨GFsR, hFsR⟩ : ∃ F, F = FsR0 := ⟨_, rfl⟩
  have hH : SoundK Try.prog [kn_roomy GFsU, kn_intact GFsU, kn_runs3 GFsT] := by subst hFsU hFsT hFsS hFsR; exact orK_ok ok_roomy (orK_ok ok_intact (orK_ok ok_runs3 noK_ok))
  have hB : SoundB Try.prog [kb_pRead GFsS, kb_rRead GFsS, kb_call GFsS, kb_pwrong GFsR, kb_pat GFsR] := by subst hFsU hFsT hFsS hFsR; exact orB_ok okb_pRead (orB_ok okb_rRead (orB_ok okb_call (orB_ok okb_pwrong (orB_ok okb_pat noB_ok))))
  refine FnD_cbv (T := fun _ => tabY [34] [8]) (H := fun _ => [kn_roomy GFsU, kn_intact GFsU, kn_runs3 GFsT]) (tabY_ok _ _) hH follows_mixed Try.func15 rfl Try.ntmps15 (by simp) fun A X W hA hX hW => ?_
  cbv
  have hR0 : SoundR Try.prog [kr_pwrong GFsR, kr_pat GFsR] := by subst hFsR; exact orR_ok okr_pwrong (orR_ok okr_pat noR_ok)
  refine And.intro ?_ (And.intro ?_ ?_)
  · subst hFsU; exact hp0
  · subst hFsU; exact ⟨12, rfl⟩
  have er : GFsU.roomy xs 12 = full := by subst hFsU; exact hfull.symm
  cbv at er
  simp only [er]
  have efl : full.length = xs.length + 80 := by rw [hfull, roomy_len]
  refine And.intro ?_ ?_
  · subst hA; simp only [A0]; rw [efl]; omega
  refine callB hX hB ?_
  cbv
  refine And.intro ?_ ?_
  · subst hFsS hA
    show isB8 ((full.drop (0 : Int).toNat).take (((xs.length : Nat) : Int).toNat - (0 : Int).toNat))
    rw [hfull, show (0 : Int).toNat = 0 from rfl, show ((xs.length : Nat) : Int).toNat - 0 = xs.length by omega, roomy_take]
    exact hp0
  refine callB hX hB ?_
  cbv
  refine And.intro ?_ ?_
  · subst hFsS; exact hp0
  refine loopL (T := fun _ => tabY [34] [8]) (H := fun _ => [kn_roomy GFsU, kn_intact GFsU, kn_runs3 GFsT]) (tabY_ok _ _) hH follows_mixed hA hX (fun x : Int × Int × Int => (0 ≤ x.1 ∧ x.1 ≤ 60) ∧ isRd xs x.2.1 x.2.2)
    (fun x => [(0, .d (.slc 1 xs)), (1, .d (.slc 4 ls)), (5, .d (.slc 1 full)), (6, .ref 0 0 0), (7, .ref 1 0 0), (8, .d (.sc (.int .i64 x.1)))]) (fun x => [rdB 111 xs x.2.1 x.2.2, rdB 81 xs x.2.1 x.2.2])
    (fun x => 60 - x.1.toNat) (0, 0, 0) ?_ ?_ ?_
  · exact ⟨⟨by omega, by omega⟩, rd0 hp0⟩
  · subst hA
    have esub : ((full.drop (0 : Int).toNat).take (((xs.length : Nat) : Int).toNat - (0 : Int).toNat)) = xs := by
      rw [hfull, show (0 : Int).toNat = 0 from rfl, show ((xs.length : Nat) : Int).toNat - 0 = xs.length by omega, roomy_take]
    refine told_st ?_ (by simp [toldP, getS])
    simp only [A0]
    rw [esub]
  rintro R ⟨i, a, w⟩ hR ⟨hi, hrd⟩
  cbv
  repeat' first
    | (refine part (fun h => ?_) (fun h => ?_) <;> try cbv)
    | (refine And.intro ?_ ?_)
    | (with_reducible refine callB hX hB ?_) <;> cbv
    | ((with_reducible refine regionL [56] [0, 0, 0, 0, 0, 0, 0, 1, 1, 1, 1, 1, 1, 1, 1, 1, 1, 1, 1, 1, 1, 1, 1, 1, 1, 1] (T := fun _ => tabY [34] []) (H := fun _ => [kn_roomy GFsU, kn_intact GFsU, kn_runs3 GFsT]) (B := fun _ => [kb_pRead GFsS, kb_rRead GFsS, kb_call GFsS, kb_pwrong GFsR, kb_pat GFsR]) (R := fun _ => [kr_pwrong GFsR, kr_pat GFsR]) (A := A) (tabY_ok _ _) hH hB hR0 follows_mixed hA hX (by kernel_rfl) (by kernel_rfl) (by kernel_rfl) ?_) <;> cbv)
  all_goals try subst hR
  all_goals subst hA hX hW hFsU hFsT hFsS hFsR
  all_goals clear hH hB hR0
  all_goals simp only [A0, FsU0, FsT0, FsS0, FsR0, decide_eq_true_eq, decide_eq_false_iff_not, Bool.not_eq_true', Bool.not_eq_false'] at *
  all_goals try replace hi : 0 ≤ i ∧ i ≤ 60 := hi
  all_goals try replace hrd : isRd xs a w := hrd
  all_goals try
    have hz := ‹(bif decide (i < (ls.length : Int)) then decide (i < 60) else false) = true›
    have hlt : i < ls.length ∧ i < 60 := by simpa using hz
    obtain ⟨k, n, s, f, hrow, -⟩ := hp1.row hi.1 hlt.1
  all_goals first
    | assumption
    | exact rd_any hrd
    | exact ⟨12, rfl⟩
    | omega
    | (rw [hrow]; simp; done)
    | exact ret_v rfl rfl
    | (intros; first | assumption | trivial | (simp_all; done))
    | (exfalso
       have h1 := ‹ansR _ _ _ _ _ _ _ _ = false›
       rw [ans_same] at h1
       cases h1)
    | (have ei : IntKind.wrap .i64 (i + 1) = i + 1 := wrap_i64 (by unfold r64; omega)
       refine ⟨(i + 1, (stR _ _ xs a w).1, (stR _ _ xs a w).2), ⟨(by show 0 ≤ i + 1 ∧ i + 1 ≤ 60; omega), rd_any hrd⟩, (by show 60 - (i + 1).toNat < 60 - i.toNat; omega), told_less ?_⟩
       simp [toldP, getS, ei])

end Go.Proofs.Ytligainhbdidgaa
