/- Readers of bytes: counts and texts; a reader's making. No condition. -/
import Derived.Test.YtghkcmgiagodlaaGA
import Derived.Test.YtghkcmgiagodlaaAm44
namespace Go.Proofs.Ytghkcmgiagodlaa
open Go.RowKit
set_option linter.all false
theorem num_rd {xs : List (List PD)} {a w : Int} (h : isRd xs a w) : isRd xs (numR xs a w).2.1 (numR xs a w).2.2 ∧ ((numR xs a w).2.2 ≠ 0 → (numR xs a w).1 = 0) ∧ r64 (numR xs a w).1 := by
  obtain ⟨bs, hxs, hby, hlx, hb, h0, h1, hw0, hw1⟩ := isRd_len h
  unfold numR numL
  rw [hby]
  by_cases hw : w ≠ 0
  · rw [if_pos hw]; exact ⟨h, fun _ => rfl, by simp [r64]⟩
  · rw [if_neg hw]
    cases hs : sev 0 0 (bs.drop a.toNat) with
    | short => exact ⟨h.at trivial (by simp only; omega) (by simp only; omega), fun _ => rfl, by simp [r64]⟩
    | form => exact ⟨h.at trivial (by simp only; omega) (by simp only; omega), fun _ => rfl, by simp [r64]⟩
    | num u k =>
      have hl := sev_lt _ 0 0 (by omega) (by simp) u k hs
      rw [List.length_drop] at hl
      exact ⟨h.at trivial (by simp only; omega) (by simp only; omega), fun e => absurd rfl e, zag_range _ ⟨by omega, by omega⟩⟩
theorem cnt_eq (xs : List (List PD)) (a w most : Int) : cntR xs a w most = if (numR xs a w).2.2 = 0 ∧ ((numR xs a w).1 < 0 ∨ most < (numR xs a w).1) then (0, a, 2) else numR xs a w := rfl
set_option maxRecDepth 100000 in
theorem v_pCount (xs : List (List PD)) (a w : Int) (most : Int) (hp0 : FsRr0.rd xs a w) : FnD Try.prog 103 [.ref 0 0 0, .d (.sc (.int .i64 most))] [rdB 113 xs a w] (fun r st' => r = .d (.sc (.int .i64 (FsRr0.cnt xs a w most).1)) ∧ st' = [rdB 113 xs (FsRr0.cnt xs a w most).2.1 (FsRr0.cnt xs a w most).2.2]) := by
  obtain ⟨F, hF⟩ : ∃ F, F = FsRr0 := ⟨_, rfl⟩
  have hB : SoundB Try.prog [kb_pNum F, kb_pfail F] := by subst hF; exact orB_ok okb_pNum (orB_ok okb_pfail noB_ok)
  refine FnD_cbv (T := fun _ => tabY [] []) (H := fun _ => []) (tabY_ok _ _) noK_ok follows_mixed Try.func103 rfl Try.ntmps103 (by simp) fun A X W hA hX hW => ?_
  cbv
  repeat' first
    | (refine part (fun h => ?_) (fun h => ?_) <;> try cbv)
    | (refine And.intro ?_ ?_)
    | (with_reducible refine callB hX hB ?_) <;> cbv
  all_goals subst hA hX hW hF
  all_goals have hn := num_rd hp0
  all_goals try (show Region.lexB _ _ = true; kernel_rfl)
  all_goals try (show turnsB _ = true; kernel_rfl)
  all_goals simp only [A0, FsRr0, decide_eq_true_eq, decide_eq_false_iff_not, Bool.not_eq_true', Bool.not_eq_false', Bool.and_eq_true] at *
  all_goals try simp only [cnt_eq]
  all_goals generalize hq : numR xs a w = q at *
  all_goals obtain ⟨n, a', w'⟩ := q
  all_goals try simp only at *
  all_goals first
    | assumption
    | exact hn.1
    | exact ⟨hp0.1, hp0.2.1, hp0.2.2.1, hn.1.2.2.2⟩
    | exact id
    | (intros; first | assumption | trivial | (simp_all; done))
    | (refine RetW.ofEq ?_ ?_ <;> (simp_all; done))
    | (refine RetW.ofEq ?_ ?_ <;> grind [errR])
def kb_pCount (F : FsRr) : FuncId × (List DV → Store → SV) := (103, fun args st => match args with
  | [.ref b ver o, .d (.sc (.int .i64 most))] => (match st[b]? with
    | some ⟨t, [.d (.slc 1 xs), .d (.sc (.int .i64 a)), .d (.sc (.int .i64 w))], false, v, true⟩ => (bif (ver == 0) && (o == 0) && (v == 0) && (t == 113) then some ([F.rd xs a w], .d (.sc (.int .i64 (F.cnt xs a w most).1)), st.set b (rdB 113 xs (F.cnt xs a w most).2.1 (F.cnt xs a w most).2.2)) else none)
    | _ => none)
  | _ => none)
theorem okb_pCount (args : List DV) (st : Store) (cs : List Prop) (r : DV) (st' : Store) (h : (kb_pCount FsRr0).2 args st = some (cs, r, st')) (hc : allP cs True) (K : DV → Store → Prop) (hk : K r st') : FnD Try.prog 103 args st K := by
  unfold kb_pCount at h
  simp only at h
  split at h
  · split at h
    · rename_i hb
      simp only [cond_eq_ite, Bool.and_eq_true, beq_iff_eq, Option.ite_none_right_eq_some] at h
      obtain ⟨⟨⟨⟨rfl, rfl⟩, rfl⟩, rfl⟩, h⟩ := h
      cases h
      exact FnD.one _ (v_pCount _ _ _ _ hc.1) hb rfl rfl rfl rfl hk
    · cases h
  · cases h
set_option maxRecDepth 100000 in
theorem v_rCount (xs : List (List PD)) (a w : Int) (most : Int) (hp0 : FsRr0.rd xs a w) : FnD Try.prog 104 [.ref 0 0 0, .d (.sc (.int .i64 most))] [rdB 90 xs a w] (fun r st' => r = .d (.sc (.int .i64 (FsRr0.cnt xs a w most).1)) ∧ st' = [rdB 90 xs (FsRr0.cnt xs a w most).2.1 (FsRr0.cnt xs a w most).2.2]) := by
  obtain ⟨F, hF⟩ : ∃ F, F = FsRr0 := ⟨_, rfl⟩
  have hB : SoundB Try.prog [kb_rNum F, kb_rfail F] := by subst hF; exact orB_ok okb_rNum (orB_ok okb_rfail noB_ok)
  refine FnD_cbv (T := fun _ => tabY [] []) (H := fun _ => []) (tabY_ok _ _) noK_ok follows_mixed Try.func104 rfl Try.ntmps104 (by simp) fun A X W hA hX hW => ?_
  cbv
  repeat' first
    | (refine part (fun h => ?_) (fun h => ?_) <;> try cbv)
    | (refine And.intro ?_ ?_)
    | (with_reducible refine callB hX hB ?_) <;> cbv
  all_goals subst hA hX hW hF
  all_goals have hn := num_rd hp0
  all_goals try (show Region.lexB _ _ = true; kernel_rfl)
  all_goals try (show turnsB _ = true; kernel_rfl)
  all_goals simp only [A0, FsRr0, decide_eq_true_eq, decide_eq_false_iff_not, Bool.not_eq_true', Bool.not_eq_false', Bool.and_eq_true] at *
  all_goals try simp only [cnt_eq]
  all_goals generalize hq : numR xs a w = q at *
  all_goals obtain ⟨n, a', w'⟩ := q
  all_goals try simp only at *
  all_goals first
    | assumption
    | exact hn.1
    | exact ⟨hp0.1, hp0.2.1, hp0.2.2.1, hn.1.2.2.2⟩
    | exact id
    | (intros; first | assumption | trivial | (simp_all; done))
    | (refine RetW.ofEq ?_ ?_ <;> (simp_all; done))
    | (refine RetW.ofEq ?_ ?_ <;> grind [errR])
def kb_rCount (F : FsRr) : FuncId × (List DV → Store → SV) := (104, fun args st => match args with
  | [.ref b ver o, .d (.sc (.int .i64 most))] => (match st[b]? with
    | some ⟨t, [.d (.slc 1 xs), .d (.sc (.int .i64 a)), .d (.sc (.int .i64 w))], false, v, true⟩ => (bif (ver == 0) && (o == 0) && (v == 0) && (t == 90) then some ([F.rd xs a w], .d (.sc (.int .i64 (F.cnt xs a w most).1)), st.set b (rdB 90 xs (F.cnt xs a w most).2.1 (F.cnt xs a w most).2.2)) else none)
    | _ => none)
  | _ => none)
theorem okb_rCount (args : List DV) (st : Store) (cs : List Prop) (r : DV) (st' : Store) (h : (kb_rCount FsRr0).2 args st = some (cs, r, st')) (hc : allP cs True) (K : DV → Store → Prop) (hk : K r st') : FnD Try.prog 104 args st K := by
  unfold kb_rCount at h
  simp only at h
  split at h
  · split at h
    · rename_i hb
      simp only [cond_eq_ite, Bool.and_eq_true, beq_iff_eq, Option.ite_none_right_eq_some] at h
      obtain ⟨⟨⟨⟨rfl, rfl⟩, rfl⟩, rfl⟩, h⟩ := h
      cases h
      exact FnD.one _ (v_rCount _ _ _ _ hc.1) hb rfl rfl rfl rfl hk
    · cases h
  · cases h
theorem cnt_rd {xs : List (List PD)} {a w : Int} (most : Int) (h : isRd xs a w) : isRd xs (cntR xs a w most).2.1 (cntR xs a w most).2.2 ∧ ((cntR xs a w most).2.2 ≠ 0 → (cntR xs a w most).1 = 0) ∧ r64 (cntR xs a w most).1 ∧ ((cntR xs a w most).2.2 = 0 → 0 ≤ (cntR xs a w most).1) := by
  have hn := num_rd h
  rw [cnt_eq]
  split
  · exact ⟨⟨h.1, h.2.1, h.2.2.1, by simp, by simp⟩, fun _ => rfl, by simp [r64], fun _ => by simp⟩
  · rename_i hc
    exact ⟨hn.1, hn.2.1, hn.2.2, fun e => by omega⟩
theorem text_eq (xs : List (List PD)) (a w most : Int) : textR xs a w most = if (cntR xs a w most).2.2 ≠ 0 then (.empty, (cntR xs a w most).2.1, (cntR xs a w most).2.2) else
    if ((bytesOf xs).length : Int) - (cntR xs a w most).2.1 < (cntR xs a w most).1 then (.empty, a, 3) else
      (⟨(((bytesOf xs).drop (cntR xs a w most).2.1.toNat).take (cntR xs a w most).1.toNat).toArray⟩, (cntR xs a w most).2.1 + (cntR xs a w most).1, 0) := rfl
theorem text_eqN (xs : List (List PD)) (a w most : Int) : textR xs a w most = if (numR xs a w).2.2 ≠ 0 then (.empty, (numR xs a w).2.1, (numR xs a w).2.2) else
    if (numR xs a w).1 < 0 ∨ most < (numR xs a w).1 then (.empty, a, 2) else
    if ((bytesOf xs).length : Int) - (numR xs a w).2.1 < (numR xs a w).1 then (.empty, a, 3) else
      (⟨(((bytesOf xs).drop (numR xs a w).2.1.toNat).take (numR xs a w).1.toNat).toArray⟩, (numR xs a w).2.1 + (numR xs a w).1, 0) := by
  rw [text_eq, cnt_eq]
  by_cases h0 : (numR xs a w).2.2 = 0
  · by_cases h1 : (numR xs a w).1 < 0 ∨ most < (numR xs a w).1
    · simp [h0, h1]
    · simp [h0, h1]
  · simp [h0]
theorem num_bad {xs : List (List PD)} {a w : Int} (h : (numR xs a w).2.2 ≠ 0) : (numR xs a w).2.1 = a := by
  unfold numR numL at h ⊢
  split
  · rfl
  · rename_i hw
    rw [if_neg hw] at h
    split at h <;> first
      | rfl
      | exact absurd rfl h
theorem bor (a b : Bool) : (bif a then true else b) = (a || b) := by cases a <;> rfl
set_option maxRecDepth 100000 in
theorem v_pText (xs : List (List PD)) (a w : Int) (most : Int) (hp0 : FsRr0.rd xs a w) : FnD Try.prog 68 [.ref 0 0 0, .d (.sc (.int .i64 most))] [rdB 113 xs a w] (fun r st' => r = .d (.sc (.string (FsRr0.text xs a w most).1)) ∧ st' = [rdB 113 xs (FsRr0.text xs a w most).2.1 (FsRr0.text xs a w most).2.2]) := by
  obtain ⟨F, hF⟩ : ∃ F, F = FsRr0 := ⟨_, rfl⟩
  have hB : SoundB Try.prog [kb_pCount F, kb_pfail F] := by subst hF; exact orB_ok okb_pCount (orB_ok okb_pfail noB_ok)
  refine FnD_cbv (T := fun _ => tabY [] []) (H := fun _ => []) (tabY_ok _ _) noK_ok follows_mixed Try.func68 rfl Try.ntmps68 (by simp) fun A X W hA hX hW => ?_
  cbv
  repeat' first
    | (refine part (fun h => ?_) (fun h => ?_) <;> try cbv)
    | (refine And.intro ?_ ?_)
    | (with_reducible refine callB hX hB ?_) <;> cbv
  all_goals subst hA hX hW hF
  all_goals obtain ⟨bs, hxs, hby, hlx, hb, h0, h1, hw0, hw1⟩ := isRd_len hp0
  all_goals have hn := cnt_rd most hp0
  all_goals try (show Region.lexB _ _ = true; kernel_rfl)
  all_goals try (show turnsB _ = true; kernel_rfl)
  all_goals simp only [A0, FsRr0, decide_eq_true_eq, decide_eq_false_iff_not, Bool.not_eq_true', Bool.not_eq_false', Bool.and_eq_true] at *
  all_goals have hbl : (bytesOf xs).length = xs.length := by rw [hby, hlx]
  all_goals have heq := text_eq xs a w most
  all_goals have hbad := trivial
  all_goals generalize hq : cntR xs a w most = q at *
  all_goals obtain ⟨n, a', w'⟩ := q
  all_goals try simp only at *
  all_goals have h5 := hn.1.2.1
  all_goals have h6 := hn.1.2.2.1
  all_goals have h7 := hn.2.2.2
  all_goals have ws : IntKind.wrap .i64 ((xs.length : Int) - a') = xs.length - a' := wrap_i64 (by unfold r64; omega)
  all_goals simp only [ws, bor, Bool.or_eq_true, Bool.or_eq_false_iff, decide_eq_true_eq, decide_eq_false_iff_not] at *
  all_goals first
    | assumption
    | exact hn.1
    | exact ⟨hp0.1, hp0.2.1, hp0.2.2.1, hn.1.2.2.2⟩
    | exact id
    | (intros; first | assumption | trivial | (simp_all; done))
    | exact ⟨_, by rw [hxs, bytesP_drop, bytesP_take]⟩
    | (have wa : IntKind.wrap .i64 (a' + n) = a' + n := wrap_i64 (by unfold r64; omega)
       rw [wa]; omega)
    | (exfalso; simp [errR] at *; omega)
    | (exfalso; simp_all [errR]; done)
    | (have e : textR xs a w most = (.empty, a', w') := by rw [heq]; grind
       refine RetW.ofEq ?_ ?_ <;> rw [e] <;> first | rfl | (simp_all [errR]; done))
    | (have e : textR xs a w most = (.empty, a, 2) := by rw [heq]; grind
       refine RetW.ofEq ?_ ?_ <;> rw [e] <;> first | rfl | (simp_all [errR]; done))
    | (have e : textR xs a w most = (.empty, a, 3) := by rw [heq]; grind
       refine RetW.ofEq ?_ ?_ <;> rw [e] <;> first | rfl | (simp_all [errR]; done))
    | (have wa : IntKind.wrap .i64 (a' + n) = a' + n := wrap_i64 (by unfold r64; omega)
       have ht : (a' + n).toNat - a'.toNat = n.toNat := by omega
       have e : textR xs a w most = (⟨(((bytesOf xs).drop a'.toNat).take n.toNat).toArray⟩, a' + n, 0) := by rw [heq]; grind
       have e0 : w' = 0 := by omega
       refine RetW.ofEq ?_ ?_ <;> simp only [wa, ht, e, e0, bytesOf, List.map_take, List.map_drop])
def kb_pText (F : FsRr) : FuncId × (List DV → Store → SV) := (68, fun args st => match args with
  | [.ref b ver o, .d (.sc (.int .i64 most))] => (match st[b]? with
    | some ⟨t, [.d (.slc 1 xs), .d (.sc (.int .i64 a)), .d (.sc (.int .i64 w))], false, v, true⟩ => (bif (ver == 0) && (o == 0) && (v == 0) && (t == 113) then some ([F.rd xs a w], .d (.sc (.string (F.text xs a w most).1)), st.set b (rdB 113 xs (F.text xs a w most).2.1 (F.text xs a w most).2.2)) else none)
    | _ => none)
  | _ => none)
theorem okb_pText (args : List DV) (st : Store) (cs : List Prop) (r : DV) (st' : Store) (h : (kb_pText FsRr0).2 args st = some (cs, r, st')) (hc : allP cs True) (K : DV → Store → Prop) (hk : K r st') : FnD Try.prog 68 args st K := by
  unfold kb_pText at h
  simp only at h
  split at h
  · split at h
    · rename_i hb
      simp only [cond_eq_ite, Bool.and_eq_true, beq_iff_eq, Option.ite_none_right_eq_some] at h
      obtain ⟨⟨⟨⟨rfl, rfl⟩, rfl⟩, rfl⟩, h⟩ := h
      cases h
      exact FnD.one _ (v_pText _ _ _ _ hc.1) hb rfl rfl rfl rfl hk
    · cases h
  · cases h
set_option maxRecDepth 100000 in
theorem v_rText (xs : List (List PD)) (a w : Int) (most : Int) (hp0 : FsRr0.rd xs a w) : FnD Try.prog 72 [.ref 0 0 0, .d (.sc (.int .i64 most))] [rdB 90 xs a w] (fun r st' => r = .d (.sc (.string (FsRr0.text xs a w most).1)) ∧ st' = [rdB 90 xs (FsRr0.text xs a w most).2.1 (FsRr0.text xs a w most).2.2]) := by
  obtain ⟨F, hF⟩ : ∃ F, F = FsRr0 := ⟨_, rfl⟩
  have hB : SoundB Try.prog [kb_rNum F, kb_rfail F] := by subst hF; exact orB_ok okb_rNum (orB_ok okb_rfail noB_ok)
  refine FnD_cbv (T := fun _ => tabY [] []) (H := fun _ => []) (tabY_ok _ _) noK_ok follows_mixed Try.func72 rfl Try.ntmps72 (by simp) fun A X W hA hX hW => ?_
  cbv
  repeat' first
    | (refine part (fun h => ?_) (fun h => ?_) <;> try cbv)
    | (refine And.intro ?_ ?_)
    | (with_reducible refine callB hX hB ?_) <;> cbv
  all_goals subst hA hX hW hF
  all_goals obtain ⟨bs, hxs, hby, hlx, hb, h0, h1, hw0, hw1⟩ := isRd_len hp0
  all_goals have hn := num_rd hp0
  all_goals try (show Region.lexB _ _ = true; kernel_rfl)
  all_goals try (show turnsB _ = true; kernel_rfl)
  all_goals simp only [A0, FsRr0, decide_eq_true_eq, decide_eq_false_iff_not, Bool.not_eq_true', Bool.not_eq_false', Bool.and_eq_true] at *
  all_goals have hbl : (bytesOf xs).length = xs.length := by rw [hby, hlx]
  all_goals have heq := text_eqN xs a w most
  all_goals have hbad := @num_bad xs a w
  all_goals generalize hq : numR xs a w = q at *
  all_goals obtain ⟨n, a', w'⟩ := q
  all_goals try simp only at *
  all_goals have h5 := hn.1.2.1
  all_goals have h6 := hn.1.2.2.1
  all_goals have h7 := trivial
  all_goals have ws : IntKind.wrap .i64 ((xs.length : Int) - a') = xs.length - a' := wrap_i64 (by unfold r64; omega)
  all_goals simp only [ws, bor, Bool.or_eq_true, Bool.or_eq_false_iff, decide_eq_true_eq, decide_eq_false_iff_not] at *
  all_goals first
    | assumption
    | exact hn.1
    | exact ⟨hp0.1, hp0.2.1, hp0.2.2.1, hn.1.2.2.2⟩
    | exact id
    | (intros; first | assumption | trivial | (simp_all; done))
    | exact ⟨_, by rw [hxs, bytesP_drop, bytesP_take]⟩
    | (have wa : IntKind.wrap .i64 (a' + n) = a' + n := wrap_i64 (by unfold r64; omega)
       rw [wa]; omega)
    | (exfalso; simp [errR] at *; omega)
    | (exfalso; simp_all [errR]; done)
    | (have e : textR xs a w most = (.empty, a', w') := by rw [heq]; grind
       refine RetW.ofEq ?_ ?_ <;> rw [e] <;> first | rfl | (simp_all [errR]; done))
    | (have e : textR xs a w most = (.empty, a, 2) := by rw [heq]; grind
       refine RetW.ofEq ?_ ?_ <;> rw [e] <;> first | rfl | (simp_all [errR]; done))
    | (have e : textR xs a w most = (.empty, a, 3) := by rw [heq]; grind
       refine RetW.ofEq ?_ ?_ <;> rw [e] <;> first | rfl | (simp_all [errR]; done))
    | (have wa : IntKind.wrap .i64 (a' + n) = a' + n := wrap_i64 (by unfold r64; omega)
       have ht : (a' + n).toNat - a'.toNat = n.toNat := by omega
       have e : textR xs a w most = (⟨(((bytesOf xs).drop a'.toNat).take n.toNat).toArray⟩, a' + n, 0) := by rw [heq]; grind
       have e0 : w' = 0 := by omega
       refine RetW.ofEq ?_ ?_ <;> simp only [wa, ht, e, e0, bytesOf, List.map_take, List.map_drop])
def kb_rText (F : FsRr) : FuncId × (List DV → Store → SV) := (72, fun args st => match args with
  | [.ref b ver o, .d (.sc (.int .i64 most))] => (match st[b]? with
    | some ⟨t, [.d (.slc 1 xs), .d (.sc (.int .i64 a)), .d (.sc (.int .i64 w))], false, v, true⟩ => (bif (ver == 0) && (o == 0) && (v == 0) && (t == 90) then some ([F.rd xs a w], .d (.sc (.string (F.text xs a w most).1)), st.set b (rdB 90 xs (F.text xs a w most).2.1 (F.text xs a w most).2.2)) else none)
    | _ => none)
  | _ => none)
theorem okb_rText (args : List DV) (st : Store) (cs : List Prop) (r : DV) (st' : Store) (h : (kb_rText FsRr0).2 args st = some (cs, r, st')) (hc : allP cs True) (K : DV → Store → Prop) (hk : K r st') : FnD Try.prog 72 args st K := by
  unfold kb_rText at h
  simp only at h
  split at h
  · split at h
    · rename_i hb
      simp only [cond_eq_ite, Bool.and_eq_true, beq_iff_eq, Option.ite_none_right_eq_some] at h
      obtain ⟨⟨⟨⟨rfl, rfl⟩, rfl⟩, rfl⟩, h⟩ := h
      cases h
      exact FnD.one _ (v_rText _ _ _ _ hc.1) hb rfl rfl rfl rfl hk
    · cases h
  · cases h
theorem text_rd {xs : List (List PD)} {a w : Int} (n : Int) (h : isRd xs a w) : isRd xs (textR xs a w n).2.1 (textR xs a w n).2.2 := by
  have hc := cnt_rd n h
  obtain ⟨bs, hxs, hby, hlx, hb, h0, h1, hw0, hw1⟩ := isRd_len h
  rw [text_eq]
  generalize cntR xs a w n = q at *
  obtain ⟨m, a', w'⟩ := q
  simp only at *
  have h5 := hc.1.2.1
  have h6 := hc.1.2.2.1
  have h7 := hc.2.2.2
  have hbl : (bytesOf xs).length = xs.length := by rw [hby, hlx]
  split
  · exact hc.1
  · rename_i hw
    have hw : w' = 0 := by omega
    split
    · exact ⟨h.1, h.2.1, h.2.2.1, by simp only; omega, by simp only; omega⟩
    · exact ⟨h.1, by simp only; omega, by simp only; omega, by simp only; omega, by simp only; omega⟩
end Go.Proofs.Ytghkcmgiagodlaa
namespace Go.Proofs.Ytghkcmgiagodlaa
open Go.RowKit
set_option linter.all false
set_option maxHeartbeats 4000000
theorem numF_pos (f u : Nat) : 0 < (numF (f + 1) u).length := by
  by_cases hu : u < 128
  · rw [numF_last f u hu]; simp
  · rw [numF_step f u hu]; simp
/-- How many sevens a number has. -/
def sevens : Nat → Nat → Int
  | 0, _ => 0
  | f + 1, u => if u < 128 then 1 else sevens f (u / 128) + 1
/-- What stands between two places. -/
def Took (bs : List UInt8) (a a2 : Int) (p : List UInt8) : Prop := bs.take a2.toNat = bs.take a.toNat ++ p
theorem Took.trans {bs : List UInt8} {a b c : Int} {p q : List UInt8} (h1 : Took bs a b p) (h2 : Took bs b c q) : Took bs a c (p ++ q) := by
  unfold Took at *
  rw [h2, h1, List.append_assoc]
theorem Took.refl {bs : List UInt8} {a : Int} : Took bs a a [] := (List.append_nil _).symm
theorem flag_rd {xs : List (List PD)} {a w : Int} (h : isRd xs a w) : isRd xs (flagR xs a w).2.1 (flagR xs a w).2.2 := by
  obtain ⟨bs, hxs, hby, hlx, hb, h0, h1, hw0, hw1⟩ := isRd_len h
  unfold flagR flagL
  rw [hby]
  split
  · exact h
  · cases hg : bs[a.toNat]? with
    | none => exact ⟨h.1, h.2.1, h.2.2.1, by simp only; omega, by simp only; omega⟩
    | some c =>
      have := (List.getElem?_eq_some_iff.1 hg).1
      simp only
      split
      · exact ⟨h.1, h.2.1, h.2.2.1, by simp only; omega, by simp only; omega⟩
      · exact ⟨h.1, by simp only; omega, by simp only; omega, by simp only; omega, by simp only; omega⟩
/-- So many pairs, read. -/
def lstN (xs : List (List PD)) : Nat → Int → Int → List Pair × Int × Int
  | 0, a, w => ([], a, w)
  | n + 1, a, w =>
    let s := lstN xs n a w
    let k := textR xs s.2.1 s.2.2 16
    let v := textR xs k.2.1 k.2.2 64
    let m := numR xs v.2.1 v.2.2
    (s.1 ++ [⟨k.1, v.1, m.1⟩], m.2)
/-- Pairs, at most so many, read. -/
def lstR (xs : List (List PD)) (a w most : Int) : List Pair × Int × Int :=
  let c := cntR xs a w most
  lstN xs c.1.toNat c.2.1 c.2.2
/-- An owner, read. -/
def owR (xs : List (List PD)) (a w : Int) : Owner × Int × Int :=
  let q := numR xs a w
  if q.1 = 0 then (⟨q.1, zeroRep⟩, q.2) else
    let y := numR xs q.2.1 q.2.2
    let f := flagR xs y.2.1 y.2.2
    let v := textR xs f.2.1 f.2.2 64
    let n := numR xs v.2.1 v.2.2
    let l := lstR xs n.2.1 n.2.2 8
    (⟨q.1, ⟨y.1, f.1, v.1, n.1, pairsX l.1⟩⟩, l.2)
/-- So many owners, read. -/
def owsR (xs : List (List PD)) : Nat → Int → Int → List Owner × Int × Int
  | 0, a, w => ([], a, w)
  | n + 1, a, w =>
    let s := owsR xs n a w
    let o := owR xs s.2.1 s.2.2
    (s.1 ++ [o.1], o.2)
def zeroSt : List DV := cellsS [] (List.replicate 8 ⟨0, zeroRep⟩)
/-- A state, read. -/
noncomputable def getSt (xs : List (List PD)) : List DV × Int :=
  let l := lstR xs 0 0 32
  let o := owsR xs 8 l.2.1 l.2.2
  let e := endR xs o.2.1 o.2.2
  if e = 0 then (if rightSt (cellsS l.1 o.1) = true then (cellsS l.1 o.1, 0) else (zeroSt, 4)) else (zeroSt, e)
theorem lstN_rd {xs : List (List PD)} {a w : Int} (h : isRd xs a w) : ∀ n : Nat, isRd xs (lstN xs n a w).2.1 (lstN xs n a w).2.2 ∧ (lstN xs n a w).1.length = n ∧ ∀ p ∈ (lstN xs n a w).1, r64 p.version
  | 0 => ⟨h, rfl, by intro p hp; cases hp⟩
  | n + 1 => by
      obtain ⟨h1, h2, h3⟩ := lstN_rd h n
      have h4 := text_rd 64 (text_rd 16 h1)
      have h5 := num_rd h4
      refine ⟨h5.1, by simp only [lstN, List.length_append, h2]; rfl, ?_⟩
      intro p hp
      simp only [lstN, List.mem_append, List.mem_singleton] at hp
      rcases hp with hp | hp
      · exact h3 p hp
      · rw [hp]; exact h5.2.2
theorem lstR_rd {xs : List (List PD)} {a w : Int} (h : isRd xs a w) {most : Int} (hm : 0 ≤ most) : isRd xs (lstR xs a w most).2.1 (lstR xs a w most).2.2 ∧ ((lstR xs a w most).1.length : Int) ≤ most ∧ ∀ p ∈ (lstR xs a w most).1, r64 p.version := by
  have hc := cnt_rd most h
  have hn := num_rd h
  have hl : (cntR xs a w most).1 ≤ most := by
    rw [cnt_eq]
    split
    · exact hm
    · rename_i q
      by_cases h0 : (numR xs a w).2.2 = 0
      · have : ¬ ((numR xs a w).1 < 0 ∨ most < (numR xs a w).1) := fun z => q ⟨h0, z⟩
        omega
      · rw [hn.2.1 h0]; exact hm
  unfold lstR
  simp only
  generalize cntR xs a w most = c at *
  have h1 := lstN_rd hc.1 c.1.toNat
  exact ⟨h1.1, by rw [h1.2.1]; omega, h1.2.2⟩
theorem owR_rd {xs : List (List PD)} {a w : Int} (h : isRd xs a w) : isRd xs (owR xs a w).2.1 (owR xs a w).2.2 ∧ r64 (owR xs a w).1.reply.version ∧ ∃ ps, (owR xs a w).1.reply.pairs = pairsX ps ∧ ps.length ≤ 8 ∧ ∀ p ∈ ps, r64 p.version := by
  have h1 := num_rd h
  unfold owR
  simp only
  split
  · exact ⟨h1.1, by simp [zeroRep, r64], [], rfl, by decide, by intro p hp; cases hp⟩
  · have h2 := num_rd h1.1
    have h4 := text_rd 64 (flag_rd h2.1)
    have h5 := num_rd h4
    have h6 := lstR_rd h5.1 (most := 8) (by decide)
    exact ⟨h6.1, h5.2.2, _, rfl, by have := h6.2.1; omega, h6.2.2⟩
theorem owsR_rd {xs : List (List PD)} {a w : Int} (h : isRd xs a w) : ∀ n : Nat, isRd xs (owsR xs n a w).2.1 (owsR xs n a w).2.2 ∧ (owsR xs n a w).1.length = n ∧ ∀ o ∈ (owsR xs n a w).1, r64 o.reply.version ∧ ∃ ps, o.reply.pairs = pairsX ps ∧ ps.length ≤ 8 ∧ ∀ p ∈ ps, r64 p.version
  | 0 => ⟨h, rfl, by intro p hp; cases hp⟩
  | n + 1 => by
      obtain ⟨h1, h2, h3⟩ := owsR_rd h n
      have h4 := owR_rd h1
      refine ⟨h4.1, by simp only [owsR, List.length_append, h2]; rfl, ?_⟩
      intro p hp
      simp only [owsR, List.mem_append, List.mem_singleton] at hp
      rcases hp with hp | hp
      · exact h3 p hp
      · rw [hp]; exact h4.2
/-- The bytes of a state behind commands, as a list. -/
def stB (ps : List Pair) (os : List Owner) : List UInt8 := prB ps ++ (os.map owB).flatten
theorem bytesSt_B {ps : List Pair} {os : List Owner} (hP : isP (pairsX ps)) (hO : isOwn (ownsD os)) (h8 : os.length = 8) (hr : rightSt (cellsS ps os) = true) : bytesSt (cellsS ps os) = bytesP (stB ps os) := by
  unfold bytesSt
  rw [hr, show prsS (cellsS ps os) = pairsX ps from rfl, show ownS (cellsS ps os) = ownsD os from own_mk hO, ownersOf_D h8 rfl]
  show owsX (prX [] (pairsX ps)) os = _
  unfold prX
  rw [pairsOf_X, List.nil_append, owsX_B]
  rfl
theorem rd_nil {bs : List UInt8} (hb : bs.length ≤ 8000000) : isRd (bytesP bs) 0 0 := ⟨⟨bs, rfl, hb⟩, by decide, by omega, by decide, by decide⟩
theorem getSt_is {bs : List UInt8} (hb : bs.length ≤ 8000000) : isSt (getSt (bytesP bs)).1 ∧ okV (getSt (bytesP bs)).1 := by
  have z : isSt zeroSt ∧ okV zeroSt := by
    have hz := zero_st
    refine ⟨hz.is, ?_, ?_⟩
    · intro p hp
      rw [show prsS zeroSt = pairsX [] from rfl, pairsOf_X] at hp
      cases hp
    · intro o ho
      rw [show ownS zeroSt = ownsD (List.replicate 8 ⟨0, zeroRep⟩) from own_mk hz.own, ownersOf_D rfl rfl] at ho
      rw [List.eq_of_mem_replicate ho]
      exact ⟨by simp [zeroRep, r64], fun p hp => by cases hp⟩
  have h0 := rd_nil hb
  have h1 := lstR_rd h0 (most := 32) (by decide)
  have h2 := owsR_rd h1.1 8
  unfold getSt
  simp only
  split
  · split
    · obtain ⟨a1, a2, a3⟩ := h1
      obtain ⟨b1, b2, b3⟩ := h2
      have hP : isP (pairsX (lstR (bytesP bs) 0 0 32).1) := ⟨_, rfl, by omega⟩
      have hO : isOwn (ownsD (owsR (bytesP bs) 8 (lstR (bytesP bs) 0 0 32).2.1 (lstR (bytesP bs) 0 0 32).2.2).1) := ⟨_, b2, rfl, fun o ho => by
        obtain ⟨_, ps, e, hl, _⟩ := b3 o ho
        rw [e]
        exact ⟨ps, rfl, by omega⟩⟩
      refine ⟨isSt.mk hP hO, ?_, ?_⟩
      · intro p hp
        rw [show prsS (cellsS (lstR (bytesP bs) 0 0 32).1 _) = pairsX (lstR (bytesP bs) 0 0 32).1 from rfl, pairsOf_X] at hp
        exact a3 p hp
      · intro o ho
        rw [show ownS (cellsS _ (owsR (bytesP bs) 8 (lstR (bytesP bs) 0 0 32).2.1 (lstR (bytesP bs) 0 0 32).2.2).1) = ownsD _ from own_mk hO, ownersOf_D b2 rfl] at ho
        obtain ⟨h, ps, e, _, hv⟩ := b3 o ho
        refine ⟨h, ?_⟩
        rw [e]
        intro p hp
        rw [pairsOf_X] at hp
        exact hv p hp
    · exact z
  · exact z
end Go.Proofs.Ytghkcmgiagodlaa
namespace Go.Proofs.Ytghkcmgiagodlaa
open Go.RowKit
set_option linter.all false
set_option maxHeartbeats 4000000
theorem lstN_succ {xs : List (List PD)} {n : Nat} {a w b u : Int} {ps : List Pair} (h : lstN xs n a w = (ps, b, u)) : lstN xs (n + 1) a w = (ps ++ [⟨(textR xs b u 16).1, (textR xs (textR xs b u 16).2.1 (textR xs b u 16).2.2 64).1, (numR xs (textR xs (textR xs b u 16).2.1 (textR xs b u 16).2.2 64).2.1 (textR xs (textR xs b u 16).2.1 (textR xs b u 16).2.2 64).2.2).1⟩], (numR xs (textR xs (textR xs b u 16).2.1 (textR xs b u 16).2.2 64).2.1 (textR xs (textR xs b u 16).2.1 (textR xs b u 16).2.2 64).2.2).2) := by
  have e : lstN xs (n + 1) a w = ((lstN xs n a w).1 ++ [⟨(textR xs (lstN xs n a w).2.1 (lstN xs n a w).2.2 16).1, (textR xs (textR xs (lstN xs n a w).2.1 (lstN xs n a w).2.2 16).2.1 (textR xs (lstN xs n a w).2.1 (lstN xs n a w).2.2 16).2.2 64).1, (numR xs (textR xs (textR xs (lstN xs n a w).2.1 (lstN xs n a w).2.2 16).2.1 (textR xs (lstN xs n a w).2.1 (lstN xs n a w).2.2 16).2.2 64).2.1 (textR xs (textR xs (lstN xs n a w).2.1 (lstN xs n a w).2.2 16).2.1 (textR xs (lstN xs n a w).2.1 (lstN xs n a w).2.2 16).2.2 64).2.2).1⟩], (numR xs (textR xs (textR xs (lstN xs n a w).2.1 (lstN xs n a w).2.2 16).2.1 (textR xs (lstN xs n a w).2.1 (lstN xs n a w).2.2 16).2.2 64).2.1 (textR xs (textR xs (lstN xs n a w).2.1 (lstN xs n a w).2.2 16).2.1 (textR xs (lstN xs n a w).2.1 (lstN xs n a w).2.2 16).2.2 64).2.2).2) := rfl
  rw [e, h]
def lsI (ps : List Pair) : Option (List DV × Nat × Nat) → Prop
  | none => ps = []
  | some (cs, _, m) => cs = rowsD (pairsX ps) ∧ m = ps.length
theorem pairs_sz (ps : List Pair) : ∀ x ∈ pairsX ps, x.length = 3 := by
  intro x hx
  simp only [pairsX, List.mem_map] at hx
  obtain ⟨_, _, rfl⟩ := hx
  rfl
def lsT (b : Box) : Option (List DV × Nat × Nat) → Store
  | none => [b]
  | some (cs, v, _) => [b, ⟨63, cs, true, v, true⟩]
def lsS (n : Int) : Int → Option (List DV × Nat × Nat) → SL
  | i, none => [(0, .ref 0 0 0), (5, .d (.sc (.slice none 0 0))), (9, .d (.sc (.int .i64 n))), (10, .d (.sc (.int .i64 i)))]
  | i, some (_, v, m) => [(0, .ref 0 0 0), (5, .view 3 1 v 0 m), (9, .d (.sc (.int .i64 n))), (10, .d (.sc (.int .i64 i)))]
set_option maxRecDepth 100000 in
theorem v_list (xs : List (List PD)) (a w most : Int) (hp0 : isRd xs a w) (hm : 0 ≤ most ∧ most ≤ 1000) : FnD Try.prog 66 [.ref 0 0 0, .d (.sc (.int .i64 most))] [rdB 113 xs a w] (fun r st' => r = .d (.slc 3 (pairsX (lstR xs a w most).1)) ∧ st' = [rdB 113 xs (lstR xs a w most).2.1 (lstR xs a w most).2.2]) := by
  have hc := cnt_rd most hp0
  obtain ⟨⟨n, a0, w0⟩, hq⟩ : ∃ q, cntR xs a w most = q := ⟨_, rfl⟩
  have hlr : lstR xs a w most = lstN xs n.toNat a0 w0 := by unfold lstR; rw [hq]
  rw [hlr]
  have hn0 : 0 ≤ n ∧ n ≤ 1000 := by
    have := hc.2.1
    have h2 := hc.2.2.2
    rw [hq] at this h2
    simp only at this h2
    have h3 := (lstR_rd hp0 hm.1).2.1
    rw [hlr, (lstN_rd (by rw [hq] at hc; exact hc.1) n.toNat).2.1] at h3
    omega
  rw [hq] at hc
  replace hc : isRd xs a0 w0 := hc.1
  obtain ⟨GFsRr, hFsRr⟩ : ∃ F, F = FsRr0 := ⟨_, rfl⟩
  have hH : SoundK Try.prog [] := by subst hFsRr; exact noK_ok
  have hB : SoundB Try.prog [kb_pCount GFsRr, kb_pText GFsRr, kb_pNum GFsRr] := by subst hFsRr; exact orB_ok okb_pCount (orB_ok okb_pText (orB_ok okb_pNum noB_ok))
  refine FnD_cbv (T := fun _ => tabY [] []) (H := fun _ => []) (tabY_ok _ _) hH follows_mixed Try.func66 rfl Try.ntmps66 (by simp) fun A X W hA hX hW => ?_
  cbv
  have eq1 : GFsRr.cnt xs a w most = (n, a0, w0) := by subst hFsRr; exact hq
  cbv at eq1
  refine callB hX hB ?_
  cbv
  simp only [eq1]
  refine ⟨by subst hFsRr; exact hp0, ?_⟩
  refine loopL (T := fun _ => tabY [] []) (H := fun _ => []) (tabY_ok _ _) hH follows_mixed hA hX (fun x : Int × Int × Int × List Pair × Option (List DV × Nat × Nat) => (0 ≤ x.1 ∧ x.1 ≤ n) ∧ lstN xs x.1.toNat a0 w0 = (x.2.2.2.1, x.2.1, x.2.2.1) ∧ lsI x.2.2.2.1 x.2.2.2.2)
    (fun x => lsS n x.1 x.2.2.2.2) (fun x => lsT (rdB 113 xs x.2.1 x.2.2.1) x.2.2.2.2)
    (fun x => n.toNat - x.1.toNat) (0, a0, w0, [], none) ?_ ?_ ?_
  · exact ⟨⟨by omega, hn0.1⟩, rfl, rfl⟩
  · exact told_less (by simp [toldP, getS, lsS])
  rintro R ⟨i, b, u, ps, o⟩ hR ⟨hi, hls, i4⟩
  replace hi : 0 ≤ i ∧ i ≤ n := hi
  replace hls : lstN xs i.toNat a0 w0 = (ps, b, u) := hls
  have hrd : isRd xs b u := by have := (lstN_rd hc i.toNat).1; rw [hls] at this; exact this
  have hpl : ps.length = i.toNat := by have := (lstN_rd hc i.toNat).2.1; rw [hls] at this; exact this
  have i5 : o = none ∧ ps = [] ∨ ∃ cs v m, o = some (cs, v, m) ∧ cs = rowsD (pairsX ps) ∧ m = ps.length := by
    rcases o with _ | ⟨cs, v, m⟩
    · exact .inl ⟨rfl, i4⟩
    · exact .inr ⟨cs, v, m, rfl, i4⟩
  clear i4
  rcases i5 with ⟨rfl, i4⟩ | ⟨cs, v, m, rfl, hcs, hm2⟩ <;>
  cbv
  all_goals
    repeat' first
      | (refine part (fun h => ?_) (fun h => ?_) <;> try cbv)
      | (refine And.intro ?_ ?_)
      | (with_reducible refine callB hX hB ?_) <;> cbv
  all_goals subst hA hX hW hR hFsRr
  all_goals clear hH hB
  all_goals try (show Region.lexB _ _ = true; kernel_rfl)
  all_goals try (show turnsB _ = true; kernel_rfl)
  all_goals simp only [A0, nc, FsRr0, decide_eq_true_eq, decide_eq_false_iff_not] at *
  all_goals have h1 := text_rd 16 hrd
  all_goals have hst := lstN_succ hls
  all_goals generalize e1 : textR xs b u 16 = q1 at *
  all_goals obtain ⟨k, b1, u1⟩ := q1
  all_goals try simp only at *
  all_goals have h2 := text_rd 64 h1
  all_goals generalize e2 : textR xs b1 u1 64 = q2 at *
  all_goals obtain ⟨t, b2, u2⟩ := q2
  all_goals try simp only at *
  all_goals have h3 := (num_rd h2).1
  all_goals generalize e3 : numR xs b2 u2 = q3 at *
  all_goals obtain ⟨s, b3, u3⟩ := q3
  all_goals try simp only at *
  all_goals replace hi : 0 ≤ i ∧ i ≤ n := hi
  all_goals have ei : IntKind.wrap .i64 (i + 1) = i + 1 := wrap_i64 (by unfold r64; omega)
  all_goals first
    | exact hrd
    | exact h1
    | exact h2
    | exact rfl
    | omega
    | skip
  all_goals first
    | (simp; done)
    | (rw [hcs, rowsD_len (pairs_sz ps), hm2]; simp [pairsX]; done)
    | (have hin : i = n := by omega
       subst hin
       subst i4
       rw [hls]
       exact ⟨.d (.slc 3 []), _, TellsV.nil _ _ 3, rfl, rfl⟩)
    | (have hin : i = n := by omega
       subst hin
       rw [hls]
       refine ret_freeze 1 3 (pairsX ps) _ rfl rfl (Nat.le_refl 1) hcs (pairs_sz ps) ?_
       refine ret_keep [0] rfl ⟨?_, ?_⟩
       · simp [fzD, pullD, hm2, pairsX]
       · rfl)
    | (subst i4
       refine ⟨(i + 1, b3, u3, [⟨k, t, s⟩], some (rowsD (pairsX [⟨k, t, s⟩]), 0, 1)), ⟨⟨by simp only; omega, by simp only; omega⟩, by simp only; rw [show (i + 1).toNat = i.toNat + 1 by omega]; exact hst, rfl, rfl⟩, by simp only; omega, told_keep [0, 3] rfl ?_ ?_⟩
       · rfl
       · simp [toldP, getS, lsS, pullD, ei]
         try exact ⟨rfl, rfl⟩)
    | (refine ⟨(i + 1, b3, u3, ps ++ [⟨k, t, s⟩], some (cs ++ rowsD (pairsX [⟨k, t, s⟩]), v + 1, m + 1)), ⟨⟨by simp only; omega, by simp only; omega⟩, by simp only; rw [show (i + 1).toNat = i.toNat + 1 by omega]; exact hst, by rw [hcs, ← rowsD_append]; simp [pairsX], by rw [hm2]; simp⟩, by simp only; omega, told_keep [0, 1] rfl ?_ ?_⟩
       · simp [keepSt, pullBox, lsT, pullL, pullD, pullL_eq, hcs, pull_rows]
         rfl
       · simp [toldP, getS, lsS, pullD, ei]
         try exact ⟨rfl, rfl⟩)
/-- The document's list: it stops at an error. -/
def ls2N (xs : List (List PD)) : Nat → Int → Int → List Pair × Int × Int
  | 0, a, w => ([], a, w)
  | n + 1, a, w =>
    let s := ls2N xs n a w
    if s.2.2 = 0 then
      let k := textR xs s.2.1 s.2.2 16
      let v := textR xs k.2.1 k.2.2 64
      let m := numR xs v.2.1 v.2.2
      (s.1 ++ [⟨k.1, v.1, m.1⟩], m.2)
    else s
def ls2R (xs : List (List PD)) (a w most : Int) : List Pair × Int × Int :=
  let c := cntR xs a w most
  ls2N xs c.1.toNat c.2.1 c.2.2
theorem num_err {xs : List (List PD)} {a w : Int} (h : w ≠ 0) : numR xs a w = (0, a, w) := by
  unfold numR numL
  rw [if_pos h]
theorem cnt_err {xs : List (List PD)} {a w most : Int} (h : w ≠ 0) : cntR xs a w most = (0, a, w) := by
  rw [cnt_eq, num_err h]
  simp [h]
theorem text_err {xs : List (List PD)} {a w most : Int} (h : w ≠ 0) : textR xs a w most = (none8, a, w) := by
  have := cnt_err (xs := xs) (a := a) (most := most) h
  unfold cntR at this
  unfold textR textL
  rw [this]
  simp only
  rw [if_pos h]
  rfl
theorem ls2N_eq (xs : List (List PD)) (a w : Int) : ∀ n : Nat, (ls2N xs n a w).2 = (lstN xs n a w).2 ∧ ((lstN xs n a w).2.2 = 0 → ls2N xs n a w = lstN xs n a w) ∧ ((lstN xs n a w).2.2 ≠ 0 → (ls2N xs n a w).1.length ≤ n)
  | 0 => ⟨rfl, fun _ => rfl, fun _ => Nat.le_refl 0⟩
  | n + 1 => by
      obtain ⟨h1, h2, h4⟩ := ls2N_eq xs a w n
      obtain ⟨⟨ps, b, u⟩, hq⟩ : ∃ q, lstN xs n a w = q := ⟨_, rfl⟩
      rw [hq] at h1 h2 h4
      have hs := lstN_succ hq
      by_cases hu : u = 0
      · have h3 := h2 hu
        have e : ls2N xs (n + 1) a w = lstN xs (n + 1) a w := by
          rw [hs, ls2N]
          simp only [h3]
          rw [if_pos hu]
        have hl : (lstN xs n a w).1.length = n := by
          have : ∀ n : Nat, (lstN xs n a w).1.length = n := by
            intro n
            induction n with
            | zero => rfl
            | succ n ih => simp only [lstN, List.length_append, ih]; rfl
          exact this n
        refine ⟨by rw [e], fun _ => e, fun _ => ?_⟩
        rw [e, hs]
        rw [hq] at hl
        simp only at hl
        simp [hl]
      · have e2 : (ls2N xs (n + 1) a w) = ls2N xs n a w := by
          rw [ls2N]
          simp only [h1]
          rw [if_neg hu]
        have e1 : (lstN xs (n + 1) a w).2 = (b, u) := by
          rw [hs]
          simp only [text_err hu, num_err hu]
        rw [e2, h1, e1]
        exact ⟨rfl, fun h => absurd h hu, fun h => Nat.le_trans (h4 h) (Nat.le_succ n)⟩
theorem ls2R_eq (xs : List (List PD)) (a w most : Int) : (ls2R xs a w most).2 = (lstR xs a w most).2 ∧ ((lstR xs a w most).2.2 = 0 → ls2R xs a w most = lstR xs a w most) := ⟨(ls2N_eq xs _ _ _).1, (ls2N_eq xs _ _ _).2.1⟩
theorem ls2N_succ {xs : List (List PD)} {n : Nat} {a w b u : Int} {ps : List Pair} (h : ls2N xs n a w = (ps, b, u)) (hu : u = 0) : ls2N xs (n + 1) a w = (ps ++ [⟨(textR xs b u 16).1, (textR xs (textR xs b u 16).2.1 (textR xs b u 16).2.2 64).1, (numR xs (textR xs (textR xs b u 16).2.1 (textR xs b u 16).2.2 64).2.1 (textR xs (textR xs b u 16).2.1 (textR xs b u 16).2.2 64).2.2).1⟩], (numR xs (textR xs (textR xs b u 16).2.1 (textR xs b u 16).2.2 64).2.1 (textR xs (textR xs b u 16).2.1 (textR xs b u 16).2.2 64).2.2).2) := by
  rw [ls2N]
  simp only [h]
  rw [if_pos hu]
theorem ls2N_stop {xs : List (List PD)} {n : Nat} {a w b u : Int} {ps : List Pair} (h : ls2N xs n a w = (ps, b, u)) (hu : ¬ u = 0) : ∀ m : Nat, ls2N xs (n + m) a w = (ps, b, u)
  | 0 => h
  | m + 1 => by
      have := ls2N_stop h hu m
      rw [show n + (m + 1) = (n + m) + 1 by omega, ls2N]
      simp only [this]
      rw [if_neg hu]
theorem ls2N_len (xs : List (List PD)) (a w : Int) : ∀ n : Nat, (ls2N xs n a w).1.length ≤ n
  | 0 => Nat.le_refl 0
  | n + 1 => by
      have h := ls2N_len xs a w n
      rw [ls2N]
      simp only
      split
      · simp only [List.length_append, List.length_singleton]; omega
      · omega
theorem ls2N_rd {xs : List (List PD)} {a w : Int} (h : isRd xs a w) (n : Nat) : isRd xs (ls2N xs n a w).2.1 (ls2N xs n a w).2.2 := by
  rw [(ls2N_eq xs a w n).1]
  exact (lstN_rd h n).1
def ls2S (n : Int) : Int → Option (List DV × Nat × Nat) → SL
  | i, none => [(0, .ref 0 0 0), (5, .d (.sc (.slice none 0 0))), (6, .d (.sc (.int .i64 n))), (7, .d (.sc (.int .i64 i)))]
  | i, some (_, v, m) => [(0, .ref 0 0 0), (5, .view 3 1 v 0 m), (6, .d (.sc (.int .i64 n))), (7, .d (.sc (.int .i64 i)))]
set_option maxRecDepth 100000 in
theorem v_getPairs (xs : List (List PD)) (a w most : Int) (hp0 : isRd xs a w) (hm : 0 ≤ most ∧ most ≤ 1000) : FnD Try.prog 70 [.ref 0 0 0, .d (.sc (.int .i64 most))] [rdB 90 xs a w] (fun r st' => r = .d (.slc 3 (pairsX (ls2R xs a w most).1)) ∧ st' = [rdB 90 xs (ls2R xs a w most).2.1 (ls2R xs a w most).2.2]) := by
  have hc := cnt_rd most hp0
  obtain ⟨⟨n, a0, w0⟩, hq⟩ : ∃ q, cntR xs a w most = q := ⟨_, rfl⟩
  have hlr : ls2R xs a w most = ls2N xs n.toNat a0 w0 := by unfold ls2R; rw [hq]
  have hlr2 : lstR xs a w most = lstN xs n.toNat a0 w0 := by unfold lstR; rw [hq]
  rw [hlr]
  have hn0 : 0 ≤ n ∧ n ≤ 1000 := by
    have := hc.2.1
    have h2 := hc.2.2.2
    rw [hq] at this h2
    simp only at this h2
    have h3 := (lstR_rd hp0 hm.1).2.1
    rw [hlr2, (lstN_rd (by rw [hq] at hc; exact hc.1) n.toNat).2.1] at h3
    omega
  rw [hq] at hc
  replace hc : isRd xs a0 w0 := hc.1
  obtain ⟨GFsRr, hFsRr⟩ : ∃ F, F = FsRr0 := ⟨_, rfl⟩
  have hH : SoundK Try.prog [] := by subst hFsRr; exact noK_ok
  have hB : SoundB Try.prog [kb_rCount GFsRr, kb_rText GFsRr, kb_rNum GFsRr] := by subst hFsRr; exact orB_ok okb_rCount (orB_ok okb_rText (orB_ok okb_rNum noB_ok))
  refine FnD_cbv (T := fun _ => tabY [] []) (H := fun _ => []) (tabY_ok _ _) hH follows_mixed Try.func70 rfl Try.ntmps70 (by simp) fun A X W hA hX hW => ?_
  cbv
  have eq1 : GFsRr.cnt xs a w most = (n, a0, w0) := by subst hFsRr; exact hq
  cbv at eq1
  refine callB hX hB ?_
  cbv
  simp only [eq1]
  refine ⟨by subst hFsRr; exact hp0, ?_⟩
  refine loopL (T := fun _ => tabY [] []) (H := fun _ => []) (tabY_ok _ _) hH follows_mixed hA hX (fun x : Int × Int × Int × List Pair × Option (List DV × Nat × Nat) => (0 ≤ x.1 ∧ x.1 ≤ n) ∧ ls2N xs x.1.toNat a0 w0 = (x.2.2.2.1, x.2.1, x.2.2.1) ∧ lsI x.2.2.2.1 x.2.2.2.2)
    (fun x => ls2S n x.1 x.2.2.2.2) (fun x => lsT (rdB 90 xs x.2.1 x.2.2.1) x.2.2.2.2)
    (fun x => n.toNat - x.1.toNat) (0, a0, w0, [], none) ?_ ?_ ?_
  · exact ⟨⟨by omega, hn0.1⟩, rfl, rfl⟩
  · exact told_less (by simp [toldP, getS, ls2S])
  rintro R ⟨i, b, u, ps, o⟩ hR ⟨hi, hls, i4⟩
  replace hi : 0 ≤ i ∧ i ≤ n := hi
  replace hls : ls2N xs i.toNat a0 w0 = (ps, b, u) := hls
  have hrd : isRd xs b u := by have := (ls2N_rd hc i.toNat); rw [hls] at this; exact this
  have hpl : ps.length ≤ i.toNat := by have := ls2N_len xs a0 w0 i.toNat; rw [hls] at this; exact this
  have i5 : o = none ∧ ps = [] ∨ ∃ cs v m, o = some (cs, v, m) ∧ cs = rowsD (pairsX ps) ∧ m = ps.length := by
    rcases o with _ | ⟨cs, v, m⟩
    · exact .inl ⟨rfl, i4⟩
    · exact .inr ⟨cs, v, m, rfl, i4⟩
  clear i4
  rcases i5 with ⟨rfl, i4⟩ | ⟨cs, v, m, rfl, hcs, hm2⟩ <;>
  cbv
  all_goals
    repeat' first
      | (refine part (fun h => ?_) (fun h => ?_) <;> try cbv)
      | (refine And.intro ?_ ?_)
      | (with_reducible refine callB hX hB ?_) <;> cbv
  all_goals subst hA hX hW hR hFsRr
  all_goals clear hH hB
  all_goals try (show Region.lexB _ _ = true; kernel_rfl)
  all_goals try (show turnsB _ = true; kernel_rfl)
  all_goals simp only [A0, nc, FsRr0, decide_eq_true_eq, decide_eq_false_iff_not] at *
  all_goals first
    | exact id
    | (intros; first | assumption | trivial | exact rfl)
    | skip
  all_goals have h1 := text_rd 16 hrd
  all_goals have hst := fun hu : u = 0 => ls2N_succ hls hu
  all_goals have hsp := fun hu : ¬ u = 0 => ls2N_stop hls hu
  all_goals generalize e1 : textR xs b u 16 = q1 at *
  all_goals obtain ⟨k, b1, u1⟩ := q1
  all_goals try simp only at *
  all_goals have h2 := text_rd 64 h1
  all_goals generalize e2 : textR xs b1 u1 64 = q2 at *
  all_goals obtain ⟨t, b2, u2⟩ := q2
  all_goals try simp only at *
  all_goals have h3 := (num_rd h2).1
  all_goals generalize e3 : numR xs b2 u2 = q3 at *
  all_goals obtain ⟨s, b3, u3⟩ := q3
  all_goals try simp only at *
  all_goals replace hi : 0 ≤ i ∧ i ≤ n := hi
  all_goals have ei : IntKind.wrap .i64 (i + 1) = i + 1 := wrap_i64 (by unfold r64; omega)
  all_goals first
    | exact hrd
    | exact h1
    | exact h2
    | exact rfl
    | omega
    | (simp; done)
    | (rw [hcs, rowsD_len (pairs_sz ps), hm2]; simp [pairsX]; done)
    | skip
  all_goals have hh : (i < n ∧ u = 0) ∨ (i < n ∧ ¬ u = 0) ∨ i = n := by omega
  all_goals first
    | (have hu : u = 0 ∧ i < n := by
         rcases hh with ⟨g1, g2⟩ | ⟨g1, g2⟩ | g1
         · exact ⟨g2, g1⟩
         · exfalso; simp [g1, g2] at h
         · exfalso; simp [g1] at h
       first
         | (subst i4
            refine ⟨(i + 1, b3, u3, [⟨k, t, s⟩], some (rowsD (pairsX [⟨k, t, s⟩]), 0, 1)), ⟨⟨by simp only; omega, by simp only; omega⟩, by simp only; rw [show (i + 1).toNat = i.toNat + 1 by omega]; exact hst hu.1, rfl, rfl⟩, by simp only; omega, told_keep [0, 3] rfl ?_ ?_⟩
            · rfl
            · simp [toldP, getS, ls2S, pullD, ei]
              try exact ⟨rfl, rfl⟩)
         | (refine ⟨(i + 1, b3, u3, ps ++ [⟨k, t, s⟩], some (cs ++ rowsD (pairsX [⟨k, t, s⟩]), v + 1, m + 1)), ⟨⟨by simp only; omega, by simp only; omega⟩, by simp only; rw [show (i + 1).toNat = i.toNat + 1 by omega]; exact hst hu.1, by rw [hcs, ← rowsD_append]; simp [pairsX], by rw [hm2]; simp⟩, by simp only; omega, told_keep [0, 1] rfl ?_ ?_⟩
            · simp [keepSt, pullBox, lsT, pullL, pullD, pullL_eq, hcs, pull_rows]
              rfl
            · simp [toldP, getS, ls2S, pullD, ei]
              try exact ⟨rfl, rfl⟩))
    | (have hu : ls2N xs n.toNat a0 w0 = (ps, b, u) := by
         rcases hh with ⟨g1, g2⟩ | ⟨g1, g2⟩ | g1
         · exfalso; simp [g1, g2] at h
         · have := hsp g2 (n.toNat - i.toNat)
           rw [show i.toNat + (n.toNat - i.toNat) = n.toNat by omega] at this
           exact this
         · rw [← g1]; exact hls
       rw [hu]
       first
         | (subst i4
            exact ⟨.d (.slc 3 []), _, TellsV.nil _ _ 3, rfl, rfl⟩)
         | (refine ret_freeze 1 3 (pairsX ps) _ rfl rfl (Nat.le_refl 1) hcs (pairs_sz ps) ?_
            refine ret_keep [0] rfl ⟨?_, ?_⟩
            · simp [fzD, pullD, hm2, pairsX]
            · rfl))
def lsX (xs : List (List PD)) (a w most : Int) : List (List PD) × Int × Int := (pairsX (lstR xs a w most).1, (lstR xs a w most).2)
def ls2X (xs : List (List PD)) (a w most : Int) : List (List PD) × Int × Int := (pairsX (ls2R xs a w most).1, (ls2R xs a w most).2)
def mostOk (m : Int) : Prop := 0 ≤ m ∧ m ≤ 1000
theorem v_list2 (xs : List (List PD)) (a w most : Int) (hp0 : isRd xs a w) (hm : mostOk most) : FnD Try.prog 66 [.ref 0 0 0, .d (.sc (.int .i64 most))] [rdB 113 xs a w] (fun r st' => r = .d (.slc 3 (lsX xs a w most).1) ∧ st' = [rdB 113 xs (lsX xs a w most).2.1 (lsX xs a w most).2.2]) := v_list xs a w most hp0 hm
theorem v_getPairs2 (xs : List (List PD)) (a w most : Int) (hp0 : isRd xs a w) (hm : mostOk most) : FnD Try.prog 70 [.ref 0 0 0, .d (.sc (.int .i64 most))] [rdB 90 xs a w] (fun r st' => r = .d (.slc 3 (ls2X xs a w most).1) ∧ st' = [rdB 90 xs (ls2X xs a w most).2.1 (ls2X xs a w most).2.2]) := v_getPairs xs a w most hp0 hm
structure FsGl where
  list : List (List PD) → Int → Int → Int → List (List PD) × Int × Int
  list2 : List (List PD) → Int → Int → Int → List (List PD) × Int × Int
  rd : List (List PD) → Int → Int → Prop
  most : Int → Prop
def FsGl0 : FsGl where
  list := lsX
  list2 := ls2X
  rd := isRd
  most := mostOk
def kb_list (F : FsGl) : FuncId × (List DV → Store → SV) := (66, fun args st => match args with
  | [.ref b ver o, .d (.sc (.int .i64 most))] => (match st[b]? with
    | some ⟨t, [.d (.slc 1 xs), .d (.sc (.int .i64 a)), .d (.sc (.int .i64 w))], false, v, true⟩ => (bif (ver == 0) && (o == 0) && (v == 0) && (t == 113) then some ([F.rd xs a w, F.most most], .d (.slc 3 (F.list xs a w most).1), st.set b (rdB 113 xs (F.list xs a w most).2.1 (F.list xs a w most).2.2)) else none)
    | _ => none)
  | _ => none)
theorem okb_list (args : List DV) (st : Store) (cs : List Prop) (r : DV) (st' : Store) (h : (kb_list FsGl0).2 args st = some (cs, r, st')) (hc : allP cs True) (K : DV → Store → Prop) (hk : K r st') : FnD Try.prog 66 args st K := by
  unfold kb_list at h
  simp only at h
  split at h
  · split at h
    · rename_i hb
      simp only [cond_eq_ite, Bool.and_eq_true, beq_iff_eq, Option.ite_none_right_eq_some] at h
      obtain ⟨⟨⟨⟨rfl, rfl⟩, rfl⟩, rfl⟩, h⟩ := h
      cases h
      exact FnD.one _ (v_list2 _ _ _ _ hc.1 hc.2.1) hb rfl rfl rfl rfl hk
    · cases h
  · cases h
def kb_getPairs (F : FsGl) : FuncId × (List DV → Store → SV) := (70, fun args st => match args with
  | [.ref b ver o, .d (.sc (.int .i64 most))] => (match st[b]? with
    | some ⟨t, [.d (.slc 1 xs), .d (.sc (.int .i64 a)), .d (.sc (.int .i64 w))], false, v, true⟩ => (bif (ver == 0) && (o == 0) && (v == 0) && (t == 90) then some ([F.rd xs a w, F.most most], .d (.slc 3 (F.list2 xs a w most).1), st.set b (rdB 90 xs (F.list2 xs a w most).2.1 (F.list2 xs a w most).2.2)) else none)
    | _ => none)
  | _ => none)
theorem okb_getPairs (args : List DV) (st : Store) (cs : List Prop) (r : DV) (st' : Store) (h : (kb_getPairs FsGl0).2 args st = some (cs, r, st')) (hc : allP cs True) (K : DV → Store → Prop) (hk : K r st') : FnD Try.prog 70 args st K := by
  unfold kb_getPairs at h
  simp only at h
  split at h
  · split at h
    · rename_i hb
      simp only [cond_eq_ite, Bool.and_eq_true, beq_iff_eq, Option.ite_none_right_eq_some] at h
      obtain ⟨⟨⟨⟨rfl, rfl⟩, rfl⟩, rfl⟩, h⟩ := h
      cases h
      exact FnD.one _ (v_getPairs2 _ _ _ _ hc.1 hc.2.1) hb rfl rfl rfl rfl hk
    · cases h
  · cases h
def grownX (xs : List (List PD)) (n : Int) : List (List PD) := xs
def isG (xs : List (List PD)) (n : Int) : Prop := (∃ bs, xs = bytesP bs ∧ bs.length ≤ 8000000) ∧ 0 ≤ n ∧ n ≤ 8388608
def isB8 (xs : List (List PD)) : Prop := ∃ bs, xs = bytesP bs ∧ bs.length ≤ 8000000
structure FsSr where
  grown : List (List PD) → Int → List (List PD)
  isG : List (List PD) → Int → Prop
  isB : List (List PD) → Prop
  rd : List (List PD) → Int → Int → Prop
noncomputable def FsSr0 : FsSr where
  grown := grownX
  isG := isG
  isB := isB8
  rd := isRd
theorem v_grown (xs : List (List PD)) (n : Int) (hp0 : FsSr0.isG xs n) : FnV Try.prog 79 [.d (.slc 1 xs), intD n] (.d (.slc 1 (grownX xs n))) := by
  obtain ⟨⟨bs, hxs, hb⟩, h0, h1⟩ := hp0
  refine FnD.ret ((w_grown bs xs n hxs h0 h1 (by omega)).mono ?_)
  rintro r st ⟨cs, m, hcs, hm, rfl, rfl⟩
  exact ret_bytes rfl hm hcs (by rw [grownX, hxs])
def kn_grown (F : FsSr) : FuncId × (List DV → RV) := (79, fun args => match args with
  | [.d (.slc 1 xs), .d (.sc (.int .i64 n))] => some ([F.isG xs n], .d (.slc 1 (F.grown xs n)))
  | [.d (.sc (.slice none 0 0)), .d (.sc (.int .i64 n))] => some ([F.isG [] n], .d (.slc 1 (F.grown [] n)))
  | _ => none)
theorem ok_grown (args : List DV) (cs : List Prop) (r : DV) (h : (kn_grown FsSr0).2 args = some (cs, r)) (hc : allP cs True) : FnV Try.prog 79 args r ∧ closedL 0 args = true := by
  unfold kn_grown at h
  simp only at h
  split at h
  · cases h; exact ⟨v_grown _ _ hc.1, rfl⟩
  · cases h; exact ⟨FnP.nils (v_grown [] _ hc.1) ⟨.inr ⟨rfl, _, rfl⟩, ⟨.inl rfl, trivial⟩⟩, rfl⟩
  · cases h
set_option maxRecDepth 100000 in
theorem v_pRead (xs : List (List PD)) (hp0 : FsSr0.isB xs) : FnD Try.prog 40 [.d (.slc 1 xs)] [] (fun r st' => r = .ref 0 0 0 ∧ st' = [rdB 113 xs 0 0]) := by
  obtain ⟨F, hF⟩ : ∃ F, F = FsSr0 := ⟨_, rfl⟩
  have hH : SoundK Try.prog [kn_grown F] := by subst hF; exact orK_ok ok_grown noK_ok
  refine FnD_cbv (T := fun _ => tabY [] []) (H := fun _ => [kn_grown F]) (tabY_ok _ _) hH follows_mixed Try.func40 rfl Try.ntmps40 (by simp) fun A X W hA hX hW => ?_
  clear hH
  cbv
  refine And.intro ?_ ?_ <;> subst hA hX hW hF
  · exact ⟨hp0, by omega, by omega⟩
  · exact RetW.refl ⟨rfl, rfl⟩
def kb_pRead (F : FsSr) : FuncId × (List DV → Store → SV) := (40, fun args st => match args with
  | [.d (.slc 1 xs)] => some ([F.isB xs], .ref st.length 0 0, st ++ [rdB 113 xs 0 0])
  | [.d (.sc (.slice none 0 0))] => some ([], .ref st.length 0 0, st ++ [rdB 113 [] 0 0])
  | _ => none)
theorem okb_pRead (args : List DV) (st : Store) (cs : List Prop) (r : DV) (st' : Store) (h : (kb_pRead FsSr0).2 args st = some (cs, r, st')) (hc : allP cs True) (K : DV → Store → Prop) (hk : K r st') : FnD Try.prog 40 args st K := by
  unfold kb_pRead at h
  simp only at h
  split at h
  · cases h
    exact FnD.new1 (v_pRead _ hc.1) rfl rfl hk
  · cases h
    exact FnD.nils (FnD.new1 (v_pRead [] ⟨[], rfl, by simp⟩) rfl rfl hk) ⟨.inr ⟨rfl, _, rfl⟩, trivial⟩
  · cases h
set_option maxRecDepth 100000 in
theorem v_rRead (xs : List (List PD)) (hp0 : FsSr0.isB xs) : FnD Try.prog 47 [.d (.slc 1 xs)] [] (fun r st' => r = .ref 0 0 0 ∧ st' = [rdB 90 xs 0 0]) := by
  refine FnD_cbv (T := fun _ => tabY [] []) (H := fun _ => []) (tabY_ok _ _) noK_ok follows_mixed Try.func47 rfl Try.ntmps47 (by simp) fun A X W hA hX hW => ?_
  cbv
  subst hA hX hW
  exact RetW.refl ⟨rfl, rfl⟩
def kb_rRead (F : FsSr) : FuncId × (List DV → Store → SV) := (47, fun args st => match args with
  | [.d (.slc 1 xs)] => some ([F.isB xs], .ref st.length 0 0, st ++ [rdB 90 xs 0 0])
  | [.d (.sc (.slice none 0 0))] => some ([], .ref st.length 0 0, st ++ [rdB 90 [] 0 0])
  | _ => none)
theorem okb_rRead (args : List DV) (st : Store) (cs : List Prop) (r : DV) (st' : Store) (h : (kb_rRead FsSr0).2 args st = some (cs, r, st')) (hc : allP cs True) (K : DV → Store → Prop) (hk : K r st') : FnD Try.prog 47 args st K := by
  unfold kb_rRead at h
  simp only at h
  split at h
  · cases h
    exact FnD.new1 (v_rRead _ hc.1) rfl rfl hk
  · cases h
    exact FnD.nils (FnD.new1 (v_rRead [] ⟨[], rfl, by simp⟩) rfl rfl hk) ⟨.inr ⟨rfl, _, rfl⟩, trivial⟩
  · cases h
theorem rd0 {xs : List (List PD)} (h : isB8 xs) : isRd xs 0 0 := ⟨h, by omega, by omega, by omega, by omega⟩
end Go.Proofs.Ytghkcmgiagodlaa
namespace Go.Proofs.Ytghkcmgiagodlaa
open Go.RowKit
set_option linter.all false
set_option maxHeartbeats 4000000
theorem splice_one (P Q : List DV) (z d : DV) (o : Nat) (h : o = P.length) : splice (P ++ z :: Q) o [d] = P ++ d :: Q := by
  subst h
  simp [splice]
theorem splice_at {P Q S : List DV} {o : Nat} (j : Nat) (ho : o = P.length + j) (hj : j < Q.length) (d : DV) : splice (P ++ (Q ++ S)) o [d] = P ++ (Q.set j d ++ S) := by
  subst ho
  have e : Q = Q.take j ++ (Q[j]'hj :: Q.drop (j + 1)) := by rw [← List.drop_eq_getElem_cons hj, List.take_append_drop]
  have e2 : Q.set j d = Q.take j ++ (d :: Q.drop (j + 1)) := by rw [List.set_eq_take_append_cons_drop, if_pos hj]
  rw [e2]
  rw [show P ++ (Q ++ S) = (P ++ Q.take j) ++ (Q[j]'hj :: (Q.drop (j + 1) ++ S)) by
    have e3 := congrArg (fun z => P ++ (z ++ S)) e
    simp only [List.append_assoc, List.cons_append] at e3 ⊢
    exact e3]
  rw [splice_one _ _ _ _ _ (by rw [List.length_append, List.length_take]; omega)]
  simp
theorem get_at {P Q S : List DV} {o : Nat} (j : Nat) (ho : o = P.length + j) (hj : j < Q.length) : (P ++ (Q ++ S))[o]? = Q[j]? := by
  subst ho
  rw [List.getElem?_append_right (by omega), List.getElem?_append_left (by omega)]
  congr 1
  omega
def zero6 : List DV := [.d (.sc (.int .i64 0)), .d (.sc (.int .i64 0)), .d (.sc (.bool false)), .d (.sc (.string none8)), .d (.sc (.int .i64 0)), .d (.slc 3 [])]
theorem own_dec (c : DV) {cs : List DV} {os : List Owner} (hcs : cs = ownsD os) (i : Nat) (h : i < os.length) : ∃ P : List DV, P = c :: ownsD (os.take i) ∧ P.length = 1 + i * 6 ∧ ∃ S : List DV, c :: cs = P ++ ((os[i]'h).cells ++ S) ∧ ∀ o : Owner, c :: ownsD (os.set i o) = P ++ (o.cells ++ S) := by
  have hd : ∀ xs ys : List Owner, ownsD (xs ++ ys) = ownsD xs ++ ownsD ys := fun xs ys => by simp [ownsD]
  refine ⟨_, rfl, ?_, ownsD (os.drop (i + 1)), ?_, fun o => ?_⟩
  · rw [List.length_cons, own_length, List.length_take]; omega
  · have e : os = os.take i ++ (os[i]'h :: os.drop (i + 1)) := by rw [← List.drop_eq_getElem_cons h, List.take_append_drop]
    have e2 : ownsD os = ownsD (os.take i ++ (os[i]'h :: os.drop (i + 1))) := congrArg ownsD e
    rw [hcs, e2, hd]
    rfl
  · rw [List.set_eq_take_append_cons_drop, if_pos h, hd]
    rfl
theorem own_clo (xl : List (List PD)) {os : List Owner} : closedL 0 (.d (.slc 3 xl) :: ownsD os) = true := by
  show closedL 0 (ownsD os) = true
  induction os with
  | nil => rfl
  | cons o os ih =>
    have e : ownsD (o :: os) = o.cells ++ ownsD os := rfl
    rw [e]
    exact ih
theorem own_next {os : List Owner} {n : Nat} {z : Owner} (o : Owner) (h8 : os.length = 8) (hn : n < 8) (hd : os.drop n = List.replicate (8 - n) z) : (os.set n o).take (n + 1) = os.take n ++ [o] ∧ (os.set n o).drop (n + 1) = List.replicate (8 - (n + 1)) z := by
  have hin : n < os.length := by omega
  constructor
  · rw [List.set_eq_take_append_cons_drop, if_pos hin, List.take_append]
    rw [List.take_of_length_le (by rw [List.length_take]; omega), List.length_take, Nat.min_eq_left (Nat.le_of_lt hin)]
    simp
  · rw [List.drop_set_of_lt (by omega)]
    have : os.drop (n + 1) = (os.drop n).drop 1 := by rw [List.drop_drop]
    rw [this, hd, List.drop_replicate]
    congr 1
theorem owsR_succ {xs : List (List PD)} {n : Nat} {a w b u : Int} {os : List Owner} (h : owsR xs n a w = (os, b, u)) : owsR xs (n + 1) a w = (os ++ [(owR xs b u).1], (owR xs b u).2) := by
  have e : owsR xs (n + 1) a w = ((owsR xs n a w).1 ++ [(owR xs (owsR xs n a w).2.1 (owsR xs n a w).2.2).1], (owR xs (owsR xs n a w).2.1 (owsR xs n a w).2.2).2) := rfl
  rw [e, h]
theorem owR_eq (xs : List (List PD)) (a w : Int) : owR xs a w = (let q := numR xs a w
  if q.1 = 0 then (⟨q.1, zeroRep⟩, q.2) else
    let y := numR xs q.2.1 q.2.2
    let f := flagR xs y.2.1 y.2.2
    let v := textR xs f.2.1 f.2.2 64
    let n := numR xs v.2.1 v.2.2
    let l := lsX xs n.2.1 n.2.2 8
    (⟨q.1, ⟨y.1, f.1, v.1, n.1, l.1⟩⟩, l.2)) := by
  unfold owR lsX
  simp only
set_option maxRecDepth 1000000 in
theorem v_getS (xs : List (List PD)) (hp0 : isB8 xs) : FnV Try.prog 32 [.d (.slc 1 xs)] (.tup [.agg (getSt xs).1, .d (.sc (.int .i64 (getSt xs).2))]) := by
  obtain ⟨GFsS4, hFsS4⟩ : ∃ F, F = FsS40 := ⟨_, rfl⟩
  obtain ⟨GFsSr, hFsSr⟩ : ∃ F, F = FsSr0 := ⟨_, rfl⟩
  obtain ⟨GFsGl, hFsGl⟩ : ∃ F, F = FsGl0 := ⟨_, rfl⟩
  obtain ⟨GFsRr, hFsRr⟩ : ∃ F, F = FsRr0 := ⟨_, rfl⟩
  have hH : SoundK Try.prog [kn_rightSt GFsS4] := by subst hFsS4 hFsSr hFsGl hFsRr; exact orK_ok ok_rightSt noK_ok
  have hB : SoundB Try.prog [kb_pRead GFsSr, kb_list GFsGl, kb_pNum GFsRr, kb_pFlag GFsRr, kb_pText GFsRr, kb_pEnd GFsRr] := by subst hFsS4 hFsSr hFsGl hFsRr; exact orB_ok okb_pRead (orB_ok okb_list (orB_ok okb_pNum (orB_ok okb_pFlag (orB_ok okb_pText (orB_ok okb_pEnd noB_ok)))))
  refine FnD_cbv (T := fun _ => tabY [7, 19, 20, 23, 24, 25, 26, 27, 30, 33, 34, 35, 36, 39, 40, 41, 42, 45, 46, 47, 48, 51, 52, 53, 54, 57, 58, 59, 1002, 1005, 1065, 1070, 1071, 5004] []) (H := fun _ => [kn_rightSt GFsS4]) (tabY_ok _ _) hH follows_mixed Try.func32 rfl Try.ntmps32 (by simp) fun A X W hA hX hW => ?_
  cbv
  obtain ⟨z, hz⟩ : ∃ z, z = DV.d (.sc (.slice none 0 0)) :: Z48 := ⟨_, rfl⟩
  have h0 := rd0 hp0
  have hup : ∀ xl : List (List PD), UpL (.d (.slc 3 xl) :: Z48) (.d (.slc 3 xl) :: ownsD (List.replicate 8 ⟨0, zeroRep⟩)) := fun xl => by
    have e : upCs (.d (.slc 3 xl) :: Z48) = .d (.slc 3 xl) :: ownsD (List.replicate 8 ⟨0, zeroRep⟩) := rfl
    rw [← e]
    exact upL_upCs _
  have hup0 : UpL (DV.d (.sc (.slice none 0 0)) :: Z48) zeroSt := by
    have e : upCs (DV.d (.sc (.slice none 0 0)) :: Z48) = zeroSt := rfl
    rw [← e]
    exact upL_upCs _
  obtain ⟨⟨pl, b0, u0⟩, hq⟩ : ∃ q, lstR xs 0 0 32 = q := ⟨_, rfl⟩
  have hl := lstR_rd h0 (most := 32) (by decide)
  rw [hq] at hl
  obtain ⟨hr0, hpl, hpv⟩ := hl
  replace hr0 : isRd xs b0 u0 := hr0
  have hpn : pl.length ≤ 4194304 := by simp only at hpl; omega
  obtain ⟨xl, hxl⟩ : ∃ xl, xl = pairsX pl := ⟨_, rfl⟩
  have eq1 : GFsGl.list xs 0 0 32 = (xl, b0, u0) := by subst hFsGl; show lsX xs 0 0 32 = _; unfold lsX; rw [hq, hxl]
  cbv at eq1
  refine callB hX hB ?_
  cbv
  refine ⟨by subst hFsSr; exact hp0, ?_⟩
  refine callB hX hB ?_
  cbv
  refine ⟨by subst hFsGl; exact h0, by subst hFsGl; exact ⟨by decide, by decide⟩, ?_⟩
  simp only [eq1]
  refine loopL (T := fun _ => tabY [7, 19, 20, 23, 24, 25, 26, 27, 30, 33, 34, 35, 36, 39, 40, 41, 42, 45, 46, 47, 48, 51, 52, 53, 54, 57, 58, 59, 1002, 1005, 1065, 1070, 1071, 5004] []) (H := fun _ => [kn_rightSt GFsS4]) (tabY_ok _ _) hH follows_mixed hA hX (fun x : Int × Int × Int × List DV => (0 ≤ x.1 ∧ x.1 ≤ 8) ∧ ∃ os, x.2.2.2 = ownsD os ∧ owsR xs x.1.toNat b0 u0 = (os.take x.1.toNat, x.2.1, x.2.2.1) ∧ os.length = 8 ∧ os.drop x.1.toNat = List.replicate (8 - x.1.toNat) ⟨0, zeroRep⟩)
    (fun x => [(2, .ref 0 0 0), (4, .ref 1 0 0), (5, .ref 2 0 0), (14, .d (.sc (.int .i64 x.1)))]) (fun x => [⟨34, z, false, 0, true⟩, rdB 113 xs x.2.1 x.2.2.1, ⟨34, .d (.slc 3 xl) :: x.2.2.2, false, 0, true⟩])
    (fun x => 8 - x.1.toNat) (0, b0, u0, ownsD (List.replicate 8 ⟨0, zeroRep⟩)) ?_ ?_ ?_
  · exact ⟨⟨by simp only; omega, by simp only; omega⟩, _, rfl, rfl, rfl, rfl⟩
  · subst hz
    exact told_upst ⟨_, _, rfl, ⟨rfl, rfl, rfl, rfl, UpL.refl fun a _ => UpD.refl a⟩, _, _, rfl, ⟨rfl, rfl, rfl, rfl, UpL.refl fun a _ => UpD.refl a⟩, _, _, rfl, ⟨rfl, rfl, rfl, rfl, hup xl⟩, rfl⟩ ⟨.inl (UpD.refl _), .inl (UpD.refl _), .inl (UpD.refl _), .inl (UpD.refl _), trivial⟩
  rintro R ⟨i, b, u, cs⟩ hR ⟨hi, hls⟩
  replace hi : 0 ≤ i ∧ i ≤ 8 := hi
  obtain ⟨os, hcs, hls, ho8, hod⟩ := hls
  replace hcs : cs = ownsD os := hcs
  replace hls : owsR xs i.toNat b0 u0 = (os.take i.toNat, b, u) := hls
  replace hod : os.drop i.toNat = List.replicate (8 - i.toNat) ⟨0, zeroRep⟩ := hod
  have hrd : isRd xs b u := by have := (owsR_rd hr0 i.toNat).1; rw [hls] at this; exact this
  cbv
  refine part (fun h => ?_) (fun h => ?_)
  · cbv
    have hi8 : i < 8 := by subst hA; simpa [A0] using h
    have hin : i.toNat < os.length := by omega
    have hoz : os[i.toNat]'hin = ⟨0, zeroRep⟩ := by
      have h1 := List.drop_eq_getElem_cons hin
      rw [hod, show 8 - i.toNat = (7 - i.toNat) + 1 by omega, List.replicate_succ] at h1
      exact (List.cons.inj h1).1.symm
    obtain ⟨P, hP, hPl, S, hdec, hset⟩ := own_dec (.d (.slc 3 xl)) hcs i.toNat hin
    rw [hoz] at hdec
    replace hdec : DV.d (.slc 3 xl) :: cs = P ++ (zero6 ++ S) := hdec
    have hsu := owsR_succ hls
    have hrw := owR_eq xs b u
    have k0 : ∀ d0 : DV, splice (P ++ (zero6 ++ S)) (1 + i.toNat * 6 + 0) [d0] = P ++ ([d0, .d (.sc (.int .i64 0)), .d (.sc (.bool false)), .d (.sc (.string none8)), .d (.sc (.int .i64 0)), .d (.slc 3 [])] ++ S) := fun d0 => splice_at 0 (by omega) (by decide) _
    have k1 : ∀ d0 d1 : DV, splice (P ++ ([d0, .d (.sc (.int .i64 0)), .d (.sc (.bool false)), .d (.sc (.string none8)), .d (.sc (.int .i64 0)), .d (.slc 3 [])] ++ S)) (1 + i.toNat * 6 + 1 + 0) [d1] = P ++ ([d0, d1, .d (.sc (.bool false)), .d (.sc (.string none8)), .d (.sc (.int .i64 0)), .d (.slc 3 [])] ++ S) := fun d0 d1 => splice_at 1 (by omega) (by simp only [List.length_cons, List.length_nil]; omega) _
    have k2 : ∀ d0 d1 d2 : DV, splice (P ++ ([d0, d1, .d (.sc (.bool false)), .d (.sc (.string none8)), .d (.sc (.int .i64 0)), .d (.slc 3 [])] ++ S)) (1 + i.toNat * 6 + 1 + 1) [d2] = P ++ ([d0, d1, d2, .d (.sc (.string none8)), .d (.sc (.int .i64 0)), .d (.slc 3 [])] ++ S) := fun d0 d1 d2 => splice_at 2 (by omega) (by simp only [List.length_cons, List.length_nil]; omega) _
    have k3 : ∀ d0 d1 d2 d3 : DV, splice (P ++ ([d0, d1, d2, .d (.sc (.string none8)), .d (.sc (.int .i64 0)), .d (.slc 3 [])] ++ S)) (1 + i.toNat * 6 + 1 + 2) [d3] = P ++ ([d0, d1, d2, d3, .d (.sc (.int .i64 0)), .d (.slc 3 [])] ++ S) := fun d0 d1 d2 d3 => splice_at 3 (by omega) (by simp only [List.length_cons, List.length_nil]; omega) _
    have k4 : ∀ d0 d1 d2 d3 d4 : DV, splice (P ++ ([d0, d1, d2, d3, .d (.sc (.int .i64 0)), .d (.slc 3 [])] ++ S)) (1 + i.toNat * 6 + 1 + 3) [d4] = P ++ ([d0, d1, d2, d3, d4, .d (.slc 3 [])] ++ S) := fun d0 d1 d2 d3 d4 => splice_at 4 (by omega) (by simp only [List.length_cons, List.length_nil]; omega) _
    have k5 : ∀ d0 d1 d2 d3 d4 d5 : DV, splice (P ++ ([d0, d1, d2, d3, d4, .d (.slc 3 [])] ++ S)) (1 + i.toNat * 6 + 1 + 4) [d5] = P ++ ([d0, d1, d2, d3, d4, d5] ++ S) := fun d0 d1 d2 d3 d4 d5 => splice_at 5 (by omega) (by simp only [List.length_cons, List.length_nil]; omega) _
    have g0 : ∀ (d : DV) (Q : List DV), (P ++ ((d :: Q) ++ S))[1 + i.toNat * 6 + 0]? = some d := fun d Q => (get_at 0 (by omega) (by simp)).trans rfl
    have t0 : ∀ (d : DV) (Q : List DV), ((P ++ ((d :: Q) ++ S)).drop (1 + i.toNat * 6 + 0)).take 1 = [d] := fun d Q => by rw [show 1 + i.toNat * 6 + 0 = P.length by omega, List.drop_left]; rfl
    have hzp : pullL [0, 1, 2] z = z := by rw [hz]; exact pullL_closed _ _ rfl
    repeat' first
      | (refine part (fun h2 => ?_) (fun h2 => ?_) <;> try cbv)
      | (refine And.intro ?_ ?_)
      | (with_reducible refine callB hX hB ?_) <;> cbv
    all_goals subst hA hX hW hR hFsRr hFsGl hFsS4 hFsSr
    all_goals clear hH hB
    all_goals try rw [hdec]
    all_goals simp only [A0, nc, FsRr0, FsGl0, decide_eq_true_eq, decide_eq_false_iff_not] at *
    all_goals have x1 := num_rd hrd
    all_goals generalize numR xs b u = q1 at *
    all_goals obtain ⟨n1, b1, u1⟩ := q1
    all_goals try simp only at *
    all_goals have x2 := num_rd x1.1
    all_goals generalize numR xs b1 u1 = q2 at *
    all_goals obtain ⟨n2, b2, u2⟩ := q2
    all_goals try simp only at *
    all_goals have x3 := flag_rd x2.1
    all_goals generalize flagR xs b2 u2 = q3 at *
    all_goals obtain ⟨n3, b3, u3⟩ := q3
    all_goals try simp only at *
    all_goals have x4 := text_rd 64 x3
    all_goals generalize textR xs b3 u3 64 = q4 at *
    all_goals obtain ⟨n4, b4, u4⟩ := q4
    all_goals try simp only at *
    all_goals have x5 := num_rd x4
    all_goals generalize numR xs b4 u4 = q5 at *
    all_goals obtain ⟨n5, b5, u5⟩ := q5
    all_goals try simp only at *
    all_goals generalize lsX xs b5 u5 8 = q6 at *
    all_goals obtain ⟨n6, b6, u6⟩ := q6
    all_goals try simp only at *
    all_goals try simp only [k0, k1, k2, k3, k4, k5, g0, t0]
    all_goals first
      | assumption
      | exact x1.1
      | exact x2.1
      | exact x3
      | exact x4
      | exact x5.1
      | exact ⟨hi.1, hi8⟩
      | exact ⟨by decide, by decide⟩
      | (simp only [List.length_append, List.length_cons, List.length_nil, zero6, hPl]; omega)
      | (refine ⟨rfl, ?_, rfl⟩; simp only [List.length_append, List.length_cons, List.length_nil, zero6, hPl]; omega)
      | skip
    all_goals have ei : IntKind.wrap .i64 (i + 1) = i + 1 := wrap_i64 (by unfold r64; omega)
    all_goals obtain ⟨o, ho⟩ : ∃ o, o = owR xs b u := ⟨_, rfl⟩
    all_goals have how := hrw
    all_goals rw [← ho] at how
    all_goals rw [← ho] at hsu
    all_goals first
      | (refine ⟨rfl, ?_, trivial⟩; simp only [List.length_append, List.length_cons, List.length_nil, zero6, hPl]; omega)
      | skip
    all_goals rw [hdec, k0, g0] at h2
    · replace h2 : n1 = 0 := h2
      rw [if_pos h2] at how
      obtain ⟨y1, y2⟩ := own_next ⟨n1, zeroRep⟩ ho8 (show i.toNat < 8 by omega) hod
      refine ⟨(i + 1, b1, u1, ownsD (os.set i.toNat ⟨n1, zeroRep⟩)), ⟨⟨by simp only; omega, by simp only; omega⟩, os.set i.toNat ⟨n1, zeroRep⟩, rfl, ?_, by rw [List.length_set]; exact ho8, ?_⟩, by simp only; omega, told_keep [0, 1, 2] rfl ?_ ?_⟩
      · simp only
        rw [show (i + 1).toNat = i.toNat + 1 by omega, hsu, how, y1]
      · simp only
        rw [show (i + 1).toNat = i.toNat + 1 by omega]
        exact y2
      · have hc1 : pullL [0, 1, 2] (.d (.slc 3 xl) :: ownsD (os.set i.toNat ⟨n1, zeroRep⟩)) = .d (.slc 3 xl) :: ownsD (os.set i.toNat ⟨n1, zeroRep⟩) := pullL_closed _ _ (own_clo _)
        rw [hset] at hc1
        simp only
        rw [hset]
        simp [keepSt, pullBox, hzp, pullL, pullD]
        exact hc1.symm
      · simp [toldP, getS, pullD, ei]
        try exact ⟨rfl, rfl, rfl⟩
    · replace h2 : ¬ n1 = 0 := h2
      rw [if_neg h2] at how
      obtain ⟨y1, y2⟩ := own_next ⟨n1, ⟨n2, n3, n4, n5, n6⟩⟩ ho8 (show i.toNat < 8 by omega) hod
      refine ⟨(i + 1, b6, u6, ownsD (os.set i.toNat ⟨n1, ⟨n2, n3, n4, n5, n6⟩⟩)), ⟨⟨by simp only; omega, by simp only; omega⟩, os.set i.toNat ⟨n1, ⟨n2, n3, n4, n5, n6⟩⟩, rfl, ?_, by rw [List.length_set]; exact ho8, ?_⟩, by simp only; omega, told_keep [0, 1, 2] rfl ?_ ?_⟩
      · simp only
        rw [show (i + 1).toNat = i.toNat + 1 by omega, hsu, how, y1]
      · simp only
        rw [show (i + 1).toNat = i.toNat + 1 by omega]
        exact y2
      · have hc1 : pullL [0, 1, 2] (.d (.slc 3 xl) :: ownsD (os.set i.toNat ⟨n1, ⟨n2, n3, n4, n5, n6⟩⟩)) = .d (.slc 3 xl) :: ownsD (os.set i.toNat ⟨n1, ⟨n2, n3, n4, n5, n6⟩⟩) := pullL_closed _ _ (own_clo _)
        rw [hset] at hc1
        simp only
        rw [hset]
        simp [keepSt, pullBox, hzp, pullL, pullD]
        exact hc1.symm
      · simp [toldP, getS, pullD, ei]
        try exact ⟨rfl, rfl, rfl⟩
  · cbv
    have hi8 : i = 8 := by
      subst hA
      simp only [A0, decide_eq_false_iff_not] at h
      replace h : ¬ i < 8 := h
      omega
    subst hi8
    have hto : os.take (Int.toNat 8) = os := List.take_of_length_le (by show os.length ≤ 8; omega)
    rw [hto] at hls
    replace hls : owsR xs 8 b0 u0 = (os, b, u) := hls
    have hgs : getSt xs = (if endR xs b u = 0 then (if rightSt (.d (.slc 3 xl) :: cs) = true then (.d (.slc 3 xl) :: cs, 0) else (zeroSt, 4)) else (zeroSt, endR xs b u)) := by
      unfold getSt
      simp only [hq, hls]
      rw [hxl, hcs]
      rfl
    have hP : isP xl := by rw [hxl]; exact ⟨pl, rfl, hpn⟩
    have hO : isOwn cs := ⟨os, ho8, hcs, fun o ho => by
      have h9 := (owsR_rd hr0 8).2.2
      rw [hls] at h9
      obtain ⟨_, ps, e, hl, _⟩ := h9 o ho
      rw [e]
      exact ⟨ps, rfl, by omega⟩⟩
    have hst := isSt.mk hP hO
    have hcl := hO.len
    have hzl : z.length = 49 := by rw [hz]; rfl
    repeat' first
      | (refine part (fun h2 => ?_) (fun h2 => ?_) <;> try cbv)
      | (refine And.intro ?_ ?_)
      | (with_reducible refine callB hX hB ?_) <;> cbv
    all_goals subst hA hX hW hR hFsRr hFsGl hFsS4 hFsSr
    all_goals clear hH hB
    all_goals simp only [A0, nc, FsRr0, FsGl0, FsS40, decide_eq_true_eq, decide_eq_false_iff_not] at *
    all_goals first
      | assumption
      | (simp [hcl, hzl]; done)
      | skip
    · have he : ¬ endR xs b u = 0 := by simpa using h2
      rw [hgs, if_neg he]
      exact ret_up ⟨_, rfl, UpL.agg hup0 (UpL.keep UpL.done)⟩ rfl
    · rename_i h3
      have he : endR xs b u = 0 := by simpa using h3
      have hr : ¬ rightSt (.d (.slc 3 xl) :: cs) = true := by simpa using h2
      rw [hgs, if_pos he, if_neg hr]
      exact ret_up ⟨_, rfl, UpL.agg hup0 (UpL.keep UpL.done)⟩ rfl
    · rename_i h3
      have he : endR xs b u = 0 := by simpa using h3
      have hr : rightSt (.d (.slc 3 xl) :: cs) = true := by simpa using h2
      have hclo := hst.closed
      rw [hgs, if_pos he, if_pos hr]
      refine ret_v rfl ?_
      show (closedL 0 (DV.d (.slc 3 xl) :: cs) && true) = true
      rw [hclo]
      rfl
structure FsGs where
  getS : List (List PD) → List DV × Int
  isB : List (List PD) → Prop
noncomputable def FsGs0 : FsGs where
  getS := getSt
  isB := isB8
def kn_getS (F : FsGs) : FuncId × (List DV → RV) := (32, fun args => match args with
  | [.d (.slc 1 xs)] => some ([F.isB xs], .tup [.agg (((F.getS xs)).1), intD (((F.getS xs)).2)])
  | [.d (.sc (.slice none 0 0))] => some ([F.isB []], .tup [.agg (((F.getS [])).1), intD (((F.getS [])).2)])
  | _ => none)
theorem ok_getS (args : List DV) (cs : List Prop) (r : DV) (h : (kn_getS FsGs0).2 args = some (cs, r)) (hc : allP cs True) : FnV Try.prog 32 args r ∧ closedL 0 args = true := by
  unfold kn_getS at h
  simp only at h
  split at h
  · cases h; exact ⟨v_getS _ hc.1, rfl⟩
  · cases h; exact ⟨FnP.nils (v_getS [] hc.1) ⟨.inr ⟨rfl, _, rfl⟩, trivial⟩, rfl⟩
  · cases h
end Go.Proofs.Ytghkcmgiagodlaa
