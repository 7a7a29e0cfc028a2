/- Readers of bytes: counts and texts; a reader's making. No condition. -/
import Derived.Test.YtligainhbdidgaaRd
namespace Go.Proofs.Ytligainhbdidgaa
open Go.RowKit
set_option linter.all false


theorem num_rd {xs : List (List PD)} {a w : Int} (h : isRd xs a w) : isRd xs (numR xs a w).2.1 (numR xs a w).2.2 ∧ ((numR xs a w).2.2 ≠ 0 → (numR xs a w).1 = 0) ∧ r64 (numR xs a w).1 := by
  obtain ⟨bs, hxs, hby, hlx, hb, h0, h1, hw0, hw1⟩ := isRd_len h
  unfold numR numL
  rw [hby]
  by_cases hw : w ≠ 0
  · rw [if_pos hw]; exact ⟨h, fun _ => rfl, by simp [r64]⟩
  · rw [if_neg hw]
    cases hs : sev 0 0 (bs.drop a.toNat) with
    | short => exact ⟨h.at trivial (by simp only; omega) (by simp only; omega), fun _ => rfl, by simp [r64]⟩
    | form => exact ⟨h.at trivial (by simp only; omega) (by simp only; omega), fun _ => rfl, by simp [r64]⟩
    | num u k =>
      have hl := sev_lt _ 0 0 (by omega) (by simp) u k hs
      rw [List.length_drop] at hl
      exact ⟨h.at trivial (by simp only; omega) (by simp only; omega), fun e => absurd rfl e, zag_range _ ⟨by omega, by omega⟩⟩
theorem cnt_eq (xs : List (List PD)) (a w most : Int) : cntR xs a w most = if (numR xs a w).2.2 = 0 ∧ ((numR xs a w).1 < 0 ∨ most < (numR xs a w).1) then (0, a, 2) else numR xs a w := rfl

set_option maxRecDepth 100000 in
theorem v_pCount (xs : List (List PD)) (a w : Int) (most : Int) (hp0 : FsR0.rd xs a w) : FnD Try.prog 65 [.ref 0 0 0, .d (.sc (.int .i64 most))] [rdB 111 xs a w] (fun r st' => r = .d (.sc (.int .i64 (FsR0.cnt xs a w most).1)) ∧ st' = [rdB 111 xs (FsR0.cnt xs a w most).2.1 (FsR0.cnt xs a w most).2.2]) := by
  obtain ⟨F, hF⟩ : ∃ F, F = FsR0 := ⟨_, rfl⟩
  have hB : SoundB Try.prog [kb_pNum F, kb_pfail F] := by subst hF; exact orB_ok okb_pNum (orB_ok okb_pfail noB_ok)
  refine FnD_cbv (T := fun _ => tabY [] []) (H := fun _ => []) (tabY_ok _ _) noK_ok follows_mixed Try.func65 rfl Try.ntmps65 (by simp) fun A X W hA hX hW => ?_
  cbv
  repeat' first
    | (refine part (fun h => ?_) (fun h => ?_) <;> try cbv)
    | (refine And.intro ?_ ?_)
    | (with_reducible refine callB hX hB ?_) <;> cbv
  all_goals subst hA hX hW hF
  all_goals have hn := num_rd hp0
  all_goals try (show Region.lexB _ _ = true; kernel_rfl)
  all_goals try (show turnsB _ = true; kernel_rfl)
  all_goals simp only [A0, FsR0, decide_eq_true_eq, decide_eq_false_iff_not, Bool.not_eq_true', Bool.not_eq_false', Bool.and_eq_true] at *
  all_goals try simp only [cnt_eq]
  all_goals generalize hq : numR xs a w = q at *
  all_goals obtain ⟨n, a', w'⟩ := q
  all_goals try simp only at *
  all_goals first
    | assumption
    | exact hn.1
    | exact ⟨hp0.1, hp0.2.1, hp0.2.2.1, hn.1.2.2.2⟩
    | exact id
    | (intros; first | assumption | trivial | (simp_all; done))
    | (refine RetW.ofEq ?_ ?_ <;> (simp_all; done))
    | (refine RetW.ofEq ?_ ?_ <;> grind [errR])
def kb_pCount (F : FsR) : FuncId × (List DV → Store → SV) := (65, fun args st => match args with
  | [.ref b ver o, .d (.sc (.int .i64 most))] => (match st[b]? with
    | some ⟨t, [.d (.slc 1 xs), .d (.sc (.int .i64 a)), .d (.sc (.int .i64 w))], false, v, true⟩ => (bif (ver == 0) && (o == 0) && (v == 0) && (t == 111) then some ([F.rd xs a w], .d (.sc (.int .i64 (F.cnt xs a w most).1)), st.set b (rdB 111 xs (F.cnt xs a w most).2.1 (F.cnt xs a w most).2.2)) else none)
    | _ => none)
  | _ => none)
theorem okb_pCount (args : List DV) (st : Store) (cs : List Prop) (r : DV) (st' : Store) (h : (kb_pCount FsR0).2 args st = some (cs, r, st')) (hc : allP cs True) (K : DV → Store → Prop) (hk : K r st') : FnD Try.prog 65 args st K := by
  unfold kb_pCount at h
  simp only at h
  split at h
  · split at h
    · rename_i hb
      simp only [cond_eq_ite, Bool.and_eq_true, beq_iff_eq, Option.ite_none_right_eq_some] at h
      obtain ⟨⟨⟨⟨rfl, rfl⟩, rfl⟩, rfl⟩, h⟩ := h
      cases h
      exact FnD.one _ (v_pCount _ _ _ _ hc.1) hb rfl rfl rfl rfl hk
    · cases h
  · cases h
set_option maxRecDepth 100000 in
theorem v_rCount (xs : List (List PD)) (a w : Int) (most : Int) (hp0 : FsR0.rd xs a w) : FnD Try.prog 89 [.ref 0 0 0, .d (.sc (.int .i64 most))] [rdB 81 xs a w] (fun r st' => r = .d (.sc (.int .i64 (FsR0.cnt xs a w most).1)) ∧ st' = [rdB 81 xs (FsR0.cnt xs a w most).2.1 (FsR0.cnt xs a w most).2.2]) := by
  obtain ⟨F, hF⟩ : ∃ F, F = FsR0 := ⟨_, rfl⟩
  have hB : SoundB Try.prog [kb_rNum F, kb_rfail F] := by subst hF; exact orB_ok okb_rNum (orB_ok okb_rfail noB_ok)
  refine FnD_cbv (T := fun _ => tabY [] []) (H := fun _ => []) (tabY_ok _ _) noK_ok follows_mixed Try.func89 rfl Try.ntmps89 (by simp) fun A X W hA hX hW => ?_
  cbv
  repeat' first
    | (refine part (fun h => ?_) (fun h => ?_) <;> try cbv)
    | (refine And.intro ?_ ?_)
    | (with_reducible refine callB hX hB ?_) <;> cbv
  all_goals subst hA hX hW hF
  all_goals have hn := num_rd hp0
  all_goals try (show Region.lexB _ _ = true; kernel_rfl)
  all_goals try (show turnsB _ = true; kernel_rfl)
  all_goals simp only [A0, FsR0, decide_eq_true_eq, decide_eq_false_iff_not, Bool.not_eq_true', Bool.not_eq_false', Bool.and_eq_true] at *
  all_goals try simp only [cnt_eq]
  all_goals generalize hq : numR xs a w = q at *
  all_goals obtain ⟨n, a', w'⟩ := q
  all_goals try simp only at *
  all_goals first
    | assumption
    | exact hn.1
    | exact ⟨hp0.1, hp0.2.1, hp0.2.2.1, hn.1.2.2.2⟩
    | exact id
    | (intros; first | assumption | trivial | (simp_all; done))
    | (refine RetW.ofEq ?_ ?_ <;> (simp_all; done))
    | (refine RetW.ofEq ?_ ?_ <;> grind [errR])
def kb_rCount (F : FsR) : FuncId × (List DV → Store → SV) := (89, fun args st => match args with
  | [.ref b ver o, .d (.sc (.int .i64 most))] => (match st[b]? with
    | some ⟨t, [.d (.slc 1 xs), .d (.sc (.int .i64 a)), .d (.sc (.int .i64 w))], false, v, true⟩ => (bif (ver == 0) && (o == 0) && (v == 0) && (t == 81) then some ([F.rd xs a w], .d (.sc (.int .i64 (F.cnt xs a w most).1)), st.set b (rdB 81 xs (F.cnt xs a w most).2.1 (F.cnt xs a w most).2.2)) else none)
    | _ => none)
  | _ => none)
theorem okb_rCount (args : List DV) (st : Store) (cs : List Prop) (r : DV) (st' : Store) (h : (kb_rCount FsR0).2 args st = some (cs, r, st')) (hc : allP cs True) (K : DV → Store → Prop) (hk : K r st') : FnD Try.prog 89 args st K := by
  unfold kb_rCount at h
  simp only at h
  split at h
  · split at h
    · rename_i hb
      simp only [cond_eq_ite, Bool.and_eq_true, beq_iff_eq, Option.ite_none_right_eq_some] at h
      obtain ⟨⟨⟨⟨rfl, rfl⟩, rfl⟩, rfl⟩, h⟩ := h
      cases h
      exact FnD.one _ (v_rCount _ _ _ _ hc.1) hb rfl rfl rfl rfl hk
    · cases h
  · cases h
theorem cnt_rd {xs : List (List PD)} {a w : Int} (most : Int) (h : isRd xs a w) : isRd xs (cntR xs a w most).2.1 (cntR xs a w most).2.2 ∧ ((cntR xs a w most).2.2 ≠ 0 → (cntR xs a w most).1 = 0) ∧ r64 (cntR xs a w most).1 ∧ ((cntR xs a w most).2.2 = 0 → 0 ≤ (cntR xs a w most).1) := by
  have hn := num_rd h
  rw [cnt_eq]
  split
  · exact ⟨⟨h.1, h.2.1, h.2.2.1, by simp, by simp⟩, fun _ => rfl, by simp [r64], fun _ => by simp⟩
  · rename_i hc
    exact ⟨hn.1, hn.2.1, hn.2.2, fun e => by omega⟩
theorem text_eq (xs : List (List PD)) (a w most : Int) : textR xs a w most = if (cntR xs a w most).2.2 ≠ 0 then (.empty, (cntR xs a w most).2.1, (cntR xs a w most).2.2) else
    if ((bytesOf xs).length : Int) - (cntR xs a w most).2.1 < (cntR xs a w most).1 then (.empty, a, 3) else
      (⟨(((bytesOf xs).drop (cntR xs a w most).2.1.toNat).take (cntR xs a w most).1.toNat).toArray⟩, (cntR xs a w most).2.1 + (cntR xs a w most).1, 0) := rfl
theorem text_eqN (xs : List (List PD)) (a w most : Int) : textR xs a w most = if (numR xs a w).2.2 ≠ 0 then (.empty, (numR xs a w).2.1, (numR xs a w).2.2) else
    if (numR xs a w).1 < 0 ∨ most < (numR xs a w).1 then (.empty, a, 2) else
    if ((bytesOf xs).length : Int) - (numR xs a w).2.1 < (numR xs a w).1 then (.empty, a, 3) else
      (⟨(((bytesOf xs).drop (numR xs a w).2.1.toNat).take (numR xs a w).1.toNat).toArray⟩, (numR xs a w).2.1 + (numR xs a w).1, 0) := by
  rw [text_eq, cnt_eq]
  by_cases h0 : (numR xs a w).2.2 = 0
  · by_cases h1 : (numR xs a w).1 < 0 ∨ most < (numR xs a w).1
    · simp [h0, h1]
    · simp [h0, h1]
  · simp [h0]
theorem num_bad {xs : List (List PD)} {a w : Int} (h : (numR xs a w).2.2 ≠ 0) : (numR xs a w).2.1 = a := by
  unfold numR numL at h ⊢
  split
  · rfl
  · rename_i hw
    rw [if_neg hw] at h
    split at h <;> first
      | rfl
      | exact absurd rfl h
theorem bor (a b : Bool) : (bif a then true else b) = (a || b) := by cases a <;> rfl
theorem isby_sub (bs : List UInt8) (l n : Int) : ∃ ds, ((bytesP bs).drop l.toNat).take n.toNat = bytesP ds := ⟨_, by rw [bytesP_drop, bytesP_take]⟩
theorem bstr_sub (bs : List UInt8) (l n : Nat) : bytesOf (((bytesP bs).drop l).take n) = (bs.drop l).take n := by rw [bytesP_drop, bytesP_take, bytesOf_bytesP]

set_option maxRecDepth 100000 in
theorem v_pText (xs : List (List PD)) (a w : Int) (most : Int) (hp0 : FsR0.rd xs a w) : FnD Try.prog 63 [.ref 0 0 0, .d (.sc (.int .i64 most))] [rdB 111 xs a w] (fun r st' => r = .d (.sc (.string (FsR0.text xs a w most).1)) ∧ st' = [rdB 111 xs (FsR0.text xs a w most).2.1 (FsR0.text xs a w most).2.2]) := by
  obtain ⟨F, hF⟩ : ∃ F, F = FsR0 := ⟨_, rfl⟩
  have hB : SoundB Try.prog [kb_pCount F, kb_pfail F] := by subst hF; exact orB_ok okb_pCount (orB_ok okb_pfail noB_ok)
  refine FnD_cbv (T := fun _ => tabY [] []) (H := fun _ => []) (tabY_ok _ _) noK_ok follows_mixed Try.func63 rfl Try.ntmps63 (by simp) fun A X W hA hX hW => ?_
  cbv
  repeat' first
    | (refine part (fun h => ?_) (fun h => ?_) <;> try cbv)
    | (refine And.intro ?_ ?_)
    | (with_reducible refine callB hX hB ?_) <;> cbv
  all_goals subst hA hX hW hF
  all_goals obtain ⟨bs, hxs, hby, hlx, hb, h0, h1, hw0, hw1⟩ := isRd_len hp0
  all_goals have hn := cnt_rd most hp0
  all_goals try (show Region.lexB _ _ = true; kernel_rfl)
  all_goals try (show turnsB _ = true; kernel_rfl)
  all_goals simp only [A0, FsR0, decide_eq_true_eq, decide_eq_false_iff_not, Bool.not_eq_true', Bool.not_eq_false', Bool.and_eq_true] at *
  all_goals have hbl : (bytesOf xs).length = xs.length := by rw [hby, hlx]
  all_goals have heq := text_eq xs a w most
  all_goals have hbad := trivial
  all_goals generalize hq : cntR xs a w most = q at *
  all_goals obtain ⟨n, a', w'⟩ := q
  all_goals try simp only at *
  all_goals have h5 := hn.1.2.1
  all_goals have h6 := hn.1.2.2.1
  all_goals have h7 := hn.2.2.2
  all_goals have ws : IntKind.wrap .i64 ((xs.length : Int) - a') = xs.length - a' := wrap_i64 (by unfold r64; omega)
  all_goals simp only [ws, bor, Bool.or_eq_true, Bool.or_eq_false_iff, decide_eq_true_eq, decide_eq_false_iff_not] at *
  all_goals first
    | assumption
    | exact hn.1
    | exact ⟨hp0.1, hp0.2.1, hp0.2.2.1, hn.1.2.2.2⟩
    | exact id
    | (intros; first | assumption | trivial | (simp_all; done))
    | exact ⟨_, by rw [hxs, bytesP_drop, bytesP_take]⟩
    | (have wa : IntKind.wrap .i64 (a' + n) = a' + n := wrap_i64 (by unfold r64; omega)
       rw [wa]; omega)
    | (exfalso; simp [errR] at *; omega)
    | (exfalso; simp_all [errR]; done)
    | (have e : textR xs a w most = (.empty, a', w') := by rw [heq]; grind
       refine RetW.ofEq ?_ ?_ <;> rw [e] <;> first | rfl | (simp_all [errR]; done))
    | (have e : textR xs a w most = (.empty, a, 2) := by rw [heq]; grind
       refine RetW.ofEq ?_ ?_ <;> rw [e] <;> first | rfl | (simp_all [errR]; done))
    | (have e : textR xs a w most = (.empty, a, 3) := by rw [heq]; grind
       refine RetW.ofEq ?_ ?_ <;> rw [e] <;> first | rfl | (simp_all [errR]; done))
    | (have wa : IntKind.wrap .i64 (a' + n) = a' + n := wrap_i64 (by unfold r64; omega)
       have ht : (a' + n).toNat - a'.toNat = n.toNat := by omega
       have e : textR xs a w most = (⟨(((bytesOf xs).drop a'.toNat).take n.toNat).toArray⟩, a' + n, 0) := by rw [heq]; grind
       have e0 : w' = 0 := by omega
       refine RetW.ofEq ?_ ?_ <;> simp only [wa, ht, e, e0, bytesOf, List.map_take, List.map_drop])
    | skip
  all_goals trace_state
  all_goals fail
def kb_pText (F : FsR) : FuncId × (List DV → Store → SV) := (63, fun args st => match args with
  | [.ref b ver o, .d (.sc (.int .i64 most))] => (match st[b]? with
    | some ⟨t, [.d (.slc 1 xs), .d (.sc (.int .i64 a)), .d (.sc (.int .i64 w))], false, v, true⟩ => (bif (ver == 0) && (o == 0) && (v == 0) && (t == 111) then some ([F.rd xs a w], .d (.sc (.string (F.text xs a w most).1)), st.set b (rdB 111 xs (F.text xs a w most).2.1 (F.text xs a w most).2.2)) else none)
    | _ => none)
  | _ => none)
theorem okb_pText (args : List DV) (st : Store) (cs : List Prop) (r : DV) (st' : Store) (h : (kb_pText FsR0).2 args st = some (cs, r, st')) (hc : allP cs True) (K : DV → Store → Prop) (hk : K r st') : FnD Try.prog 63 args st K := by
  unfold kb_pText at h
  simp only at h
  split at h
  · split at h
    · rename_i hb
      simp only [cond_eq_ite, Bool.and_eq_true, beq_iff_eq, Option.ite_none_right_eq_some] at h
      obtain ⟨⟨⟨⟨rfl, rfl⟩, rfl⟩, rfl⟩, h⟩ := h
      cases h
      exact FnD.one _ (v_pText _ _ _ _ hc.1) hb rfl rfl rfl rfl hk
    · cases h
  · cases h
set_option maxRecDepth 100000 in
theorem v_rText (xs : List (List PD)) (a w : Int) (most : Int) (hp0 : FsR0.rd xs a w) : FnD Try.prog 87 [.ref 0 0 0, .d (.sc (.int .i64 most))] [rdB 81 xs a w] (fun r st' => r = .d (.sc (.string (FsR0.text xs a w most).1)) ∧ st' = [rdB 81 xs (FsR0.text xs a w most).2.1 (FsR0.text xs a w most).2.2]) := by
  obtain ⟨F, hF⟩ : ∃ F, F = FsR0 := ⟨_, rfl⟩
  have hB : SoundB Try.prog [kb_rNum F, kb_rfail F] := by subst hF; exact orB_ok okb_rNum (orB_ok okb_rfail noB_ok)
  refine FnD_cbv (T := fun _ => tabY [] []) (H := fun _ => []) (tabY_ok _ _) noK_ok follows_mixed Try.func87 rfl Try.ntmps87 (by simp) fun A X W hA hX hW => ?_
  cbv
  repeat' first
    | (refine part (fun h => ?_) (fun h => ?_) <;> try cbv)
    | (refine And.intro ?_ ?_)
    | (with_reducible refine callB hX hB ?_) <;> cbv
  all_goals subst hA hX hW hF
  all_goals obtain ⟨bs, hxs, hby, hlx, hb, h0, h1, hw0, hw1⟩ := isRd_len hp0
  all_goals have hn := num_rd hp0
  all_goals try (show Region.lexB _ _ = true; kernel_rfl)
  all_goals try (show turnsB _ = true; kernel_rfl)
  all_goals simp only [A0, FsR0, decide_eq_true_eq, decide_eq_false_iff_not, Bool.not_eq_true', Bool.not_eq_false', Bool.and_eq_true] at *
  all_goals have hbl : (bytesOf xs).length = xs.length := by rw [hby, hlx]
  all_goals have heq := text_eqN xs a w most
  all_goals have hbad := @num_bad xs a w
  all_goals generalize hq : numR xs a w = q at *
  all_goals obtain ⟨n, a', w'⟩ := q
  all_goals try simp only at *
  all_goals have h5 := hn.1.2.1
  all_goals have h6 := hn.1.2.2.1
  all_goals have h7 := trivial
  all_goals have ws : IntKind.wrap .i64 ((xs.length : Int) - a') = xs.length - a' := wrap_i64 (by unfold r64; omega)
  all_goals simp only [ws, bor, Bool.or_eq_true, Bool.or_eq_false_iff, decide_eq_true_eq, decide_eq_false_iff_not] at *
  all_goals first
    | assumption
    | exact hn.1
    | exact ⟨hp0.1, hp0.2.1, hp0.2.2.1, hn.1.2.2.2⟩
    | exact id
    | (intros; first | assumption | trivial | (simp_all; done))
    | exact ⟨_, by rw [hxs, bytesP_drop, bytesP_take]⟩
    | (have wa : IntKind.wrap .i64 (a' + n) = a' + n := wrap_i64 (by unfold r64; omega)
       rw [wa]; omega)
    | (exfalso; simp [errR] at *; omega)
    | (exfalso; simp_all [errR]; done)
    | (have e : textR xs a w most = (.empty, a', w') := by rw [heq]; grind
       refine RetW.ofEq ?_ ?_ <;> rw [e] <;> first | rfl | (simp_all [errR]; done))
    | (have e : textR xs a w most = (.empty, a, 2) := by rw [heq]; grind
       refine RetW.ofEq ?_ ?_ <;> rw [e] <;> first | rfl | (simp_all [errR]; done))
    | (have e : textR xs a w most = (.empty, a, 3) := by rw [heq]; grind
       refine RetW.ofEq ?_ ?_ <;> rw [e] <;> first | rfl | (simp_all [errR]; done))
    | (have wa : IntKind.wrap .i64 (a' + n) = a' + n := wrap_i64 (by unfold r64; omega)
       have ht : (a' + n).toNat - a'.toNat = n.toNat := by omega
       have e : textR xs a w most = (⟨(((bytesOf xs).drop a'.toNat).take n.toNat).toArray⟩, a' + n, 0) := by rw [heq]; grind
       have e0 : w' = 0 := by omega
       refine RetW.ofEq ?_ ?_ <;> simp only [wa, ht, e, e0, bytesOf, List.map_take, List.map_drop])
    | skip
  all_goals trace_state
  all_goals fail
def kb_rText (F : FsR) : FuncId × (List DV → Store → SV) := (87, fun args st => match args with
  | [.ref b ver o, .d (.sc (.int .i64 most))] => (match st[b]? with
    | some ⟨t, [.d (.slc 1 xs), .d (.sc (.int .i64 a)), .d (.sc (.int .i64 w))], false, v, true⟩ => (bif (ver == 0) && (o == 0) && (v == 0) && (t == 81) then some ([F.rd xs a w], .d (.sc (.string (F.text xs a w most).1)), st.set b (rdB 81 xs (F.text xs a w most).2.1 (F.text xs a w most).2.2)) else none)
    | _ => none)
  | _ => none)
theorem okb_rText (args : List DV) (st : Store) (cs : List Prop) (r : DV) (st' : Store) (h : (kb_rText FsR0).2 args st = some (cs, r, st')) (hc : allP cs True) (K : DV → Store → Prop) (hk : K r st') : FnD Try.prog 87 args st K := by
  unfold kb_rText at h
  simp only at h
  split at h
  · split at h
    · rename_i hb
      simp only [cond_eq_ite, Bool.and_eq_true, beq_iff_eq, Option.ite_none_right_eq_some] at h
      obtain ⟨⟨⟨⟨rfl, rfl⟩, rfl⟩, rfl⟩, h⟩ := h
      cases h
      exact FnD.one _ (v_rText _ _ _ _ hc.1) hb rfl rfl rfl rfl hk
    · cases h
  · cases h
end Go.Proofs.Ytligainhbdidgaa
