/- The most frequent one, turned round. No condition. -/
import Derived.Test.YtikodmddomaneaaDpY
import Derived.Test.YtikodmddomaneaaAm41
namespace Go.Proofs.Ytikodmddomaneaa
open Go.RowKit
set_option linter.all false
set_option maxHeartbeats 4000000

theorem map_d_inj : ∀ {x y : List PD}, x.map DV.d = y.map DV.d → x = y
  | [], [], _ => rfl
  | [], b :: y, h => by simp at h
  | a :: x, [], h => by simp at h
  | a :: x, b :: y, h => by
      simp only [List.map_cons, List.cons.injEq, DV.d.injEq] at h
      rw [h.1, map_d_inj h.2]
theorem rowsD_inj : ∀ {xs ys : List (List PD)}, (∀ x ∈ xs, x.length = 8) → (∀ y ∈ ys, y.length = 8) → rowsD xs = rowsD ys → xs = ys
  | [], [], _, _, _ => rfl
  | [], y :: ys, _, hy, h => by
      have e2 : rowsD (y :: ys) = y.map .d ++ rowsD ys := by simp [rowsD]
      have e1 : rowsD ([] : List (List PD)) = [] := rfl
      have := congrArg List.length h
      have hl := hy y (by simp)
      rw [e2, e1, List.length_append, List.length_map, hl, List.length_nil] at this
      omega
  | x :: xs, [], hx, _, h => by
      have e2 : rowsD (x :: xs) = x.map .d ++ rowsD xs := by simp [rowsD]
      have e1 : rowsD ([] : List (List PD)) = [] := rfl
      have := congrArg List.length h
      have hl := hx x (by simp)
      rw [e2, e1, List.length_append, List.length_map, hl, List.length_nil] at this
      omega
  | x :: xs, y :: ys, hx, hy, h => by
      have e1 : rowsD (x :: xs) = x.map .d ++ rowsD xs := by simp [rowsD]
      have e2 : rowsD (y :: ys) = y.map .d ++ rowsD ys := by simp [rowsD]
      rw [e1, e2] at h
      have hl : (x.map DV.d).length = (y.map DV.d).length := by rw [List.length_map, List.length_map, hx x (by simp), hy y (by simp)]
      obtain ⟨h1, h2⟩ := List.append_inj h hl
      have h3 : x = y := map_d_inj h1
      rw [h3, rowsD_inj (fun z hz => hx z (by simp [hz])) (fun z hz => hy z (by simp [hz])) h2]
theorem rows8 : ∀ {xs : List (List PD)}, (∀ x ∈ xs, x.length = 8) → (rowsD xs).length = xs.length * 8
  | [], _ => rfl
  | x :: xs, h => by
      have e : rowsD (x :: xs) = x.map .d ++ rowsD xs := by simp [rowsD]
      rw [e, List.length_append, List.length_map, h x (by simp), rows8 fun y hy => h y (by simp [hy]), List.length_cons]
      omega
noncomputable def rwA (cs : List DV) : List (List PD) := @dite _ (∃ xs, isAt xs ∧ cs = rowsD xs) (Classical.propDecidable _) (fun h => Classical.choose h) (fun _ => [])
theorem rwA_eq {xs : List (List PD)} (h : isAt xs) : rwA (rowsD xs) = xs := by
  have hx : ∃ ys, isAt ys ∧ rowsD xs = rowsD ys := ⟨xs, h, rfl⟩
  have h1 := Classical.choose_spec hx
  unfold rwA
  rw [dif_pos hx]
  exact (rowsD_inj h.sz h1.1.sz h1.2).symm
def okRw (cs : List DV) (m ver v : Nat) : Prop := ver = v ∧ ∃ xs, isAt xs ∧ cs = rowsD xs ∧ m = xs.length
theorem okRw_mk {xs : List (List PD)} (h : isAt xs) {k : Int} (h1 : 0 ≤ k ∧ k ≤ (xs.length : Int)) {cs : List DV} {m v : Nat} (hc : cs = rowsD (xs.drop k.toNat ++ xs.take k.toNat)) (hm : m = xs.length) : okRw cs m v v := ⟨rfl, _, isAt_turn h _, hc, by rw [hm, List.length_append, List.length_drop, List.length_take]; omega⟩
noncomputable def mvX (cs : List DV) : Attr × Int := mostX (rwA cs)
structure FsM7 where
  mv : List DV → Attr × Int
  rw : List DV → List (List PD)
  ok : List DV → Nat → Nat → Nat → Prop
noncomputable def FsM70 : FsM7 := ⟨mvX, rwA, okRw⟩
def kb_mv (F : FsM7) : FuncId × (List DV → Store → SV) := (11, fun args st => match args with
  | [.view 8 b ver 0 m] => (match st[b]? with
    | some ⟨_, cs, _, v, true⟩ => some ([F.ok cs m ver v], .tup [Attr.D (F.mv cs).1, .d (.sc (.int .i64 (F.mv cs).2))], fzSt b 8 (F.rw cs) st)
    | _ => none)
  | _ => none)
theorem okb_mv (args : List DV) (st : Store) (cs : List Prop) (r : DV) (st' : Store) (h : (kb_mv FsM70).2 args st = some (cs, r, st')) (hc : allP cs True) (K : DV → Store → Prop) (hk : K r st') : FnD Try.prog 11 args st K := by
  unfold kb_mv at h
  simp only at h
  split at h
  · rename_i b ver m
    split at h
    · rename_i ty cells e v hb
      cases h
      obtain ⟨⟨h1, xs, h2, h3, h4⟩, _⟩ := hc
      subst h1 h3
      have e1 : rwA (rowsD xs) = xs := rwA_eq h2
      have hk2 : K (.tup [Attr.D (mostX (rwA (rowsD xs))).1, intD (mostX (rwA (rowsD xs))).2]) (fzSt b 8 (rwA (rowsD xs)) st) := hk
      rw [e1] at hk2
      refine FnD.freeze b 8 xs _ hb rfl rfl h2.sz ?_
      have e2 : [DV.view 8 b ver 0 m].map (fzD b ver 8 xs) = [.d (.slc 8 xs)] := by simp [fzD, h4]
      show FnD Try.prog _ ([DV.view 8 b ver 0 m].map (fzD b ver 8 xs)) _ K
      rw [e2]
      exact FnV.use (v_most xs h2) rfl hk2
    · cases h
  · cases h

structure FsT where
  mostT : List (List PD) → Int → Bool
  isAt : List (List PD) → Prop
  r64 : Int → Prop
def FsT0 : FsT where
  mostT := fun _ _ => true
  isAt := isAt
  r64 := r64
set_option maxRecDepth 100000 in
theorem v_mostT (l : List (List PD)) (turn : Int) (hp0 : FsT0.isAt l) (hp1 : FsT0.r64 turn) : FnV Try.prog 5 [.d (.slc 8 l), intD turn] (boolD (((fun (_ : List (List PD)) (_ : Int) => true) l turn))) := by
  obtain ⟨GFsO, hGFsO⟩ : ∃ F, F = FsO0 := ⟨_, rfl⟩
  obtain ⟨GFsW, hGFsW⟩ : ∃ F, F = FsW0 := ⟨_, rfl⟩
  obtain ⟨GFsR, hGFsR⟩ : ∃ F, F = FsR0 := ⟨_, rfl⟩
  have hH : SoundK Try.prog [kn_most GFsO, kn_within3 GFsW, kn_runs GFsR] := by subst hGFsO hGFsW hGFsR; exact orK_ok ok_most (orK_ok ok_within3 (orK_ok ok_runs noK_ok))
  refine FnD_cbv (T := fun _ => tabY [54, 58, 77] [4, 5]) (H := fun _ => [kn_most GFsO, kn_within3 GFsW, kn_runs GFsR]) (tabY_ok _ _) hH follows_mixed Try.func5 rfl Try.ntmps5 (by simp) fun A X W hA hX hW => ?_
  cbv
  have hs20 : isAt (A.sub l 0 20) := by subst hA; exact isAt_take hp0 20
  have hl20 : (A.sub l 0 20).length ≤ 20 := by subst hA; show (l.take 20).length ≤ 20; simp; omega
  have e20 : ∃ x, A.sub l 0 20 = x ∧ isAt x ∧ x.length ≤ 20 := ⟨_, rfl, hs20, hl20⟩
  clear hs20 hl20
  obtain ⟨x20, e20, hs20, hl20⟩ := e20
  cbv at e20
  repeat' first
    | (refine part (fun h => ?_) (fun h => ?_) <;> try cbv)
    | (refine And.intro ?_ ?_)
  all_goals try simp only [e20]
  · subst hA; simp only [A0, nc, decide_eq_true_eq] at *; replace h : (20 : Int) < l.length := h; exact ⟨by omega, by omega, by omega⟩
  · subst hA hGFsO; exact hs20
  rotate_left
  · subst hA hGFsO; exact hp0
  · have hl : l.length ≤ 20 := by subst hA; simp only [A0, nc, decide_eq_false_iff_not] at h; replace h : ¬ (20 : Int) < l.length := h; omega
    clear hs20 hl20 e20 h
    have hx : isAt l := hp0
    have hr : r64 turn := hp1
    obtain ⟨l', hxl, _, _⟩ := hx
    have hlen : l.length = l'.length := by rw [hxl, attrsX_length]
    obtain ⟨mp, hmp⟩ : ∃ mp, mp = mostX l := ⟨_, rfl⟩
    have hge : ∀ a ∈ l', (l'.count a : Int) ≤ mp.2 := fun a ha => by rw [hmp, hxl]; unfold mostX; rw [attrsOf_X]; exact mostL_ge ha
    have hpos : 0 < mp.2 ↔ 0 < l'.length := by rw [hmp, hxl]; unfold mostX; rw [attrsOf_X]; exact mostL_pos
    have htn : ∀ k : Nat, (mostX (l.drop k ++ l.take k)).2 = mp.2 := fun k => by rw [hmp]; exact mostX_turn ⟨l', hxl, by omega, ‹_›⟩ k
    have hxa : isAt l := ⟨l', hxl, by omega, ‹_›⟩
    obtain ⟨⟨a0, a1, a2, a3, a4, a5, a6, a7⟩, n⟩ := mp
    have emp : GFsO.most l = (⟨a0, a1, a2, a3, a4, a5, a6, a7⟩, n) := by subst hGFsO; exact hmp.symm
    cbv at emp
    simp only [emp]
    with_reducible refine goL (c := .region 4 _ _) (T := fun _ => tabY [54, 58, 77] []) (H := fun _ => [kn_most GFsO, kn_within3 GFsW, kn_runs GFsR]) (tabY_ok _ _) hH follows_mixed hA hX ?_
    cbv
    refine And.intro (by subst hGFsW; exact hr) (And.intro (by subst hGFsW hA; simp only [FsW0, A0, nc]; show span3 0 (l.length : Int); unfold span3; omega) ?_)
    obtain ⟨k, hk⟩ : ∃ k, k = GFsW.within3 turn 0 (A.len l) := ⟨_, rfl⟩
    have hk2 : 0 ≤ k ∧ k ≤ (l.length : Int) := by subst hk hGFsW hA; simp only [FsW0, A0]; unfold within3; show 0 ≤ 0 + turn % ((l.length : Int) - 0 + 1) ∧ 0 + turn % ((l.length : Int) - 0 + 1) ≤ (l.length : Int); have := Int.emod_nonneg turn (show ((l.length : Int) - 0 + 1) ≠ 0 by omega); have := Int.emod_lt_of_pos turn (show 0 < ((l.length : Int) - 0 + 1) by omega); omega
    cbv at hk
    simp only [← hk]
    obtain ⟨M7, hM7⟩ : ∃ F, F = FsM70 := ⟨_, rfl⟩
    have hB : SoundB Try.prog [kb_mv M7] := by subst hM7; exact orB_ok okb_mv noB_ok
    have hcel : A0.app (A0.app [] (A0.rows (A0.sub l k (A0.len l)))) (A0.rows (A0.sub l 0 k)) = rowsD (l.drop k.toNat ++ l.take k.toNat) := by
      simp only [A0, List.nil_append]
      rw [← rowsD_append]
      congr 2
      rw [List.take_of_length_le]
      rw [List.length_drop]; omega
    have emv : (M7.mv (A.app (A.app [] (A.rows (A.sub l k (A.len l)))) (A.rows (A.sub l 0 k)))).2 = n := by
      subst hM7 hA
      rw [hcel]
      show (mostX (rwA _)).2 = n
      rw [rwA_eq (isAt_turn hxa _)]
      exact htn _
    cbv at emv
    (with_reducible refine regionS [11] (.node 0 13 (.node 4 13 (.node 8 13 (.node 9 13 (.leaf [0, 1, 2, 3, 4, 5, 6, 7, 8, 9, 10, 11, 12, 13, 14, 15] []) (.leaf [0, 1, 2, 3, 4, 5, 6, 7, 8, 13, 9, 10, 11, 12, 14, 15] [])) (.leaf [0, 1, 2, 3, 4, 5, 6, 7, 13, 8, 9, 10, 11, 12, 14, 15] [])) (.leaf [0, 1, 2, 3, 13, 4, 5, 6, 7, 8, 9, 10, 11, 12, 14, 15] [])) (.leaf [13, 0, 1, 2, 3, 4, 5, 6, 7, 8, 9, 10, 11, 12, 14, 15] [])) (T := fun _ => tabY [54, 58, 77] []) (H := fun _ => [kn_most GFsO, kn_within3 GFsW, kn_runs GFsR]) (B := fun _ => [kb_mv M7]) (R := fun _ => []) (A := A) (tabY_ok _ _) hH hB noR_ok follows_mixed hA hX ?_); refine ⟨by decide, ⟨by decide, ⟨by decide, ⟨by decide, ⟨by decide, by kernel_rfl, by kernel_rfl, by kernel_rfl, ?_⟩, ⟨by decide, by kernel_rfl, by kernel_rfl, by kernel_rfl, ?_⟩⟩, ⟨by decide, by kernel_rfl, by kernel_rfl, by kernel_rfl, ?_⟩⟩, ⟨by decide, by kernel_rfl, by kernel_rfl, by kernel_rfl, ?_⟩⟩, ⟨by decide, by kernel_rfl, by kernel_rfl, by kernel_rfl, ?_⟩⟩ <;> cbv
    all_goals simp only [emv]
    all_goals
      repeat' first
        | (refine And.intro ?_ ?_)
        | (refine part (fun h => ?_) (fun h => ?_) <;> try cbv)
        | (refine loopL (T := fun _ => tabY [54, 58, 77] []) (H := fun _ => [kn_most GFsO, kn_within3 GFsW, kn_runs GFsR]) (tabY_ok _ _) hH follows_mixed hA hX (fun i : Int => 0 ≤ i ∧ i ≤ (l'.length : Int)) (fun i => [(0, .d (.slc 8 l)), (5, .ref 0 0 0), (6, .d (.sc (.int .i64 n))), (9, .d (.sc (.int .i64 n))), (10, .d (.sc (.int .i64 i)))]) (fun _ => _) (fun i => (l'.length : Int).toNat - i.toNat) 0 ⟨Int.le_refl _, by omega⟩ (told_less ⟨.inl rfl, .inl rfl, .inl rfl, .inl rfl, .inl rfl, trivial⟩) ?_
           rintro R i hR ⟨i0, i1⟩
           cbv)
        | (refine loopL (T := fun _ => tabY [54, 58, 77] []) (H := fun _ => [kn_most GFsO, kn_within3 GFsW, kn_runs GFsR]) (tabY_ok _ _) hH follows_mixed hA hX (fun x : Int × Int => (0 ≤ x.1 ∧ x.1 ≤ (l'.length : Int)) ∧ x.2 = ((l'.take x.1.toNat).count (l'.getD i.toNat zeroA) : Int)) (fun x => [(0, .d (.slc 8 l)), (5, .ref 0 0 0), (6, .d (.sc (.int .i64 n))), (9, .d (.sc (.int .i64 n))), (10, .d (.sc (.int .i64 i))), (11, .d (.sc (.int .i64 x.2))), (12, .d (.sc (.int .i64 x.1)))]) (fun _ => _) (fun x => (l'.length : Int).toNat - x.1.toNat) (0, 0) ⟨⟨Int.le_refl _, by omega⟩, rfl⟩ (told_less ⟨.inl rfl, .inl rfl, .inl rfl, .inl rfl, .inl rfl, .inl rfl, .inl rfl, trivial⟩) ?_
           rintro R2 ⟨j, c⟩ hR2 ⟨⟨j0, j1⟩, hc⟩
           cbv)
    all_goals subst hA hX hW hGFsO hGFsW hGFsR hM7
    all_goals try subst hR
    all_goals try subst hR2
    all_goals clear hB
    all_goals try clear hH
    all_goals replace hlen : l.length = l'.length := hlen
    all_goals replace hk2 : 0 ≤ k ∧ k ≤ (l.length : Int) := hk2
    all_goals have hs1 : (A0.sub l k (A0.len l)).length ≤ 20 := by show ((l.drop k.toNat).take _).length ≤ 20; rw [List.length_take, List.length_drop]; omega
    all_goals have hs2 : (A0.sub l 0 k).length ≤ 20 := by show ((l.drop _).take _).length ≤ 20; rw [List.length_take, List.length_drop]; omega
    all_goals have hz1 : ∀ x ∈ A0.sub l k (A0.len l), x.length = 8 := fun x hx => hxa.sz x (List.mem_of_mem_drop (List.mem_of_mem_take hx))
    all_goals have hz2 : ∀ x ∈ A0.sub l 0 k, x.length = 8 := fun x hx => hxa.sz x (List.mem_of_mem_drop (List.mem_of_mem_take hx))
    all_goals first
      | exact rfl
      | (show Region.lexB _ _ = true; kernel_rfl)
      | (show turnsB _ = true; kernel_rfl)
      | exact ⟨hk2.1, hk2.2, Int.le_refl _⟩
      | exact ⟨Int.le_refl _, hk2.1, hk2.2⟩
      | (show List.length ([] ++ rowsD (A0.sub l k (A0.len l))) = (0 + (A0.sub l k (A0.len l)).length) * 8
         rw [List.nil_append, rows8 hz1, Nat.zero_add])
      | (show 0 + (A0.sub l k (A0.len l)).length ≤ 9007199254740992 ∧ (0 + (A0.sub l k (A0.len l)).length) * 64 ≤ 140737488355328
         exact ⟨by omega, by omega⟩)
      | (show (0 + (A0.sub l k (A0.len l)).length) + (A0.sub l 0 k).length ≤ 9007199254740992 ∧ ((0 + (A0.sub l k (A0.len l)).length) + (A0.sub l 0 k).length) * 64 ≤ 140737488355328
         exact ⟨by omega, by omega⟩)
      | (refine okRw_mk hxa hk2 hcel ?_
         show 0 + ((l.drop k.toNat).take ((l.length : Int).toNat - k.toNat)).length + ((l.drop (0 : Int).toNat).take (k.toNat - (0 : Int).toNat)).length = l.length
         rw [List.length_take, List.length_drop, List.length_take, List.length_drop]
         have e0 : (0 : Int).toNat = 0 := rfl
         rw [e0]
         omega)
      | (intro hq; exact hq)
      | (intro hq; simpa [A0] using hq)
      | (intro _; first | exact trivial | exact rfl)
      | skip
    all_goals try
      have hi9 : A0.cmp .lss i (A0.len l) = true := by assumption
      simp only [A0, decide_eq_true_eq] at hi9
      rw [hlen] at hi9
      replace i0 : 0 ≤ i := i0
      have hri := arow hxl i0 hi9
      have hin : i.toNat < l'.length := by omega
      have hgd : l'.getD i.toNat zeroA = l'[i.toNat]'hin := by simp [List.getD_eq_getElem?_getD, hin]
      have hpm := hge _ (List.getElem_mem hin)
      generalize l'[i.toNat]'hin = p at hri hgd hpm
    all_goals first
      | (exact ⟨i0, by show i < (l.length : Int); rw [hlen]; exact hi9⟩)
      | (intro _; exact ⟨i0, by show i < (l.length : Int); rw [hlen]; exact hi9⟩)
      | (simp only [A0, hri, Attr.row]; simp; done)
      | (intro _; simp only [A0, hri, Attr.row]; simp; done)
      | (have hj9 : A0.cmp .lss j (A0.len l) = true := by assumption
         simp only [A0, decide_eq_true_eq] at hj9
         rw [hlen] at hj9
         replace j0 : 0 ≤ j := j0
         have hrj := arow hxl j0 hj9
         have hjn : j.toNat < l'.length := by omega
         have hct := count_take_succ hjn p
         generalize l'[j.toNat]'hjn = q at hrj hct
         first
           | (exact ⟨j0, by show j < (l.length : Int); rw [hlen]; exact hj9⟩)
           | (simp only [A0, hrj, Attr.row]; simp; done)
           | (have hc9 : c = ((l'.take j.toNat).count p : Int) := by rw [← hgd]; exact hc
              have hcl : ((l'.take j.toNat).count p) ≤ 20 := Nat.le_trans List.count_le_length (by rw [List.length_take]; omega)
              have ej : IntKind.wrap .i64 (j + 1) = j + 1 := wrap_i64 (by unfold r64; omega)
              have ec : IntKind.wrap .i64 (c + 1) = c + 1 := wrap_i64 (by unfold r64; omega)
              have ejn : (j + 1).toNat = j.toNat + 1 := by omega
              simp only [A0, hri, hrj, Attr.row, List.map_cons, List.map_nil, Nat.zero_add, List.getElem?_cons_zero, List.getElem?_cons_succ, Bool.and_true] at h
              by_cases e : q = p
              · rw [if_pos e] at hct
                first
                  | (refine ⟨(j + 1, c + 1), ⟨⟨by show 0 ≤ j + 1; omega, by show j + 1 ≤ (l'.length : Int); omega⟩, ?_⟩, by show (l'.length : Int).toNat - (j + 1).toNat < (l'.length : Int).toNat - j.toNat; omega, told_less ?_⟩
                     · show c + 1 = ((l'.take (j + 1).toNat).count (l'.getD i.toNat zeroA) : Int)
                       rw [ejn, hgd, hct, hc9]
                     · simp [toldP, getS, A0, ej, ec]
                       done)
                  | (exfalso; subst e; simp at h; done)
              · rw [if_neg e] at hct
                first
                  | (exfalso
                     refine e ?_
                     cases q; cases p
                     simp at h
                     simp [h]
                     done)
                  | (refine ⟨(j + 1, c), ⟨⟨by show 0 ≤ j + 1; omega, by show j + 1 ≤ (l'.length : Int); omega⟩, ?_⟩, by show (l'.length : Int).toNat - (j + 1).toNat < (l'.length : Int).toNat - j.toNat; omega, told_less ?_⟩
                     · show c = ((l'.take (j + 1).toNat).count (l'.getD i.toNat zeroA) : Int)
                       rw [ejn, hgd, hct, hc9]; omega
                     · simp [toldP, getS, A0, ej, ec]
                       done)))
      | (have hj9 : A0.cmp .lss j (A0.len l) = false := by assumption
         simp only [A0, decide_eq_false_iff_not] at hj9
         rw [hlen] at hj9
         replace j0 : 0 ≤ j := j0
         replace j1 : j ≤ (l'.length : Int) := j1
         have hcn : c ≤ n := by
           have hjl : j.toNat = l'.length := by omega
           have hc9 : c = ((l'.take j.toNat).count (l'.getD i.toNat zeroA) : Int) := hc
           rw [hjl, List.take_length, hgd] at hc9
           rw [hc9]
           exact hpm
         first
           | (exfalso
              have h9 := h
              simp only [A0] at h9
              rw [decide_eq_false (show ¬ n < c by omega)] at h9
              by_cases h7 : c = n
              · simp [h7] at h9
              · simp [h7] at h9
              done)
           | (have ei : IntKind.wrap .i64 (i + 1) = i + 1 := wrap_i64 (by unfold r64; omega)
              refine ⟨i + 1, ⟨by show (0 : Int) ≤ i + 1; omega, by show i + 1 ≤ (l'.length : Int); omega⟩, by show (l'.length : Int).toNat - (i + 1).toNat < (l'.length : Int).toNat - i.toNat; omega, told_less ?_⟩
              simp [toldP, getS, A0, ei]
              done))
      | (refine ret_v (congrArg boolD ?_) rfl
         have hll : (0 < n) ↔ 0 < (l.length : Int) := by rw [hlen]; exact hpos.trans (by omega)
         simp [A0, FsR0, hll]
         done)
      | skip
  · have hl := hl20
    have hx : isAt x20 := hs20
    clear hl20 hs20 e20 h
    have hr : r64 turn := hp1
    obtain ⟨l', hxl, _, _⟩ := hx
    have hlen : x20.length = l'.length := by rw [hxl, attrsX_length]
    obtain ⟨mp, hmp⟩ : ∃ mp, mp = mostX x20 := ⟨_, rfl⟩
    have hge : ∀ a ∈ l', (l'.count a : Int) ≤ mp.2 := fun a ha => by rw [hmp, hxl]; unfold mostX; rw [attrsOf_X]; exact mostL_ge ha
    have hpos : 0 < mp.2 ↔ 0 < l'.length := by rw [hmp, hxl]; unfold mostX; rw [attrsOf_X]; exact mostL_pos
    have htn : ∀ k : Nat, (mostX (x20.drop k ++ x20.take k)).2 = mp.2 := fun k => by rw [hmp]; exact mostX_turn ⟨l', hxl, by omega, ‹_›⟩ k
    have hxa : isAt x20 := ⟨l', hxl, by omega, ‹_›⟩
    obtain ⟨⟨a0, a1, a2, a3, a4, a5, a6, a7⟩, n⟩ := mp
    have emp : GFsO.most x20 = (⟨a0, a1, a2, a3, a4, a5, a6, a7⟩, n) := by subst hGFsO; exact hmp.symm
    cbv at emp
    simp only [emp]
    with_reducible refine goL (c := .region 4 _ _) (T := fun _ => tabY [54, 58, 77] []) (H := fun _ => [kn_most GFsO, kn_within3 GFsW, kn_runs GFsR]) (tabY_ok _ _) hH follows_mixed hA hX ?_
    cbv
    refine And.intro (by subst hGFsW; exact hr) (And.intro (by subst hGFsW hA; simp only [FsW0, A0, nc]; show span3 0 (x20.length : Int); unfold span3; omega) ?_)
    obtain ⟨k, hk⟩ : ∃ k, k = GFsW.within3 turn 0 (A.len x20) := ⟨_, rfl⟩
    have hk2 : 0 ≤ k ∧ k ≤ (x20.length : Int) := by subst hk hGFsW hA; simp only [FsW0, A0]; unfold within3; show 0 ≤ 0 + turn % ((x20.length : Int) - 0 + 1) ∧ 0 + turn % ((x20.length : Int) - 0 + 1) ≤ (x20.length : Int); have := Int.emod_nonneg turn (show ((x20.length : Int) - 0 + 1) ≠ 0 by omega); have := Int.emod_lt_of_pos turn (show 0 < ((x20.length : Int) - 0 + 1) by omega); omega
    cbv at hk
    simp only [← hk]
    obtain ⟨M7, hM7⟩ : ∃ F, F = FsM70 := ⟨_, rfl⟩
    have hB : SoundB Try.prog [kb_mv M7] := by subst hM7; exact orB_ok okb_mv noB_ok
    have hcel : A0.app (A0.app [] (A0.rows (A0.sub x20 k (A0.len x20)))) (A0.rows (A0.sub x20 0 k)) = rowsD (x20.drop k.toNat ++ x20.take k.toNat) := by
      simp only [A0, List.nil_append]
      rw [← rowsD_append]
      congr 2
      rw [List.take_of_length_le]
      rw [List.length_drop]; omega
    have emv : (M7.mv (A.app (A.app [] (A.rows (A.sub x20 k (A.len x20)))) (A.rows (A.sub x20 0 k)))).2 = n := by
      subst hM7 hA
      rw [hcel]
      show (mostX (rwA _)).2 = n
      rw [rwA_eq (isAt_turn hxa _)]
      exact htn _
    cbv at emv
    (with_reducible refine regionS [11] (.node 0 13 (.node 4 13 (.node 8 13 (.node 9 13 (.leaf [0, 1, 2, 3, 4, 5, 6, 7, 8, 9, 10, 11, 12, 13, 14, 15] []) (.leaf [0, 1, 2, 3, 4, 5, 6, 7, 8, 13, 9, 10, 11, 12, 14, 15] [])) (.leaf [0, 1, 2, 3, 4, 5, 6, 7, 13, 8, 9, 10, 11, 12, 14, 15] [])) (.leaf [0, 1, 2, 3, 13, 4, 5, 6, 7, 8, 9, 10, 11, 12, 14, 15] [])) (.leaf [13, 0, 1, 2, 3, 4, 5, 6, 7, 8, 9, 10, 11, 12, 14, 15] [])) (T := fun _ => tabY [54, 58, 77] []) (H := fun _ => [kn_most GFsO, kn_within3 GFsW, kn_runs GFsR]) (B := fun _ => [kb_mv M7]) (R := fun _ => []) (A := A) (tabY_ok _ _) hH hB noR_ok follows_mixed hA hX ?_); refine ⟨by decide, ⟨by decide, ⟨by decide, ⟨by decide, ⟨by decide, by kernel_rfl, by kernel_rfl, by kernel_rfl, ?_⟩, ⟨by decide, by kernel_rfl, by kernel_rfl, by kernel_rfl, ?_⟩⟩, ⟨by decide, by kernel_rfl, by kernel_rfl, by kernel_rfl, ?_⟩⟩, ⟨by decide, by kernel_rfl, by kernel_rfl, by kernel_rfl, ?_⟩⟩, ⟨by decide, by kernel_rfl, by kernel_rfl, by kernel_rfl, ?_⟩⟩ <;> cbv
    all_goals simp only [emv]
    all_goals
      repeat' first
        | (refine And.intro ?_ ?_)
        | (refine part (fun h => ?_) (fun h => ?_) <;> try cbv)
        | (refine loopL (T := fun _ => tabY [54, 58, 77] []) (H := fun _ => [kn_most GFsO, kn_within3 GFsW, kn_runs GFsR]) (tabY_ok _ _) hH follows_mixed hA hX (fun i : Int => 0 ≤ i ∧ i ≤ (l'.length : Int)) (fun i => [(0, .d (.slc 8 x20)), (5, .ref 0 0 0), (6, .d (.sc (.int .i64 n))), (9, .d (.sc (.int .i64 n))), (10, .d (.sc (.int .i64 i)))]) (fun _ => _) (fun i => (l'.length : Int).toNat - i.toNat) 0 ⟨Int.le_refl _, by omega⟩ (told_less ⟨.inl rfl, .inl rfl, .inl rfl, .inl rfl, .inl rfl, trivial⟩) ?_
           rintro R i hR ⟨i0, i1⟩
           cbv)
        | (refine loopL (T := fun _ => tabY [54, 58, 77] []) (H := fun _ => [kn_most GFsO, kn_within3 GFsW, kn_runs GFsR]) (tabY_ok _ _) hH follows_mixed hA hX (fun x : Int × Int => (0 ≤ x.1 ∧ x.1 ≤ (l'.length : Int)) ∧ x.2 = ((l'.take x.1.toNat).count (l'.getD i.toNat zeroA) : Int)) (fun x => [(0, .d (.slc 8 x20)), (5, .ref 0 0 0), (6, .d (.sc (.int .i64 n))), (9, .d (.sc (.int .i64 n))), (10, .d (.sc (.int .i64 i))), (11, .d (.sc (.int .i64 x.2))), (12, .d (.sc (.int .i64 x.1)))]) (fun _ => _) (fun x => (l'.length : Int).toNat - x.1.toNat) (0, 0) ⟨⟨Int.le_refl _, by omega⟩, rfl⟩ (told_less ⟨.inl rfl, .inl rfl, .inl rfl, .inl rfl, .inl rfl, .inl rfl, .inl rfl, trivial⟩) ?_
           rintro R2 ⟨j, c⟩ hR2 ⟨⟨j0, j1⟩, hc⟩
           cbv)
    all_goals subst hA hX hW hGFsO hGFsW hGFsR hM7
    all_goals try subst hR
    all_goals try subst hR2
    all_goals clear hB
    all_goals try clear hH
    all_goals replace hlen : x20.length = l'.length := hlen
    all_goals replace hk2 : 0 ≤ k ∧ k ≤ (x20.length : Int) := hk2
    all_goals have hs1 : (A0.sub x20 k (A0.len x20)).length ≤ 20 := by show ((x20.drop k.toNat).take _).length ≤ 20; rw [List.length_take, List.length_drop]; omega
    all_goals have hs2 : (A0.sub x20 0 k).length ≤ 20 := by show ((x20.drop _).take _).length ≤ 20; rw [List.length_take, List.length_drop]; omega
    all_goals have hz1 : ∀ x ∈ A0.sub x20 k (A0.len x20), x.length = 8 := fun x hx => hxa.sz x (List.mem_of_mem_drop (List.mem_of_mem_take hx))
    all_goals have hz2 : ∀ x ∈ A0.sub x20 0 k, x.length = 8 := fun x hx => hxa.sz x (List.mem_of_mem_drop (List.mem_of_mem_take hx))
    all_goals first
      | exact rfl
      | (show Region.lexB _ _ = true; kernel_rfl)
      | (show turnsB _ = true; kernel_rfl)
      | exact ⟨hk2.1, hk2.2, Int.le_refl _⟩
      | exact ⟨Int.le_refl _, hk2.1, hk2.2⟩
      | (show List.length ([] ++ rowsD (A0.sub x20 k (A0.len x20))) = (0 + (A0.sub x20 k (A0.len x20)).length) * 8
         rw [List.nil_append, rows8 hz1, Nat.zero_add])
      | (show 0 + (A0.sub x20 k (A0.len x20)).length ≤ 9007199254740992 ∧ (0 + (A0.sub x20 k (A0.len x20)).length) * 64 ≤ 140737488355328
         exact ⟨by omega, by omega⟩)
      | (show (0 + (A0.sub x20 k (A0.len x20)).length) + (A0.sub x20 0 k).length ≤ 9007199254740992 ∧ ((0 + (A0.sub x20 k (A0.len x20)).length) + (A0.sub x20 0 k).length) * 64 ≤ 140737488355328
         exact ⟨by omega, by omega⟩)
      | (refine okRw_mk hxa hk2 hcel ?_
         show 0 + ((x20.drop k.toNat).take ((x20.length : Int).toNat - k.toNat)).length + ((x20.drop (0 : Int).toNat).take (k.toNat - (0 : Int).toNat)).length = x20.length
         rw [List.length_take, List.length_drop, List.length_take, List.length_drop]
         have e0 : (0 : Int).toNat = 0 := rfl
         rw [e0]
         omega)
      | (intro hq; exact hq)
      | (intro hq; simpa [A0] using hq)
      | (intro _; first | exact trivial | exact rfl)
      | skip
    all_goals try
      have hi9 : A0.cmp .lss i (A0.len x20) = true := by assumption
      simp only [A0, decide_eq_true_eq] at hi9
      rw [hlen] at hi9
      replace i0 : 0 ≤ i := i0
      have hri := arow hxl i0 hi9
      have hin : i.toNat < l'.length := by omega
      have hgd : l'.getD i.toNat zeroA = l'[i.toNat]'hin := by simp [List.getD_eq_getElem?_getD, hin]
      have hpm := hge _ (List.getElem_mem hin)
      generalize l'[i.toNat]'hin = p at hri hgd hpm
    all_goals first
      | (exact ⟨i0, by show i < (x20.length : Int); rw [hlen]; exact hi9⟩)
      | (intro _; exact ⟨i0, by show i < (x20.length : Int); rw [hlen]; exact hi9⟩)
      | (simp only [A0, hri, Attr.row]; simp; done)
      | (intro _; simp only [A0, hri, Attr.row]; simp; done)
      | (have hj9 : A0.cmp .lss j (A0.len x20) = true := by assumption
         simp only [A0, decide_eq_true_eq] at hj9
         rw [hlen] at hj9
         replace j0 : 0 ≤ j := j0
         have hrj := arow hxl j0 hj9
         have hjn : j.toNat < l'.length := by omega
         have hct := count_take_succ hjn p
         generalize l'[j.toNat]'hjn = q at hrj hct
         first
           | (exact ⟨j0, by show j < (x20.length : Int); rw [hlen]; exact hj9⟩)
           | (simp only [A0, hrj, Attr.row]; simp; done)
           | (have hc9 : c = ((l'.take j.toNat).count p : Int) := by rw [← hgd]; exact hc
              have hcl : ((l'.take j.toNat).count p) ≤ 20 := Nat.le_trans List.count_le_length (by rw [List.length_take]; omega)
              have ej : IntKind.wrap .i64 (j + 1) = j + 1 := wrap_i64 (by unfold r64; omega)
              have ec : IntKind.wrap .i64 (c + 1) = c + 1 := wrap_i64 (by unfold r64; omega)
              have ejn : (j + 1).toNat = j.toNat + 1 := by omega
              simp only [A0, hri, hrj, Attr.row, List.map_cons, List.map_nil, Nat.zero_add, List.getElem?_cons_zero, List.getElem?_cons_succ, Bool.and_true] at h
              by_cases e : q = p
              · rw [if_pos e] at hct
                first
                  | (refine ⟨(j + 1, c + 1), ⟨⟨by show 0 ≤ j + 1; omega, by show j + 1 ≤ (l'.length : Int); omega⟩, ?_⟩, by show (l'.length : Int).toNat - (j + 1).toNat < (l'.length : Int).toNat - j.toNat; omega, told_less ?_⟩
                     · show c + 1 = ((l'.take (j + 1).toNat).count (l'.getD i.toNat zeroA) : Int)
                       rw [ejn, hgd, hct, hc9]
                     · simp [toldP, getS, A0, ej, ec]
                       done)
                  | (exfalso; subst e; simp at h; done)
              · rw [if_neg e] at hct
                first
                  | (exfalso
                     refine e ?_
                     cases q; cases p
                     simp at h
                     simp [h]
                     done)
                  | (refine ⟨(j + 1, c), ⟨⟨by show 0 ≤ j + 1; omega, by show j + 1 ≤ (l'.length : Int); omega⟩, ?_⟩, by show (l'.length : Int).toNat - (j + 1).toNat < (l'.length : Int).toNat - j.toNat; omega, told_less ?_⟩
                     · show c = ((l'.take (j + 1).toNat).count (l'.getD i.toNat zeroA) : Int)
                       rw [ejn, hgd, hct, hc9]; omega
                     · simp [toldP, getS, A0, ej, ec]
                       done)))
      | (have hj9 : A0.cmp .lss j (A0.len x20) = false := by assumption
         simp only [A0, decide_eq_false_iff_not] at hj9
         rw [hlen] at hj9
         replace j0 : 0 ≤ j := j0
         replace j1 : j ≤ (l'.length : Int) := j1
         have hcn : c ≤ n := by
           have hjl : j.toNat = l'.length := by omega
           have hc9 : c = ((l'.take j.toNat).count (l'.getD i.toNat zeroA) : Int) := hc
           rw [hjl, List.take_length, hgd] at hc9
           rw [hc9]
           exact hpm
         first
           | (exfalso
              have h9 := h
              simp only [A0] at h9
              rw [decide_eq_false (show ¬ n < c by omega)] at h9
              by_cases h7 : c = n
              · simp [h7] at h9
              · simp [h7] at h9
              done)
           | (have ei : IntKind.wrap .i64 (i + 1) = i + 1 := wrap_i64 (by unfold r64; omega)
              refine ⟨i + 1, ⟨by show (0 : Int) ≤ i + 1; omega, by show i + 1 ≤ (l'.length : Int); omega⟩, by show (l'.length : Int).toNat - (i + 1).toNat < (l'.length : Int).toNat - i.toNat; omega, told_less ?_⟩
              simp [toldP, getS, A0, ei]
              done))
      | (refine ret_v (congrArg boolD ?_) rfl
         have hll : (0 < n) ↔ 0 < (x20.length : Int) := by rw [hlen]; exact hpos.trans (by omega)
         simp [A0, FsR0, hll]
         done)
      | skip

end Go.Proofs.Ytikodmddomaneaa
