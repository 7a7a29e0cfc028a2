/- Readers made and called; what the law's helpers give. No condition. -/
import Derived.Test.YtligainhbdidgaaRd2
namespace Go.Proofs.Ytligainhbdidgaa
open Go.RowKit
set_option linter.all false


def grownX (xs : List (List PD)) (n : Int) : List (List PD) := xs
def isG (xs : List (List PD)) (n : Int) : Prop := (∃ bs, xs = bytesP bs ∧ bs.length ≤ 8000000) ∧ 0 ≤ n ∧ n ≤ 8388608
def ansR (k n : Int) (xs : List (List PD)) (a w : Int) (ys : List (List PD)) (a2 w2 : Int) : Bool :=
  if k = 1 then decide ((numR xs a w).1 = (numR ys a2 w2).1) else if k = 2 then decide ((textR xs a w n).1 = (textR ys a2 w2 n).1) else if k = 3 then decide ((flagR xs a w).1 = (flagR ys a2 w2).1) else
    if k = 4 then decide ((cntR xs a w n).1 = (cntR ys a2 w2 n).1) else if k = 5 then decide (endR xs a w = endR ys a2 w2) else true
def stR (k n : Int) (xs : List (List PD)) (a w : Int) : Int × Int :=
  if k = 1 then (numR xs a w).2 else if k = 2 then (textR xs a w n).2 else if k = 3 then (flagR xs a w).2 else if k = 4 then (cntR xs a w n).2 else if k = 5 then (a, endR xs a w) else if k = 6 then (a, failR w) else (a, w)
noncomputable def wrongX (xs : List (List PD)) (k n : Int) : Int := (stR k n xs 0 0).2
def isB8 (xs : List (List PD)) : Prop := ∃ bs, xs = bytesP bs ∧ bs.length ≤ 8000000

structure FsS where
  grown : List (List PD) → Int → List (List PD)
  isG : List (List PD) → Int → Prop
  ans : Int → Int → List (List PD) → Int → Int → List (List PD) → Int → Int → Bool
  st : Int → Int → List (List PD) → Int → Int → Int × Int
  wrong : List (List PD) → Int → Int → Int
  isB : List (List PD) → Prop
  rd : List (List PD) → Int → Int → Prop
noncomputable def FsS0 : FsS where
  grown := grownX
  isG := isG
  ans := ansR
  st := stR
  wrong := wrongX
  isB := isB8
  rd := isRd
theorem v_grown (xs : List (List PD)) (n : Int) (hp0 : FsS0.isG xs n) : FnV Try.prog 85 [.d (.slc 1 xs), intD n] (.d (.slc 1 (grownX xs n))) := by
  obtain ⟨⟨bs, hxs, hb⟩, h0, h1⟩ := hp0
  refine FnD.ret ((w_grown bs xs n hxs h0 h1 (by omega)).mono ?_)
  rintro r st ⟨cs, m, hcs, hm, rfl, rfl⟩
  exact ret_bytes rfl hm hcs (by rw [grownX, hxs])
def kn_grown (F : FsS) : FuncId × (List DV → RV) := (85, fun args => match args with
  | [.d (.slc 1 xs), .d (.sc (.int .i64 n))] => some ([F.isG xs n], .d (.slc 1 (F.grown xs n)))
  | [.d (.sc (.slice none 0 0)), .d (.sc (.int .i64 n))] => some ([F.isG [] n], .d (.slc 1 (F.grown [] n)))
  | _ => none)
theorem ok_grown (args : List DV) (cs : List Prop) (r : DV) (h : (kn_grown FsS0).2 args = some (cs, r)) (hc : allP cs True) : FnV Try.prog 85 args r ∧ closedL 0 args = true := by
  unfold kn_grown at h
  simp only at h
  split at h
  · cases h; exact ⟨v_grown _ _ hc.1, rfl⟩
  · cases h; exact ⟨FnP.nils (v_grown [] _ hc.1) ⟨.inr ⟨rfl, _, rfl⟩, ⟨.inl rfl, trivial⟩⟩, rfl⟩
  · cases h
set_option maxRecDepth 100000 in
theorem v_pRead (xs : List (List PD)) (hp0 : FsS0.isB xs) : FnD Try.prog 54 [.d (.slc 1 xs)] [] (fun r st' => r = .ref 0 0 0 ∧ st' = [rdB 111 xs 0 0]) := by
  obtain ⟨F, hF⟩ : ∃ F, F = FsS0 := ⟨_, rfl⟩
  have hH : SoundK Try.prog [kn_grown F] := by subst hF; exact orK_ok ok_grown noK_ok
  refine FnD_cbv (T := fun _ => tabY [] []) (H := fun _ => [kn_grown F]) (tabY_ok _ _) hH follows_mixed Try.func54 rfl Try.ntmps54 (by simp) fun A X W hA hX hW => ?_
  clear hH
  cbv
  refine And.intro ?_ ?_ <;> subst hA hX hW hF
  · exact ⟨hp0, by omega, by omega⟩
  · exact RetW.refl ⟨rfl, rfl⟩
def kb_pRead (F : FsS) : FuncId × (List DV → Store → SV) := (54, fun args st => match args with
  | [.d (.slc 1 xs)] => some ([F.isB xs], .ref st.length 0 0, st ++ [rdB 111 xs 0 0])
  | [.d (.sc (.slice none 0 0))] => some ([], .ref st.length 0 0, st ++ [rdB 111 [] 0 0])
  | _ => none)
theorem okb_pRead (args : List DV) (st : Store) (cs : List Prop) (r : DV) (st' : Store) (h : (kb_pRead FsS0).2 args st = some (cs, r, st')) (hc : allP cs True) (K : DV → Store → Prop) (hk : K r st') : FnD Try.prog 54 args st K := by
  unfold kb_pRead at h
  simp only at h
  split at h
  · cases h
    exact FnD.new1 (v_pRead _ hc.1) rfl rfl hk
  · cases h
    exact FnD.nils (FnD.new1 (v_pRead [] ⟨[], rfl, by simp⟩) rfl rfl hk) ⟨.inr ⟨rfl, _, rfl⟩, trivial⟩
  · cases h
set_option maxRecDepth 100000 in
theorem v_rRead (xs : List (List PD)) (hp0 : FsS0.isB xs) : FnD Try.prog 55 [.d (.slc 1 xs)] [] (fun r st' => r = .ref 0 0 0 ∧ st' = [rdB 81 xs 0 0]) := by
  refine FnD_cbv (T := fun _ => tabY [] []) (H := fun _ => []) (tabY_ok _ _) noK_ok follows_mixed Try.func55 rfl Try.ntmps55 (by simp) fun A X W hA hX hW => ?_
  cbv
  subst hA hX hW
  exact RetW.refl ⟨rfl, rfl⟩
def kb_rRead (F : FsS) : FuncId × (List DV → Store → SV) := (55, fun args st => match args with
  | [.d (.slc 1 xs)] => some ([F.isB xs], .ref st.length 0 0, st ++ [rdB 81 xs 0 0])
  | [.d (.sc (.slice none 0 0))] => some ([], .ref st.length 0 0, st ++ [rdB 81 [] 0 0])
  | _ => none)
theorem okb_rRead (args : List DV) (st : Store) (cs : List Prop) (r : DV) (st' : Store) (h : (kb_rRead FsS0).2 args st = some (cs, r, st')) (hc : allP cs True) (K : DV → Store → Prop) (hk : K r st') : FnD Try.prog 55 args st K := by
  unfold kb_rRead at h
  simp only at h
  split at h
  · cases h
    exact FnD.new1 (v_rRead _ hc.1) rfl rfl hk
  · cases h
    exact FnD.nils (FnD.new1 (v_rRead [] ⟨[], rfl, by simp⟩) rfl rfl hk) ⟨.inr ⟨rfl, _, rfl⟩, trivial⟩
  · cases h
theorem rd_any {k n : Int} {xs : List (List PD)} {a w : Int} (h : isRd xs a w) : isRd xs (stR k n xs a w).1 (stR k n xs a w).2 := by
  have hn := num_rd h
  have hc := cnt_rd n h
  have hl := isRd_len h
  obtain ⟨bs, hxs, hby, hlx, hb, h0, h1, hw0, hw1⟩ := hl
  unfold stR
  split
  · exact hn.1
  split
  · rw [text_eq]
    generalize cntR xs a w n = q at *
    obtain ⟨m, a', w'⟩ := q
    simp only at *
    have h5 := hc.1.2.1
    have h6 := hc.1.2.2.1
    have h7 := hc.2.2.2
    have hbl : (bytesOf xs).length = xs.length := by rw [hby, hlx]
    split
    · exact hc.1
    · rename_i hw
      have hw : w' = 0 := by omega
      split
      · exact ⟨h.1, h.2.1, h.2.2.1, by simp only; omega, by simp only; omega⟩
      · exact ⟨h.1, by simp only; omega, by simp only; omega, by simp only; omega, by simp only; omega⟩
  split
  · unfold flagR flagL
    rw [hby]
    split
    · exact h
    · cases hg : bs[a.toNat]? with
      | none => exact ⟨h.1, h.2.1, h.2.2.1, by simp only; omega, by simp only; omega⟩
      | some c =>
        have := (List.getElem?_eq_some_iff.1 hg).1
        simp only
        split
        · exact ⟨h.1, h.2.1, h.2.2.1, by simp only; omega, by simp only; omega⟩
        · exact ⟨h.1, by simp only; omega, by simp only; omega, by simp only; omega, by simp only; omega⟩
  split
  · exact hc.1
  split
  · refine ⟨h.1, h.2.1, h.2.2.1, ?_⟩
    simp only [endR]
    split <;> omega
  split
  · refine ⟨h.1, h.2.1, h.2.2.1, ?_⟩
    simp only [failR]
    split <;> omega
  · exact h
set_option maxRecDepth 100000 in
theorem v_call (xs ys : List (List PD)) (a w a2 w2 k n : Int) (s : ByteArray) (f : Bool) (hp0 : isRd xs a w) (hp1 : isRd ys a2 w2) : FnD Try.prog 56 [.ref 0 0 0, .ref 1 0 0, .agg [intD k, intD n, strD s, boolD f]] [rdB 111 xs a w, rdB 81 ys a2 w2]
    (fun r st' => r = .d (.sc (.bool (ansR k n xs a w ys a2 w2))) ∧ st' = [rdB 111 xs (stR k n xs a w).1 (stR k n xs a w).2, rdB 81 ys (stR k n ys a2 w2).1 (stR k n ys a2 w2).2]) := by
  obtain ⟨F, hF⟩ : ∃ F, F = FsR0 := ⟨_, rfl⟩
  have hB : SoundB Try.prog [kb_pNum F, kb_rNum F, kb_pText F, kb_rText F, kb_pFlag F, kb_rFlag F, kb_pCount F, kb_rCount F, kb_pEnd F, kb_rEnd F, kb_pFail F] := by subst hF; exact orB_ok okb_pNum (orB_ok okb_rNum (orB_ok okb_pText (orB_ok okb_rText (orB_ok okb_pFlag (orB_ok okb_rFlag (orB_ok okb_pCount (orB_ok okb_rCount (orB_ok okb_pEnd (orB_ok okb_rEnd (orB_ok okb_pFail noB_ok))))))))))
  refine FnD_cbv (T := fun _ => tabY [] [5, 9]) (H := fun _ => []) (tabY_ok _ _) noK_ok follows_mixed Try.func56 rfl Try.ntmps56 (by simp) fun A X W hA hX hW => ?_
  cbv
  repeat' first
    | (refine part (fun h => ?_) (fun h => ?_) <;> try cbv)
    | (refine And.intro ?_ ?_)
    | (with_reducible refine callB hX hB ?_) <;> cbv
    | (with_reducible refine regionB [63, 87, 65, 89] (T := fun _ => tabY [] []) (H := fun _ => []) (B := fun _ => [kb_pNum F, kb_rNum F, kb_pText F, kb_rText F, kb_pFlag F, kb_rFlag F, kb_pCount F, kb_rCount F, kb_pEnd F, kb_rEnd F, kb_pFail F]) (A := A) (tabY_ok _ _) noK_ok hB follows_mixed hA hX (by kernel_rfl) (by kernel_rfl) ?_) <;> cbv
  all_goals subst hA hX hW hF
  all_goals simp only [A0, FsR0, decide_eq_true_eq, decide_eq_false_iff_not] at *
  all_goals first
    | assumption
    | (refine ret_keep [0, 1] rfl ⟨?_, ?_⟩ <;> (simp_all [ansR, stR, keepSt, pullBox, pullL, pullD, failR]; done))
theorem rd0 {xs : List (List PD)} (h : isB8 xs) : isRd xs 0 0 := ⟨h, by omega, by omega, by omega, by omega⟩
def kb_call (F : FsS) : FuncId × (List DV → Store → SV) := (56, fun args st => match args with
  | [.ref b ver o, .ref c ver' o', .agg [.d (.sc (.int .i64 k)), .d (.sc (.int .i64 n)), .d (.sc (.string s)), .d (.sc (.bool f))]] => (match st[b]?, st[c]? with
    | some ⟨t, [.d (.slc 1 xs), .d (.sc (.int .i64 a)), .d (.sc (.int .i64 w))], false, v, true⟩, some ⟨t', [.d (.slc 1 ys), .d (.sc (.int .i64 a2)), .d (.sc (.int .i64 w2))], false, v', true⟩ => (bif ((ver == 0) && (o == 0) && (v == 0) && (t == 111)) && ((ver' == 0) && (o' == 0) && (v' == 0) && (t' == 81)) && !(b == c) then
        some ([F.rd xs a w, F.rd ys a2 w2], .d (.sc (.bool (F.ans k n xs a w ys a2 w2))), (st.set b (rdB 111 xs (F.st k n xs a w).1 (F.st k n xs a w).2)).set c (rdB 81 ys (F.st k n ys a2 w2).1 (F.st k n ys a2 w2).2)) else none)
    | _, _ => none)
  | _ => none)
theorem okb_call (args : List DV) (st : Store) (cs : List Prop) (r : DV) (st' : Store) (h : (kb_call FsS0).2 args st = some (cs, r, st')) (hc : allP cs True) (K : DV → Store → Prop) (hk : K r st') : FnD Try.prog 56 args st K := by
  unfold kb_call at h
  simp only at h
  split at h
  · split at h
    · rename_i hb hb'
      simp only [cond_eq_ite, Bool.and_eq_true, beq_iff_eq, Bool.not_eq_true', beq_eq_false_iff_ne, Option.ite_none_right_eq_some] at h
      obtain ⟨⟨⟨⟨⟨⟨rfl, rfl⟩, rfl⟩, rfl⟩, ⟨⟨rfl, rfl⟩, rfl⟩, rfl⟩, hne⟩, h⟩ := h
      cases h
      exact FnD.two _ _ hne (v_call _ _ _ _ _ _ _ _ _ _ hc.1 hc.2.1) hb hb' rfl rfl rfl rfl rfl rfl hk
    · cases h
  · cases h
set_option maxRecDepth 100000 in
theorem v_wrong (xs : List (List PD)) (k n : Int) (hp0 : FsS0.isB xs) : FnV Try.prog 52 [.d (.slc 1 xs), intD k, intD n] (intD (wrongX xs k n)) := by
  obtain ⟨F, hF⟩ : ∃ F, F = FsS0 := ⟨_, rfl⟩
  obtain ⟨G, hG⟩ : ∃ F, F = FsR0 := ⟨_, rfl⟩
  have hB : SoundB Try.prog [kb_pRead F, kb_rRead F, kb_call F, kb_pwrong G] := by subst hF hG; exact orB_ok okb_pRead (orB_ok okb_rRead (orB_ok okb_call (orB_ok okb_pwrong noB_ok)))
  refine FnD_cbv (T := fun _ => tabY [] []) (H := fun _ => []) (tabY_ok _ _) noK_ok follows_mixed Try.func52 rfl Try.ntmps52 (by simp) fun A X W hA hX hW => ?_
  cbv
  repeat' first
    | (refine part (fun h => ?_) (fun h => ?_) <;> try cbv)
    | (refine And.intro ?_ ?_)
    | (with_reducible refine callB hX hB ?_) <;> cbv
  all_goals subst hA hX hW hF hG
  all_goals simp only [A0, FsR0, FsS0] at *
  all_goals first
    | assumption
    | exact rd0 hp0
    | exact rd0 ⟨[], rfl, by simp⟩
    | exact rd_any (rd0 hp0)
    | exact ret_v rfl rfl
def kn_wrong (F : FsS) : FuncId × (List DV → RV) := (52, fun args => match args with
  | [.d (.slc 1 xs), .d (.sc (.int .i64 k)), .d (.sc (.int .i64 n))] => some ([F.isB xs], intD ((F.wrong xs k n)))
  | [.d (.sc (.slice none 0 0)), .d (.sc (.int .i64 k)), .d (.sc (.int .i64 n))] => some ([F.isB []], intD ((F.wrong [] k n)))
  | _ => none)
theorem ok_wrong (args : List DV) (cs : List Prop) (r : DV) (h : (kn_wrong FsS0).2 args = some (cs, r)) (hc : allP cs True) : FnV Try.prog 52 args r ∧ closedL 0 args = true := by
  unfold kn_wrong at h
  simp only at h
  split at h
  · cases h; exact ⟨v_wrong _ _ _ hc.1, rfl⟩
  · cases h; exact ⟨FnP.nils (v_wrong [] _ _ hc.1) ⟨.inr ⟨rfl, _, rfl⟩, ⟨.inl rfl, ⟨.inl rfl, trivial⟩⟩⟩, rfl⟩
  · cases h
end Go.Proofs.Ytligainhbdidgaa
