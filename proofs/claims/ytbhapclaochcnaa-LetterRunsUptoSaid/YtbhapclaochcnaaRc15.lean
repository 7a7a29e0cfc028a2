/- Readers made; commands read. No condition. -/
import Derived.Test.YtbhapclaochcnaaRd2
import Derived.Test.YtbhapclaochcnaaCmd2
import Derived.Test.YtbhapclaochcnaaAm40
namespace Go.Proofs.Ytbhapclaochcnaa
open Go.RowKit
set_option linter.all false
set_option maxHeartbeats 4000000

theorem rightR_eq (c : Cmd) : rightCR c = rightC c := by
  rw [Bool.eq_iff_iff]
  simp only [rightCR, rightC, within, Bool.or_eq_true, Bool.and_eq_true, decide_eq_true_eq, Bool.not_eq_true', decide_eq_false_iff_not]
  grind

def grownX (xs : List (List PD)) (n : Int) : List (List PD) := xs
def isG (xs : List (List PD)) (n : Int) : Prop := (∃ bs, xs = bytesP bs ∧ bs.length ≤ 8000000) ∧ 0 ≤ n ∧ n ≤ 8388608
def isB8 (xs : List (List PD)) : Prop := ∃ bs, xs = bytesP bs ∧ bs.length ≤ 8000000
/-- A command, read; ahead of the look at what it is. -/
def getB (xs : List (List PD)) (a w : Int) : Cmd × Int × Int :=
  let r := numR xs a w
  if r.1 = 0 then (⟨0, 0, 0, none8, none8, none8, none8⟩, r.2) else
    let c := numR xs r.2.1 r.2.2
    let s := numR xs c.2.1 c.2.2
    let k := textR xs s.2.1 s.2.2 16
    if r.1 = 2 then
      let v := textR xs k.2.1 k.2.2 64
      (⟨r.1, c.1, s.1, k.1, none8, none8, v.1⟩, v.2)
    else if r.1 = 4 then
      let o := textR xs k.2.1 k.2.2 64
      let v := textR xs o.2.1 o.2.2 64
      (⟨r.1, c.1, s.1, k.1, none8, o.1, v.1⟩, v.2)
    else if r.1 = 5 then
      let e := textR xs k.2.1 k.2.2 16
      (⟨r.1, c.1, s.1, k.1, e.1, none8, none8⟩, e.2)
    else (⟨r.1, c.1, s.1, k.1, none8, none8, none8⟩, k.2)
def getX (xs : List (List PD)) (a w : Int) : Cmd × Int × Int :=
  let g := getB xs a w
  if g.2.2 = 0 then (if rightC g.1 = true then g else (.zero, g.2.1, 4)) else (.zero, g.2.1, g.2.2)
theorem text_rd {xs : List (List PD)} {a w : Int} (n : Int) (h : isRd xs a w) : isRd xs (textR xs a w n).2.1 (textR xs a w n).2.2 := by
  have hc := cnt_rd n h
  obtain ⟨bs, hxs, hby, hlx, hb, h0, h1, hw0, hw1⟩ := isRd_len h
  rw [text_eq]
  generalize cntR xs a w n = q at *
  obtain ⟨m, a', w'⟩ := q
  simp only at *
  have h5 := hc.1.2.1
  have h6 := hc.1.2.2.1
  have h7 := hc.2.2.2
  have hbl : (bytesOf xs).length = xs.length := by rw [hby, hlx]
  split
  · exact hc.1
  · rename_i hw
    have hw : w' = 0 := by omega
    split
    · exact ⟨h.1, h.2.1, h.2.2.1, by simp only; omega, by simp only; omega⟩
    · exact ⟨h.1, by simp only; omega, by simp only; omega, by simp only; omega, by simp only; omega⟩
theorem fail_rd {xs : List (List PD)} {a w : Int} (h : isRd xs a w) : isRd xs a (failR w) := by
  refine ⟨h.1, h.2.1, h.2.2.1, ?_⟩
  have := h.2.2.2
  simp only [failR]
  split <;> omega
theorem getB_rd {xs : List (List PD)} {a w : Int} (h : isRd xs a w) : isRd xs (getB xs a w).2.1 (getB xs a w).2.2 := by
  have h1 := (num_rd h).1
  have h2 := (num_rd h1).1
  have h3 := (num_rd h2).1
  have h4 := text_rd 16 h3
  unfold getB
  simp only
  split
  · exact h1
  split
  · exact text_rd 64 h4
  split
  · exact text_rd 64 (text_rd 64 h4)
  split
  · exact text_rd 16 h4
  · exact h4
theorem get_rd {xs : List (List PD)} {a w : Int} (h : isRd xs a w) : isRd xs (getX xs a w).2.1 (getX xs a w).2.2 := by
  have h1 := getB_rd h
  unfold getX
  simp only
  split
  · split
    · exact h1
    · exact ⟨h.1, h1.2.1, h1.2.2.1, by simp only; omega, by simp only; omega⟩
  · exact h1

structure FsS where
  grown : List (List PD) → Int → List (List PD)
  isG : List (List PD) → Int → Prop
  isB : List (List PD) → Prop
  rd : List (List PD) → Int → Int → Prop
noncomputable def FsS0 : FsS where
  grown := grownX
  isG := isG
  isB := isB8
  rd := isRd
theorem v_grown (xs : List (List PD)) (n : Int) (hp0 : FsS0.isG xs n) : FnV Try.prog 66 [.d (.slc 1 xs), intD n] (.d (.slc 1 (grownX xs n))) := by
  obtain ⟨⟨bs, hxs, hb⟩, h0, h1⟩ := hp0
  refine FnD.ret ((w_grown bs xs n hxs h0 h1 (by omega)).mono ?_)
  rintro r st ⟨cs, m, hcs, hm, rfl, rfl⟩
  exact ret_bytes rfl hm hcs (by rw [grownX, hxs])
def kn_grown (F : FsS) : FuncId × (List DV → RV) := (66, fun args => match args with
  | [.d (.slc 1 xs), .d (.sc (.int .i64 n))] => some ([F.isG xs n], .d (.slc 1 (F.grown xs n)))
  | [.d (.sc (.slice none 0 0)), .d (.sc (.int .i64 n))] => some ([F.isG [] n], .d (.slc 1 (F.grown [] n)))
  | _ => none)
theorem ok_grown (args : List DV) (cs : List Prop) (r : DV) (h : (kn_grown FsS0).2 args = some (cs, r)) (hc : allP cs True) : FnV Try.prog 66 args r ∧ closedL 0 args = true := by
  unfold kn_grown at h
  simp only at h
  split at h
  · cases h; exact ⟨v_grown _ _ hc.1, rfl⟩
  · cases h; exact ⟨FnP.nils (v_grown [] _ hc.1) ⟨.inr ⟨rfl, _, rfl⟩, ⟨.inl rfl, trivial⟩⟩, rfl⟩
  · cases h
set_option maxRecDepth 100000 in
theorem v_pRead (xs : List (List PD)) (hp0 : FsS0.isB xs) : FnD Try.prog 23 [.d (.slc 1 xs)] [] (fun r st' => r = .ref 0 0 0 ∧ st' = [rdB 95 xs 0 0]) := by
  obtain ⟨F, hF⟩ : ∃ F, F = FsS0 := ⟨_, rfl⟩
  have hH : SoundK Try.prog [kn_grown F] := by subst hF; exact orK_ok ok_grown noK_ok
  refine FnD_cbv (T := fun _ => tabY [] []) (H := fun _ => [kn_grown F]) (tabY_ok _ _) hH follows_mixed Try.func23 rfl Try.ntmps23 (by simp) fun A X W hA hX hW => ?_
  clear hH
  cbv
  refine And.intro ?_ ?_ <;> subst hA hX hW hF
  · exact ⟨hp0, by omega, by omega⟩
  · exact RetW.refl ⟨rfl, rfl⟩
def kb_pRead (F : FsS) : FuncId × (List DV → Store → SV) := (23, fun args st => match args with
  | [.d (.slc 1 xs)] => some ([F.isB xs], .ref st.length 0 0, st ++ [rdB 95 xs 0 0])
  | [.d (.sc (.slice none 0 0))] => some ([], .ref st.length 0 0, st ++ [rdB 95 [] 0 0])
  | _ => none)
theorem okb_pRead (args : List DV) (st : Store) (cs : List Prop) (r : DV) (st' : Store) (h : (kb_pRead FsS0).2 args st = some (cs, r, st')) (hc : allP cs True) (K : DV → Store → Prop) (hk : K r st') : FnD Try.prog 23 args st K := by
  unfold kb_pRead at h
  simp only at h
  split at h
  · cases h
    exact FnD.new1 (v_pRead _ hc.1) rfl rfl hk
  · cases h
    exact FnD.nils (FnD.new1 (v_pRead [] ⟨[], rfl, by simp⟩) rfl rfl hk) ⟨.inr ⟨rfl, _, rfl⟩, trivial⟩
  · cases h
set_option maxRecDepth 100000 in
theorem v_rRead (xs : List (List PD)) (hp0 : FsS0.isB xs) : FnD Try.prog 24 [.d (.slc 1 xs)] [] (fun r st' => r = .ref 0 0 0 ∧ st' = [rdB 59 xs 0 0]) := by
  refine FnD_cbv (T := fun _ => tabY [] []) (H := fun _ => []) (tabY_ok _ _) noK_ok follows_mixed Try.func24 rfl Try.ntmps24 (by simp) fun A X W hA hX hW => ?_
  cbv
  subst hA hX hW
  exact RetW.refl ⟨rfl, rfl⟩
def kb_rRead (F : FsS) : FuncId × (List DV → Store → SV) := (24, fun args st => match args with
  | [.d (.slc 1 xs)] => some ([F.isB xs], .ref st.length 0 0, st ++ [rdB 59 xs 0 0])
  | [.d (.sc (.slice none 0 0))] => some ([], .ref st.length 0 0, st ++ [rdB 59 [] 0 0])
  | _ => none)
theorem okb_rRead (args : List DV) (st : Store) (cs : List Prop) (r : DV) (st' : Store) (h : (kb_rRead FsS0).2 args st = some (cs, r, st')) (hc : allP cs True) (K : DV → Store → Prop) (hk : K r st') : FnD Try.prog 24 args st K := by
  unfold kb_rRead at h
  simp only at h
  split at h
  · cases h
    exact FnD.new1 (v_rRead _ hc.1) rfl rfl hk
  · cases h
    exact FnD.nils (FnD.new1 (v_rRead [] ⟨[], rfl, by simp⟩) rfl rfl hk) ⟨.inr ⟨rfl, _, rfl⟩, trivial⟩
  · cases h
theorem rd0 {xs : List (List PD)} (h : isB8 xs) : isRd xs 0 0 := ⟨h, by omega, by omega, by omega, by omega⟩
structure FsG where
  get : List (List PD) → Int → Int → Cmd × Int × Int
  rd : List (List PD) → Int → Int → Prop
def FsG0 : FsG where
  get := getX
  rd := isRd
set_option maxRecDepth 100000 in
theorem v_cGet (xs : List (List PD)) (a w : Int) (hp0 : FsG0.rd xs a w) : FnD Try.prog 68 [.ref 0 0 0] [rdB 95 xs a w] (fun r st' => r = Cmd.D ((FsG0.get xs a w).1) ∧ st' = [rdB 95 xs (FsG0.get xs a w).2.1 (FsG0.get xs a w).2.2]) := by
  obtain ⟨GFs5, hFs5⟩ : ∃ F, F = Fs50 := ⟨_, rfl⟩
  obtain ⟨GFsR, hFsR⟩ : ∃ F, F = FsR0 := ⟨_, rfl⟩
  have hH : SoundK Try.prog [kn_right GFs5] := by subst hFs5 hFsR; exact orK_ok ok_right noK_ok
  have hB : SoundB Try.prog [kb_pNum GFsR, kb_pText GFsR, kb_pwrong GFsR, kb_pFail GFsR] := by subst hFs5 hFsR; exact orB_ok okb_pNum (orB_ok okb_pText (orB_ok okb_pwrong (orB_ok okb_pFail noB_ok)))
  refine FnD_cbv (T := fun _ => tabY [] []) (H := fun _ => [kn_right GFs5]) (tabY_ok _ _) hH follows_mixed Try.func68 rfl Try.ntmps68 (by simp) fun A X W hA hX hW => ?_
  cbv
  repeat' first
    | (refine part (fun h => ?_) (fun h => ?_) <;> try cbv)
    | (refine And.intro ?_ ?_)
    | (with_reducible refine callB hX hB ?_) <;> cbv
  all_goals clear hH hB
  all_goals subst hA hX hW hFsR hFs5
  all_goals simp only [A0, nc, FsR0, Fs50, rightR_eq, decide_eq_true_eq, decide_eq_false_iff_not, Bool.not_eq_true', Bool.not_eq_false'] at *
  all_goals have h1 := num_rd hp0
  all_goals generalize e1 : numR xs a w = q at *
  all_goals obtain ⟨n1, a1, w1⟩ := q
  all_goals try simp only at *
  all_goals have h2 := (num_rd h1.1).1
  all_goals generalize e2 : numR xs a1 w1 = q at *
  all_goals obtain ⟨n2, a2, w2⟩ := q
  all_goals try simp only at *
  all_goals have h3 := (num_rd h2).1
  all_goals generalize e3 : numR xs a2 w2 = q at *
  all_goals obtain ⟨n3, a3, w3⟩ := q
  all_goals try simp only at *
  all_goals have h4 := text_rd 16 h3
  all_goals generalize e4 : textR xs a3 w3 16 = q at *
  all_goals obtain ⟨t4, a4, w4⟩ := q
  all_goals try simp only at *
  all_goals have h5 := text_rd 64 h4
  all_goals generalize e5 : textR xs a4 w4 64 = q at *
  all_goals obtain ⟨t5, a5, w5⟩ := q
  all_goals try simp only at *
  all_goals have h6 := text_rd 64 h5
  all_goals generalize e6 : textR xs a5 w5 64 = q at *
  all_goals obtain ⟨t6, a6, w6⟩ := q
  all_goals try simp only at *
  all_goals have h7 := text_rd 16 h4
  all_goals generalize e7 : textR xs a4 w4 16 = q at *
  all_goals obtain ⟨t7, a7, w7⟩ := q
  all_goals try simp only at *
  all_goals first
    | assumption
    | exact h1.1
    | exact fail_rd ‹_›
    | exact fail_rd h1.1
    | (intros; first | assumption | trivial | (simp_all; done))
    | (exfalso; simp_all; done)
    | (refine ret_keep [0] rfl ⟨?_, ?_⟩ <;> (simp_all [FsG0, pullD, pullL, keepSt, pullBox, getX, getB, failR, Cmd.D, Cmd.zero, intD, strD]; done))
def kb_cGet (F : FsG) : FuncId × (List DV → Store → SV) := (68, fun args st => match args with
  | [.ref b ver o] => (match st[b]? with
    | some ⟨t, [.d (.slc 1 xs), .d (.sc (.int .i64 a)), .d (.sc (.int .i64 w))], false, v, true⟩ => (bif (ver == 0) && (o == 0) && (v == 0) && (t == 95) then some ([F.rd xs a w], Cmd.D ((F.get xs a w).1), st.set b (rdB 95 xs (F.get xs a w).2.1 (F.get xs a w).2.2)) else none)
    | _ => none)
  | _ => none)
theorem okb_cGet (args : List DV) (st : Store) (cs : List Prop) (r : DV) (st' : Store) (h : (kb_cGet FsG0).2 args st = some (cs, r, st')) (hc : allP cs True) (K : DV → Store → Prop) (hk : K r st') : FnD Try.prog 68 args st K := by
  unfold kb_cGet at h
  simp only at h
  split at h
  · split at h
    · rename_i hb
      simp only [cond_eq_ite, Bool.and_eq_true, beq_iff_eq, Option.ite_none_right_eq_some] at h
      obtain ⟨⟨⟨⟨rfl, rfl⟩, rfl⟩, rfl⟩, h⟩ := h
      cases h
      exact FnD.one _ (v_cGet _ _ _ hc.1) hb rfl rfl rfl rfl hk
    · cases h
  · cases h
end Go.Proofs.Ytbhapclaochcnaa
