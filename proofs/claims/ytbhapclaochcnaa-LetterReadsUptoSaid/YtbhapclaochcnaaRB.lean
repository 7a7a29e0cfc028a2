/- Readers made; commands read. No condition. -/
import Derived.Test.YtbhapclaochcnaaRA
import Derived.Test.YtbhapclaochcnaaAm40
namespace Go.Proofs.Ytbhapclaochcnaa
open Go.RowKit
set_option linter.all false
set_option maxHeartbeats 4000000
theorem rightR_eq (c : Cmd) : rightCR c = rightC c := by
  rw [Bool.eq_iff_iff]
  simp only [rightCR, rightC, within, Bool.or_eq_true, Bool.and_eq_true, decide_eq_true_eq, Bool.not_eq_true', decide_eq_false_iff_not]
  grind
def grownX (xs : List (List PD)) (n : Int) : List (List PD) := xs
def isG (xs : List (List PD)) (n : Int) : Prop := (∃ bs, xs = bytesP bs ∧ bs.length ≤ 8000000) ∧ 0 ≤ n ∧ n ≤ 8388608
def isB8 (xs : List (List PD)) : Prop := ∃ bs, xs = bytesP bs ∧ bs.length ≤ 8000000
/-- A command, read; ahead of the look at what it is. -/
def getB (xs : List (List PD)) (a w : Int) : Cmd × Int × Int :=
  let r := numR xs a w
  if r.1 = 0 then (⟨0, 0, 0, none8, none8, none8, none8⟩, r.2) else
    let c := numR xs r.2.1 r.2.2
    let s := numR xs c.2.1 c.2.2
    let k := textR xs s.2.1 s.2.2 16
    if r.1 = 2 then
      let v := textR xs k.2.1 k.2.2 64
      (⟨r.1, c.1, s.1, k.1, none8, none8, v.1⟩, v.2)
    else if r.1 = 4 then
      let o := textR xs k.2.1 k.2.2 64
      let v := textR xs o.2.1 o.2.2 64
      (⟨r.1, c.1, s.1, k.1, none8, o.1, v.1⟩, v.2)
    else if r.1 = 5 then
      let e := textR xs k.2.1 k.2.2 16
      (⟨r.1, c.1, s.1, k.1, e.1, none8, none8⟩, e.2)
    else (⟨r.1, c.1, s.1, k.1, none8, none8, none8⟩, k.2)
def getX (xs : List (List PD)) (a w : Int) : Cmd × Int × Int :=
  let g := getB xs a w
  if g.2.2 = 0 then (if rightC g.1 = true then g else (.zero, g.2.1, 4)) else (.zero, g.2.1, g.2.2)
theorem text_rd {xs : List (List PD)} {a w : Int} (n : Int) (h : isRd xs a w) : isRd xs (textR xs a w n).2.1 (textR xs a w n).2.2 := by
  have hc := cnt_rd n h
  obtain ⟨bs, hxs, hby, hlx, hb, h0, h1, hw0, hw1⟩ := isRd_len h
  rw [text_eq]
  generalize cntR xs a w n = q at *
  obtain ⟨m, a', w'⟩ := q
  simp only at *
  have h5 := hc.1.2.1
  have h6 := hc.1.2.2.1
  have h7 := hc.2.2.2
  have hbl : (bytesOf xs).length = xs.length := by rw [hby, hlx]
  split
  · exact hc.1
  · rename_i hw
    have hw : w' = 0 := by omega
    split
    · exact ⟨h.1, h.2.1, h.2.2.1, by simp only; omega, by simp only; omega⟩
    · exact ⟨h.1, by simp only; omega, by simp only; omega, by simp only; omega, by simp only; omega⟩
theorem fail_rd {xs : List (List PD)} {a w : Int} (h : isRd xs a w) : isRd xs a (failR w) := by
  refine ⟨h.1, h.2.1, h.2.2.1, ?_⟩
  have := h.2.2.2
  simp only [failR]
  split <;> omega
theorem getB_rd {xs : List (List PD)} {a w : Int} (h : isRd xs a w) : isRd xs (getB xs a w).2.1 (getB xs a w).2.2 := by
  have h1 := (num_rd h).1
  have h2 := (num_rd h1).1
  have h3 := (num_rd h2).1
  have h4 := text_rd 16 h3
  unfold getB
  simp only
  split
  · exact h1
  split
  · exact text_rd 64 h4
  split
  · exact text_rd 64 (text_rd 64 h4)
  split
  · exact text_rd 16 h4
  · exact h4
theorem get_rd {xs : List (List PD)} {a w : Int} (h : isRd xs a w) : isRd xs (getX xs a w).2.1 (getX xs a w).2.2 := by
  have h1 := getB_rd h
  unfold getX
  simp only
  split
  · split
    · exact h1
    · exact ⟨h.1, h1.2.1, h1.2.2.1, by simp only; omega, by simp only; omega⟩
  · exact h1
structure FsS where
  grown : List (List PD) → Int → List (List PD)
  isG : List (List PD) → Int → Prop
  isB : List (List PD) → Prop
  rd : List (List PD) → Int → Int → Prop
noncomputable def FsS0 : FsS where
  grown := grownX
  isG := isG
  isB := isB8
  rd := isRd
theorem v_grown (xs : List (List PD)) (n : Int) (hp0 : FsS0.isG xs n) : FnV Try.prog 66 [.d (.slc 1 xs), intD n] (.d (.slc 1 (grownX xs n))) := by
  obtain ⟨⟨bs, hxs, hb⟩, h0, h1⟩ := hp0
  refine FnD.ret ((w_grown bs xs n hxs h0 h1 (by omega)).mono ?_)
  rintro r st ⟨cs, m, hcs, hm, rfl, rfl⟩
  exact ret_bytes rfl hm hcs (by rw [grownX, hxs])
def kn_grown (F : FsS) : FuncId × (List DV → RV) := (66, fun args => match args with
  | [.d (.slc 1 xs), .d (.sc (.int .i64 n))] => some ([F.isG xs n], .d (.slc 1 (F.grown xs n)))
  | [.d (.sc (.slice none 0 0)), .d (.sc (.int .i64 n))] => some ([F.isG [] n], .d (.slc 1 (F.grown [] n)))
  | _ => none)
theorem ok_grown (args : List DV) (cs : List Prop) (r : DV) (h : (kn_grown FsS0).2 args = some (cs, r)) (hc : allP cs True) : FnV Try.prog 66 args r ∧ closedL 0 args = true := by
  unfold kn_grown at h
  simp only at h
  split at h
  · cases h; exact ⟨v_grown _ _ hc.1, rfl⟩
  · cases h; exact ⟨FnP.nils (v_grown [] _ hc.1) ⟨.inr ⟨rfl, _, rfl⟩, ⟨.inl rfl, trivial⟩⟩, rfl⟩
  · cases h
set_option maxRecDepth 100000 in
theorem v_pRead (xs : List (List PD)) (hp0 : FsS0.isB xs) : FnD Try.prog 23 [.d (.slc 1 xs)] [] (fun r st' => r = .ref 0 0 0 ∧ st' = [rdB 95 xs 0 0]) := by
  obtain ⟨F, hF⟩ : ∃ F, F = FsS0 := ⟨_, rfl⟩
  have hH : SoundK Try.prog [kn_grown F] := by subst hF; exact orK_ok ok_grown noK_ok
  refine FnD_cbv (T := fun _ => tabY [] []) (H := fun _ => [kn_grown F]) (tabY_ok _ _) hH follows_mixed Try.func23 rfl Try.ntmps23 (by simp) fun A X W hA hX hW => ?_
  clear hH
  cbv
  refine And.intro ?_ ?_ <;> subst hA hX hW hF
  · exact ⟨hp0, by omega, by omega⟩
  · exact RetW.refl ⟨rfl, rfl⟩
def kb_pRead (F : FsS) : FuncId × (List DV → Store → SV) := (23, fun args st => match args with
  | [.d (.slc 1 xs)] => some ([F.isB xs], .ref st.length 0 0, st ++ [rdB 95 xs 0 0])
  | [.d (.sc (.slice none 0 0))] => some ([], .ref st.length 0 0, st ++ [rdB 95 [] 0 0])
  | _ => none)
theorem okb_pRead (args : List DV) (st : Store) (cs : List Prop) (r : DV) (st' : Store) (h : (kb_pRead FsS0).2 args st = some (cs, r, st')) (hc : allP cs True) (K : DV → Store → Prop) (hk : K r st') : FnD Try.prog 23 args st K := by
  unfold kb_pRead at h
  simp only at h
  split at h
  · cases h
    exact FnD.new1 (v_pRead _ hc.1) rfl rfl hk
  · cases h
    exact FnD.nils (FnD.new1 (v_pRead [] ⟨[], rfl, by simp⟩) rfl rfl hk) ⟨.inr ⟨rfl, _, rfl⟩, trivial⟩
  · cases h
set_option maxRecDepth 100000 in
theorem v_rRead (xs : List (List PD)) (hp0 : FsS0.isB xs) : FnD Try.prog 24 [.d (.slc 1 xs)] [] (fun r st' => r = .ref 0 0 0 ∧ st' = [rdB 59 xs 0 0]) := by
  refine FnD_cbv (T := fun _ => tabY [] []) (H := fun _ => []) (tabY_ok _ _) noK_ok follows_mixed Try.func24 rfl Try.ntmps24 (by simp) fun A X W hA hX hW => ?_
  cbv
  subst hA hX hW
  exact RetW.refl ⟨rfl, rfl⟩
def kb_rRead (F : FsS) : FuncId × (List DV → Store → SV) := (24, fun args st => match args with
  | [.d (.slc 1 xs)] => some ([F.isB xs], .ref st.length 0 0, st ++ [rdB 59 xs 0 0])
  | [.d (.sc (.slice none 0 0))] => some ([], .ref st.length 0 0, st ++ [rdB 59 [] 0 0])
  | _ => none)
theorem okb_rRead (args : List DV) (st : Store) (cs : List Prop) (r : DV) (st' : Store) (h : (kb_rRead FsS0).2 args st = some (cs, r, st')) (hc : allP cs True) (K : DV → Store → Prop) (hk : K r st') : FnD Try.prog 24 args st K := by
  unfold kb_rRead at h
  simp only at h
  split at h
  · cases h
    exact FnD.new1 (v_rRead _ hc.1) rfl rfl hk
  · cases h
    exact FnD.nils (FnD.new1 (v_rRead [] ⟨[], rfl, by simp⟩) rfl rfl hk) ⟨.inr ⟨rfl, _, rfl⟩, trivial⟩
  · cases h
theorem rd0 {xs : List (List PD)} (h : isB8 xs) : isRd xs 0 0 := ⟨h, by omega, by omega, by omega, by omega⟩
structure FsG where
  get : List (List PD) → Int → Int → Cmd × Int × Int
  rd : List (List PD) → Int → Int → Prop
def FsG0 : FsG where
  get := getX
  rd := isRd
set_option maxRecDepth 100000 in
theorem v_cGet (xs : List (List PD)) (a w : Int) (hp0 : FsG0.rd xs a w) : FnD Try.prog 68 [.ref 0 0 0] [rdB 95 xs a w] (fun r st' => r = Cmd.D ((FsG0.get xs a w).1) ∧ st' = [rdB 95 xs (FsG0.get xs a w).2.1 (FsG0.get xs a w).2.2]) := by
  obtain ⟨GFs5, hFs5⟩ : ∃ F, F = Fs50 := ⟨_, rfl⟩
  obtain ⟨GFsR, hFsR⟩ : ∃ F, F = FsR0 := ⟨_, rfl⟩
  have hH : SoundK Try.prog [kn_right GFs5] := by subst hFs5 hFsR; exact orK_ok ok_right noK_ok
  have hB : SoundB Try.prog [kb_pNum GFsR, kb_pText GFsR, kb_pwrong GFsR, kb_pFail GFsR] := by subst hFs5 hFsR; exact orB_ok okb_pNum (orB_ok okb_pText (orB_ok okb_pwrong (orB_ok okb_pFail noB_ok)))
  refine FnD_cbv (T := fun _ => tabY [] []) (H := fun _ => [kn_right GFs5]) (tabY_ok _ _) hH follows_mixed Try.func68 rfl Try.ntmps68 (by simp) fun A X W hA hX hW => ?_
  cbv
  repeat' first
    | (refine part (fun h => ?_) (fun h => ?_) <;> try cbv)
    | (refine And.intro ?_ ?_)
    | (with_reducible refine callB hX hB ?_) <;> cbv
  all_goals clear hH hB
  all_goals subst hA hX hW hFsR hFs5
  all_goals simp only [A0, nc, FsR0, Fs50, rightR_eq, decide_eq_true_eq, decide_eq_false_iff_not, Bool.not_eq_true', Bool.not_eq_false'] at *
  all_goals have h1 := num_rd hp0
  all_goals generalize e1 : numR xs a w = q at *
  all_goals obtain ⟨n1, a1, w1⟩ := q
  all_goals try simp only at *
  all_goals have h2 := (num_rd h1.1).1
  all_goals generalize e2 : numR xs a1 w1 = q at *
  all_goals obtain ⟨n2, a2, w2⟩ := q
  all_goals try simp only at *
  all_goals have h3 := (num_rd h2).1
  all_goals generalize e3 : numR xs a2 w2 = q at *
  all_goals obtain ⟨n3, a3, w3⟩ := q
  all_goals try simp only at *
  all_goals have h4 := text_rd 16 h3
  all_goals generalize e4 : textR xs a3 w3 16 = q at *
  all_goals obtain ⟨t4, a4, w4⟩ := q
  all_goals try simp only at *
  all_goals have h5 := text_rd 64 h4
  all_goals generalize e5 : textR xs a4 w4 64 = q at *
  all_goals obtain ⟨t5, a5, w5⟩ := q
  all_goals try simp only at *
  all_goals have h6 := text_rd 64 h5
  all_goals generalize e6 : textR xs a5 w5 64 = q at *
  all_goals obtain ⟨t6, a6, w6⟩ := q
  all_goals try simp only at *
  all_goals have h7 := text_rd 16 h4
  all_goals generalize e7 : textR xs a4 w4 16 = q at *
  all_goals obtain ⟨t7, a7, w7⟩ := q
  all_goals try simp only at *
  all_goals first
    | assumption
    | exact h1.1
    | exact fail_rd ‹_›
    | exact fail_rd h1.1
    | (intros; first | assumption | trivial | (simp_all; done))
    | (exfalso; simp_all; done)
    | (refine ret_keep [0] rfl ⟨?_, ?_⟩ <;> (simp_all [FsG0, pullD, pullL, keepSt, pullBox, getX, getB, failR, Cmd.D, Cmd.zero, intD, strD]; done))
def kb_cGet (F : FsG) : FuncId × (List DV → Store → SV) := (68, fun args st => match args with
  | [.ref b ver o] => (match st[b]? with
    | some ⟨t, [.d (.slc 1 xs), .d (.sc (.int .i64 a)), .d (.sc (.int .i64 w))], false, v, true⟩ => (bif (ver == 0) && (o == 0) && (v == 0) && (t == 95) then some ([F.rd xs a w], Cmd.D ((F.get xs a w).1), st.set b (rdB 95 xs (F.get xs a w).2.1 (F.get xs a w).2.2)) else none)
    | _ => none)
  | _ => none)
theorem okb_cGet (args : List DV) (st : Store) (cs : List Prop) (r : DV) (st' : Store) (h : (kb_cGet FsG0).2 args st = some (cs, r, st')) (hc : allP cs True) (K : DV → Store → Prop) (hk : K r st') : FnD Try.prog 68 args st K := by
  unfold kb_cGet at h
  simp only at h
  split at h
  · split at h
    · rename_i hb
      simp only [cond_eq_ite, Bool.and_eq_true, beq_iff_eq, Option.ite_none_right_eq_some] at h
      obtain ⟨⟨⟨⟨rfl, rfl⟩, rfl⟩, rfl⟩, h⟩ := h
      cases h
      exact FnD.one _ (v_cGet _ _ _ hc.1) hb rfl rfl rfl rfl hk
    · cases h
  · cases h
end Go.Proofs.Ytbhapclaochcnaa
namespace Go.Proofs.Ytbhapclaochcnaa
open Go.RowKit
set_option linter.all false
set_option maxHeartbeats 4000000
structure Attr where
  seq : Int
  d0 : Int
  d1 : Int
  d2 : Int
  d3 : Int
  d4 : Int
  d5 : Int
  d6 : Int
  deriving DecidableEq
def Attr.D (x : Attr) : DV := .agg [intD x.seq, intD x.d0, intD x.d1, intD x.d2, intD x.d3, intD x.d4, intD x.d5, intD x.d6]
structure Deps where
  d0 : Int
  d1 : Int
  d2 : Int
  d3 : Int
  d4 : Int
  d5 : Int
  d6 : Int
  deriving DecidableEq
def Deps.D (x : Deps) : DV := .agg [intD x.d0, intD x.d1, intD x.d2, intD x.d3, intD x.d4, intD x.d5, intD x.d6]
structure Inst where
  replica : Int
  slot : Int
  deriving DecidableEq
def Inst.D (x : Inst) : DV := .agg [intD x.replica, intD x.slot]
def rightI (i : Inst) : Bool := decide (0 ≤ i.replica) && decide (i.replica < 7) && decide (1 ≤ i.slot) && decide (i.slot ≤ 1073741824)
def okK (k : Int) : Bool := decide (0 ≤ k) && decide (k ≤ 1073741824)
def rightDs (d : Deps) : Bool := okK d.d0 && okK d.d1 && okK d.d2 && okK d.d3 && okK d.d4 && okK d.d5 && okK d.d6
def Attr.deps (a : Attr) : Deps := ⟨a.d0, a.d1, a.d2, a.d3, a.d4, a.d5, a.d6⟩
def rightA (a : Attr) : Bool := decide (0 ≤ a.seq) && decide (a.seq ≤ 1099511627776) && rightDs a.deps
def coversD (a b : Deps) : Bool := decide (b.d0 ≤ a.d0) && decide (b.d1 ≤ a.d1) && decide (b.d2 ≤ a.d2) && decide (b.d3 ≤ a.d3) && decide (b.d4 ≤ a.d4) && decide (b.d5 ≤ a.d5) && decide (b.d6 ≤ a.d6)
def Deps.at (d : Deps) (r : Int) : Int := if r = 0 then d.d0 else if r = 1 then d.d1 else if r = 2 then d.d2 else if r = 3 then d.d3 else if r = 4 then d.d4 else if r = 5 then d.d5 else d.d6
def reachD (d : Deps) (i : Inst) : Bool := rightI i && decide (i.slot ≤ d.at i.replica)
def lessI (a b : Inst) : Bool := decide (a.replica < b.replica) || (decide (a.replica = b.replica) && decide (a.slot < b.slot))
def joinA (a b : Attr) : Attr := ⟨max a.seq b.seq, max a.d0 b.d0, max a.d1 b.d1, max a.d2 b.d2, max a.d3 b.d3, max a.d4 b.d4, max a.d5 b.d5, max a.d6 b.d6⟩
structure FsA where
  rightI : Inst → Bool
  rightD : Deps → Bool
  rightA : Attr → Bool
  rightAR : Attr → Bool
  covers : Deps → Deps → Bool
  reach : Deps → Inst → Bool
  less : Inst → Inst → Bool
  join2 : Attr → Attr → Attr
def FsA0 : FsA where
  rightI := rightI
  rightD := rightDs
  rightA := rightA
  rightAR := rightA
  covers := coversD
  reach := reachD
  less := lessI
  join2 := joinA
set_option maxRecDepth 100000 in
theorem v_rightI (i : Inst) : FnV Try.prog 53 [Inst.D i] (boolD ((rightI i))) := by
  obtain ⟨i_replica, i_slot⟩ := i
  refine FnD_cbv (T := fun _ => tabY [] []) (H := fun _ => []) (tabY_ok _ _) noK_ok follows_mixed Try.func53 rfl Try.ntmps53 (by simp) fun A X W hA hX hW => ?_
  cbv
  repeat' first
    | (refine part (fun h => ?_) (fun h => ?_) <;> try cbv)
    | (refine And.intro ?_ ?_)
  all_goals subst hA hX hW
  all_goals try (show Region.lexB _ _ = true; kernel_rfl)
  all_goals try (show turnsB _ = true; kernel_rfl)
  all_goals simp only [A0, FsA0, decide_eq_true_eq, decide_eq_false_iff_not, Bool.not_eq_true', Bool.not_eq_false'] at *
  all_goals first
    | (refine ret_v ?_ rfl
       first
         | rfl
         | (simp_all [rightI, Inst.D, boolD, intD, strD]; done)
         | (simp_all [rightI, Inst.D, boolD, intD, strD]; rfl)
         | (simp only [rightI, Inst.D, boolD, intD, strD] at *; congr 3; grind)
         | (simp only [rightI, Inst.D, boolD, intD, strD] at *; grind))
    | (intros; simp_all [bytes1, maxLen]; done)
    | (intros; simp only [bytes1, maxLen] at *; omega)
    | grind
def kn_rightI (F : FsA) : FuncId × (List DV → RV) := (53, fun args => match args with
  | [.agg [.d (.sc (.int .i64 i_replica)), .d (.sc (.int .i64 i_slot))]] => some ([], boolD ((F.rightI ⟨i_replica, i_slot⟩)))
  | _ => none)
theorem ok_rightI (args : List DV) (cs : List Prop) (r : DV) (h : (kn_rightI FsA0).2 args = some (cs, r)) (hc : allP cs True) : FnV Try.prog 53 args r ∧ closedL 0 args = true := by
  unfold kn_rightI at h
  simp only at h
  split at h
  · cases h; exact ⟨v_rightI ⟨_, _⟩, rfl⟩
  · cases h
set_option maxRecDepth 100000 in
theorem v_rightD (d : Deps) : FnV Try.prog 55 [Deps.D d] (boolD ((rightDs d))) := by
  obtain ⟨d_d0, d_d1, d_d2, d_d3, d_d4, d_d5, d_d6⟩ := d
  refine FnD_cbv (T := fun _ => tabY [5003] []) (H := fun _ => []) (tabY_ok _ _) noK_ok follows_mixed Try.func55 rfl Try.ntmps55 (by simp) fun A X W hA hX hW => ?_
  cbv
  have l0 : A.cmp .lss 0 7 = true := by subst hA; rfl
  cbv at l0
  have l1 : A.cmp .lss 1 7 = true := by subst hA; rfl
  cbv at l1
  have l2 : A.cmp .lss 2 7 = true := by subst hA; rfl
  cbv at l2
  have l3 : A.cmp .lss 3 7 = true := by subst hA; rfl
  cbv at l3
  have l4 : A.cmp .lss 4 7 = true := by subst hA; rfl
  cbv at l4
  have l5 : A.cmp .lss 5 7 = true := by subst hA; rfl
  cbv at l5
  have l6 : A.cmp .lss 6 7 = true := by subst hA; rfl
  cbv at l6
  have l7 : A.cmp .lss 7 7 = false := by subst hA; rfl
  cbv at l7
  have b0 : A.bin .add .i64 0 1 = 1 := by subst hA; rfl
  cbv at b0
  have b1 : A.bin .add .i64 1 1 = 2 := by subst hA; rfl
  cbv at b1
  have b2 : A.bin .add .i64 2 1 = 3 := by subst hA; rfl
  cbv at b2
  have b3 : A.bin .add .i64 3 1 = 4 := by subst hA; rfl
  cbv at b3
  have b4 : A.bin .add .i64 4 1 = 5 := by subst hA; rfl
  cbv at b4
  have b5 : A.bin .add .i64 5 1 = 6 := by subst hA; rfl
  cbv at b5
  have b6 : A.bin .add .i64 6 1 = 7 := by subst hA; rfl
  cbv at b6
  refine unrollL (T := fun _ => tabY [5003] []) (H := fun _ => []) (tabY_ok _ _) noK_ok follows_mixed hA hX 8 fun R hR => ?_
  repeat' first
    | (simp only [l0, l1, l2, l3, l4, l5, l6, l7, b0, b1, b2, b3, b4, b5, b6, decide_true]; cbv)
    | (refine part (fun h => ?_) (fun h => ?_) <;> try cbv)
    | (refine And.intro ?_ ?_)
    | (refine hR _ _ _ ?_; cbv)
  all_goals clear l0 l1 l2 l3 l4 l5 l6 l7 b0 b1 b2 b3 b4 b5 b6
  all_goals try clear hR
  all_goals subst hA hX hW
  all_goals simp only [A0, nc, FsA0, decide_eq_true_eq, decide_eq_false_iff_not, Bool.not_eq_true', Bool.not_eq_false'] at *
  all_goals first
    | (show Region.lexB _ _ = true; kernel_rfl)
    | (show turnsB _ = true; kernel_rfl)
    | (intros; first | assumption | trivial | omega | (simp_all; done))
    | (refine ret_v ?_ rfl; first | rfl | (simp_all [boolD, rightDs, okK]; done) | (simp_all [boolD, rightDs, okK]; omega) | (simp_all [boolD, rightDs, okK]; grind))
def kn_rightD (F : FsA) : FuncId × (List DV → RV) := (55, fun args => match args with
  | [.agg [.d (.sc (.int .i64 d_d0)), .d (.sc (.int .i64 d_d1)), .d (.sc (.int .i64 d_d2)), .d (.sc (.int .i64 d_d3)), .d (.sc (.int .i64 d_d4)), .d (.sc (.int .i64 d_d5)), .d (.sc (.int .i64 d_d6))]] => some ([], boolD ((F.rightD ⟨d_d0, d_d1, d_d2, d_d3, d_d4, d_d5, d_d6⟩)))
  | _ => none)
theorem ok_rightD (args : List DV) (cs : List Prop) (r : DV) (h : (kn_rightD FsA0).2 args = some (cs, r)) (hc : allP cs True) : FnV Try.prog 55 args r ∧ closedL 0 args = true := by
  unfold kn_rightD at h
  simp only at h
  split at h
  · cases h; exact ⟨v_rightD ⟨_, _, _, _, _, _, _⟩, rfl⟩
  · cases h
set_option maxRecDepth 100000 in
theorem v_rightAR (a : Attr) : FnV Try.prog 40 [Attr.D a] (boolD ((rightA a))) := by
  obtain ⟨a_seq, a_d0, a_d1, a_d2, a_d3, a_d4, a_d5, a_d6⟩ := a
  obtain ⟨F, hF⟩ : ∃ F, F = FsA0 := ⟨_, rfl⟩
  have hH : SoundK Try.prog [kn_rightD F] := by subst hF; exact orK_ok ok_rightD noK_ok
  refine FnD_cbv (T := fun _ => tabY [] []) (H := fun _ => [kn_rightD F]) (tabY_ok _ _) hH follows_mixed Try.func40 rfl Try.ntmps40 (by simp) fun A X W hA hX hW => ?_
  clear hH
  cbv
  repeat' first
    | (refine part (fun h => ?_) (fun h => ?_) <;> try cbv)
    | (refine And.intro ?_ ?_)
  all_goals subst hA hX hW hF
  all_goals try (show Region.lexB _ _ = true; kernel_rfl)
  all_goals try (show turnsB _ = true; kernel_rfl)
  all_goals simp only [A0, FsA0, decide_eq_true_eq, decide_eq_false_iff_not, Bool.not_eq_true', Bool.not_eq_false'] at *
  all_goals first
    | (refine ret_v ?_ rfl
       first
         | rfl
         | (simp_all [rightA, Attr.deps, FsA0, Attr.D, boolD, intD, strD]; done)
         | (simp_all [rightA, Attr.deps, FsA0, Attr.D, boolD, intD, strD]; rfl)
         | (simp only [rightA, Attr.deps, FsA0, Attr.D, boolD, intD, strD] at *; congr 3; grind)
         | (simp only [rightA, Attr.deps, FsA0, Attr.D, boolD, intD, strD] at *; grind))
    | (intros; simp_all [bytes1, maxLen]; done)
    | (intros; simp only [bytes1, maxLen] at *; omega)
    | grind
def kn_rightAR (F : FsA) : FuncId × (List DV → RV) := (40, fun args => match args with
  | [.agg [.d (.sc (.int .i64 a_seq)), .d (.sc (.int .i64 a_d0)), .d (.sc (.int .i64 a_d1)), .d (.sc (.int .i64 a_d2)), .d (.sc (.int .i64 a_d3)), .d (.sc (.int .i64 a_d4)), .d (.sc (.int .i64 a_d5)), .d (.sc (.int .i64 a_d6))]] => some ([], boolD ((F.rightAR ⟨a_seq, a_d0, a_d1, a_d2, a_d3, a_d4, a_d5, a_d6⟩)))
  | _ => none)
theorem ok_rightAR (args : List DV) (cs : List Prop) (r : DV) (h : (kn_rightAR FsA0).2 args = some (cs, r)) (hc : allP cs True) : FnV Try.prog 40 args r ∧ closedL 0 args = true := by
  unfold kn_rightAR at h
  simp only at h
  split at h
  · cases h; exact ⟨v_rightAR ⟨_, _, _, _, _, _, _, _⟩, rfl⟩
  · cases h
set_option maxRecDepth 100000 in
theorem v_rightA (a : Attr) : FnV Try.prog 50 [Attr.D a] (boolD ((rightA a))) := by
  obtain ⟨a_seq, a_d0, a_d1, a_d2, a_d3, a_d4, a_d5, a_d6⟩ := a
  refine FnD_cbv (T := fun _ => tabY [5003] []) (H := fun _ => []) (tabY_ok _ _) noK_ok follows_mixed Try.func50 rfl Try.ntmps50 (by simp) fun A X W hA hX hW => ?_
  cbv
  have l0 : A.cmp .lss 0 7 = true := by subst hA; rfl
  cbv at l0
  have l1 : A.cmp .lss 1 7 = true := by subst hA; rfl
  cbv at l1
  have l2 : A.cmp .lss 2 7 = true := by subst hA; rfl
  cbv at l2
  have l3 : A.cmp .lss 3 7 = true := by subst hA; rfl
  cbv at l3
  have l4 : A.cmp .lss 4 7 = true := by subst hA; rfl
  cbv at l4
  have l5 : A.cmp .lss 5 7 = true := by subst hA; rfl
  cbv at l5
  have l6 : A.cmp .lss 6 7 = true := by subst hA; rfl
  cbv at l6
  have l7 : A.cmp .lss 7 7 = false := by subst hA; rfl
  cbv at l7
  have b0 : A.bin .add .i64 0 1 = 1 := by subst hA; rfl
  cbv at b0
  have b1 : A.bin .add .i64 1 1 = 2 := by subst hA; rfl
  cbv at b1
  have b2 : A.bin .add .i64 2 1 = 3 := by subst hA; rfl
  cbv at b2
  have b3 : A.bin .add .i64 3 1 = 4 := by subst hA; rfl
  cbv at b3
  have b4 : A.bin .add .i64 4 1 = 5 := by subst hA; rfl
  cbv at b4
  have b5 : A.bin .add .i64 5 1 = 6 := by subst hA; rfl
  cbv at b5
  have b6 : A.bin .add .i64 6 1 = 7 := by subst hA; rfl
  cbv at b6
  refine unrollL (T := fun _ => tabY [5003] []) (H := fun _ => []) (tabY_ok _ _) noK_ok follows_mixed hA hX 8 fun R hR => ?_
  repeat' first
    | (simp only [l0, l1, l2, l3, l4, l5, l6, l7, b0, b1, b2, b3, b4, b5, b6, decide_true]; cbv)
    | (refine part (fun h => ?_) (fun h => ?_) <;> try cbv)
    | (refine And.intro ?_ ?_)
    | (refine hR _ _ _ ?_; cbv)
  all_goals clear l0 l1 l2 l3 l4 l5 l6 l7 b0 b1 b2 b3 b4 b5 b6
  all_goals try clear hR
  all_goals subst hA hX hW
  all_goals simp only [A0, nc, FsA0, decide_eq_true_eq, decide_eq_false_iff_not, Bool.not_eq_true', Bool.not_eq_false'] at *
  all_goals first
    | (show Region.lexB _ _ = true; kernel_rfl)
    | (show turnsB _ = true; kernel_rfl)
    | (intros; first | assumption | trivial | omega | (simp_all; done))
    | (refine ret_v ?_ rfl; first | rfl | (simp_all [boolD, rightA, rightDs, okK, Attr.deps]; done) | (simp_all [boolD, rightA, rightDs, okK, Attr.deps]; omega) | (simp_all [boolD, rightA, rightDs, okK, Attr.deps]; grind))
def kn_rightA (F : FsA) : FuncId × (List DV → RV) := (50, fun args => match args with
  | [.agg [.d (.sc (.int .i64 a_seq)), .d (.sc (.int .i64 a_d0)), .d (.sc (.int .i64 a_d1)), .d (.sc (.int .i64 a_d2)), .d (.sc (.int .i64 a_d3)), .d (.sc (.int .i64 a_d4)), .d (.sc (.int .i64 a_d5)), .d (.sc (.int .i64 a_d6))]] => some ([], boolD ((F.rightA ⟨a_seq, a_d0, a_d1, a_d2, a_d3, a_d4, a_d5, a_d6⟩)))
  | _ => none)
theorem ok_rightA (args : List DV) (cs : List Prop) (r : DV) (h : (kn_rightA FsA0).2 args = some (cs, r)) (hc : allP cs True) : FnV Try.prog 50 args r ∧ closedL 0 args = true := by
  unfold kn_rightA at h
  simp only at h
  split at h
  · cases h; exact ⟨v_rightA ⟨_, _, _, _, _, _, _, _⟩, rfl⟩
  · cases h
def Attr.row (a : Attr) : List PD := [.sc (.int .i64 a.seq), .sc (.int .i64 a.d0), .sc (.int .i64 a.d1), .sc (.int .i64 a.d2), .sc (.int .i64 a.d3), .sc (.int .i64 a.d4), .sc (.int .i64 a.d5), .sc (.int .i64 a.d6)]
def rAttr (a : Attr) : Prop := r64 a.seq ∧ r64 a.d0 ∧ r64 a.d1 ∧ r64 a.d2 ∧ r64 a.d3 ∧ r64 a.d4 ∧ r64 a.d5 ∧ r64 a.d6
def zeroA : Attr := ⟨0, 0, 0, 0, 0, 0, 0, 0⟩
end Go.Proofs.Ytbhapclaochcnaa
namespace Go.Proofs.Ytbhapclaochcnaa
open Go.RowKit
set_option linter.all false
set_option maxHeartbeats 4000000
/-- The bytes of attributes. -/
def putD (a : Attr) : List UInt8 := numB a.seq ++ (numB a.d0 ++ (numB a.d1 ++ (numB a.d2 ++ (numB a.d3 ++ (numB a.d4 ++ (numB a.d5 ++ numB a.d6))))))
noncomputable def putA (xs : List (List PD)) (a : Attr) : List (List PD) := numX (numX (numX (numX (numX (numX (numX (numX xs a.seq) a.d0) a.d1) a.d2) a.d3) a.d4) a.d5) a.d6
def isBn (k : Nat) (xs : List (List PD)) : Prop := ∃ bs, xs = bytesP bs ∧ bs.length ≤ k
theorem isBn.le {k : Nat} {xs : List (List PD)} (h : isBn k xs) (hk : k ≤ 8000000) : isB xs := by
  obtain ⟨bs, h1, h2⟩ := h
  exact ⟨bs, h1, by omega⟩
theorem isBn.num {k : Nat} {xs : List (List PD)} (h : isBn k xs) (n : Int) : isBn (k + 10) (numX xs n) := by
  obtain ⟨bs, rfl, h2⟩ := h
  have := numB_length n
  exact ⟨bs ++ numB n, by simp only [numX, bytesP_append], by rw [List.length_append]; omega⟩
theorem putA_eq (xs : List (List PD)) (a : Attr) : putA xs a = xs ++ bytesP (putD a) := by
  simp only [putA, putD, numX, bytesP_append, List.append_assoc]
/-- Attributes, read. -/
def getN (xs : List (List PD)) (a w : Int) : Attr × Int × Int :=
  let r0 := numR xs a w
  let r1 := numR xs r0.2.1 r0.2.2
  let r2 := numR xs r1.2.1 r1.2.2
  let r3 := numR xs r2.2.1 r2.2.2
  let r4 := numR xs r3.2.1 r3.2.2
  let r5 := numR xs r4.2.1 r4.2.2
  let r6 := numR xs r5.2.1 r5.2.2
  let r7 := numR xs r6.2.1 r6.2.2
  (⟨r0.1, r1.1, r2.1, r3.1, r4.1, r5.1, r6.1, r7.1⟩, r7.2)
def getA (xs : List (List PD)) (a w : Int) : Attr × Int × Int :=
  let g := getN xs a w
  if g.2.2 = 0 then (if rightA g.1 = true then g else (zeroA, g.2.1, 4)) else (zeroA, g.2.1, g.2.2)
theorem getN_rd {xs : List (List PD)} {a w : Int} (h : isRd xs a w) : isRd xs (getN xs a w).2.1 (getN xs a w).2.2 := (num_rd (num_rd (num_rd (num_rd (num_rd (num_rd (num_rd (num_rd h).1).1).1).1).1).1).1).1
theorem getA_rd {xs : List (List PD)} {a w : Int} (h : isRd xs a w) : isRd xs (getA xs a w).2.1 (getA xs a w).2.2 := by
  have h1 := getN_rd h
  unfold getA
  simp only
  split
  · split
    · exact h1
    · exact ⟨h.1, h1.2.1, h1.2.2.1, by simp only; omega, by simp only; omega⟩
  · exact h1
structure FsDq where
  dput : List (List PD) → Attr → List (List PD)
  isBn : Nat → List (List PD) → Prop
  rAttr : Attr → Prop
  get : List (List PD) → Int → Int → Attr × Int × Int
  rd : List (List PD) → Int → Int → Prop
noncomputable def FsDq0 : FsDq where
  dput := putA
  isBn := isBn
  rAttr := rAttr
  get := getA
  rd := isRd
set_option maxRecDepth 100000 in
theorem v_dput (xs : List (List PD)) (a : Attr) (hp0 : FsDq0.isBn 4000000 xs) (hp1 : FsDq0.rAttr a) : FnV Try.prog 34 [.d (.slc 1 xs), Attr.D a] (.d (.slc 1 (putA xs a))) := by
  obtain ⟨a_seq, a_d0, a_d1, a_d2, a_d3, a_d4, a_d5, a_d6⟩ := a
  obtain ⟨GFsQ, hGFsQ⟩ : ∃ F, F = FsQ0 := ⟨_, rfl⟩
  have hH : SoundK Try.prog [kn_num GFsQ] := by subst hGFsQ; exact orK_ok ok_num noK_ok
  refine FnD_cbv (T := fun _ => tabY [5003] []) (H := fun _ => [kn_num GFsQ]) (tabY_ok _ _) hH follows_mixed Try.func34 rfl Try.ntmps34 (by simp) fun A X W hA hX hW => ?_
  cbv
  have l0 : A.cmp .lss 0 7 = true := by subst hA; rfl
  cbv at l0
  have l1 : A.cmp .lss 1 7 = true := by subst hA; rfl
  cbv at l1
  have l2 : A.cmp .lss 2 7 = true := by subst hA; rfl
  cbv at l2
  have l3 : A.cmp .lss 3 7 = true := by subst hA; rfl
  cbv at l3
  have l4 : A.cmp .lss 4 7 = true := by subst hA; rfl
  cbv at l4
  have l5 : A.cmp .lss 5 7 = true := by subst hA; rfl
  cbv at l5
  have l6 : A.cmp .lss 6 7 = true := by subst hA; rfl
  cbv at l6
  have l7 : A.cmp .lss 7 7 = false := by subst hA; rfl
  cbv at l7
  have b0 : A.bin .add .i64 0 1 = 1 := by subst hA; rfl
  cbv at b0
  have b1 : A.bin .add .i64 1 1 = 2 := by subst hA; rfl
  cbv at b1
  have b2 : A.bin .add .i64 2 1 = 3 := by subst hA; rfl
  cbv at b2
  have b3 : A.bin .add .i64 3 1 = 4 := by subst hA; rfl
  cbv at b3
  have b4 : A.bin .add .i64 4 1 = 5 := by subst hA; rfl
  cbv at b4
  have b5 : A.bin .add .i64 5 1 = 6 := by subst hA; rfl
  cbv at b5
  have b6 : A.bin .add .i64 6 1 = 7 := by subst hA; rfl
  cbv at b6
  have o0_0 : A.off 0 0 1 = 0 := by subst hA; rfl
  cbv at o0_0
  have o0_1 : A.off 0 1 1 = 1 := by subst hA; rfl
  cbv at o0_1
  have o0_2 : A.off 0 2 1 = 2 := by subst hA; rfl
  cbv at o0_2
  have o0_3 : A.off 0 3 1 = 3 := by subst hA; rfl
  cbv at o0_3
  have o0_4 : A.off 0 4 1 = 4 := by subst hA; rfl
  cbv at o0_4
  have o0_5 : A.off 0 5 1 = 5 := by subst hA; rfl
  cbv at o0_5
  have o0_6 : A.off 0 6 1 = 6 := by subst hA; rfl
  cbv at o0_6
  refine And.intro ?_ (And.intro ?_ ?_)
  rotate_left 2
  refine unrollL (T := fun _ => tabY [5003] []) (H := fun _ => [kn_num GFsQ]) (tabY_ok _ _) hH follows_mixed hA hX 8 fun R hR => ?_
  repeat' first
    | (simp only [l0, l1, l2, l3, l4, l5, l6, l7, b0, b1, b2, b3, b4, b5, b6, o0_0, o0_1, o0_2, o0_3, o0_4, o0_5, o0_6, decide_true]; cbv)
    | (refine part (fun h => ?_) (fun h => ?_) <;> try cbv)
    | (refine And.intro ?_ ?_)
    | (refine hR _ _ _ ?_; cbv)
  all_goals clear l0 l1 l2 l3 l4 l5 l6 l7 b0 b1 b2 b3 b4 b5 b6 o0_0 o0_1 o0_2 o0_3 o0_4 o0_5 o0_6 hH
  all_goals try clear hR
  all_goals subst hA hX hW hGFsQ
  all_goals have b0 : isBn 4000000 xs := hp0
  all_goals have b1 := b0.num a_seq
  all_goals have b2 := b1.num a_d0
  all_goals have b3 := b2.num a_d1
  all_goals have b4 := b3.num a_d2
  all_goals have b5 := b4.num a_d3
  all_goals have b6 := b5.num a_d4
  all_goals have b7 := b6.num a_d5
  all_goals obtain ⟨k0, k1, k2, k3, k4, k5, k6, k7⟩ := hp1
  all_goals simp only at k0 k1 k2 k3 k4 k5 k6 k7
  all_goals try simp only [A0, nc, FsQ0, List.getElem?_cons_zero, List.getElem?_cons_succ]
  all_goals first
    | exact ⟨by decide, by decide⟩
    | exact b0.le (by omega)
    | exact b1.le (by omega)
    | exact b2.le (by omega)
    | exact b3.le (by omega)
    | exact b4.le (by omega)
    | exact b5.le (by omega)
    | exact b6.le (by omega)
    | exact b7.le (by omega)
    | assumption
    | (simp; done)
    | (refine ret_v ?_ rfl; rfl)
def kn_dput (F : FsDq) : FuncId × (List DV → RV) := (34, fun args => match args with
  | [.d (.slc 1 xs), .agg [.d (.sc (.int .i64 a_seq)), .d (.sc (.int .i64 a_d0)), .d (.sc (.int .i64 a_d1)), .d (.sc (.int .i64 a_d2)), .d (.sc (.int .i64 a_d3)), .d (.sc (.int .i64 a_d4)), .d (.sc (.int .i64 a_d5)), .d (.sc (.int .i64 a_d6))]] => some ([F.isBn 4000000 xs, F.rAttr ⟨a_seq, a_d0, a_d1, a_d2, a_d3, a_d4, a_d5, a_d6⟩], .d (.slc 1 (F.dput xs ⟨a_seq, a_d0, a_d1, a_d2, a_d3, a_d4, a_d5, a_d6⟩)))
  | [.d (.sc (.slice none 0 0)), .agg [.d (.sc (.int .i64 a_seq)), .d (.sc (.int .i64 a_d0)), .d (.sc (.int .i64 a_d1)), .d (.sc (.int .i64 a_d2)), .d (.sc (.int .i64 a_d3)), .d (.sc (.int .i64 a_d4)), .d (.sc (.int .i64 a_d5)), .d (.sc (.int .i64 a_d6))]] => some ([F.isBn 4000000 [], F.rAttr ⟨a_seq, a_d0, a_d1, a_d2, a_d3, a_d4, a_d5, a_d6⟩], .d (.slc 1 (F.dput [] ⟨a_seq, a_d0, a_d1, a_d2, a_d3, a_d4, a_d5, a_d6⟩)))
  | _ => none)
theorem ok_dput (args : List DV) (cs : List Prop) (r : DV) (h : (kn_dput FsDq0).2 args = some (cs, r)) (hc : allP cs True) : FnV Try.prog 34 args r ∧ closedL 0 args = true := by
  unfold kn_dput at h
  simp only at h
  split at h
  · cases h; exact ⟨v_dput _ ⟨_, _, _, _, _, _, _, _⟩ hc.1 hc.2.1, rfl⟩
  · cases h; exact ⟨FnP.nils (v_dput [] ⟨_, _, _, _, _, _, _, _⟩ hc.1 hc.2.1) ⟨.inr ⟨rfl, _, rfl⟩, ⟨.inl rfl, trivial⟩⟩, rfl⟩
  · cases h
set_option maxRecDepth 100000 in
theorem v_dGet (xs : List (List PD)) (a w : Int) (hp0 : FsDq0.rd xs a w) : FnD Try.prog 69 [.ref 0 0 0] [rdB 95 xs a w] (fun r st' => r = Attr.D ((FsDq0.get xs a w).1) ∧ st' = [rdB 95 xs (FsDq0.get xs a w).2.1 (FsDq0.get xs a w).2.2]) := by
  obtain ⟨GFsA, hFsA⟩ : ∃ F, F = FsA0 := ⟨_, rfl⟩
  obtain ⟨GFsR, hFsR⟩ : ∃ F, F = FsR0 := ⟨_, rfl⟩
  have hH : SoundK Try.prog [kn_rightA GFsA] := by subst hFsA hFsR; exact orK_ok ok_rightA noK_ok
  have hB : SoundB Try.prog [kb_pNum GFsR, kb_pwrong GFsR, kb_pFail GFsR] := by subst hFsA hFsR; exact orB_ok okb_pNum (orB_ok okb_pwrong (orB_ok okb_pFail noB_ok))
  refine FnD_cbv (T := fun _ => tabY [5003] []) (H := fun _ => [kn_rightA GFsA]) (tabY_ok _ _) hH follows_mixed Try.func69 rfl Try.ntmps69 (by simp) fun A X W hA hX hW => ?_
  cbv
  have l0 : A.cmp .lss 0 7 = true := by subst hA; rfl
  cbv at l0
  have l1 : A.cmp .lss 1 7 = true := by subst hA; rfl
  cbv at l1
  have l2 : A.cmp .lss 2 7 = true := by subst hA; rfl
  cbv at l2
  have l3 : A.cmp .lss 3 7 = true := by subst hA; rfl
  cbv at l3
  have l4 : A.cmp .lss 4 7 = true := by subst hA; rfl
  cbv at l4
  have l5 : A.cmp .lss 5 7 = true := by subst hA; rfl
  cbv at l5
  have l6 : A.cmp .lss 6 7 = true := by subst hA; rfl
  cbv at l6
  have l7 : A.cmp .lss 7 7 = false := by subst hA; rfl
  cbv at l7
  have b0 : A.bin .add .i64 0 1 = 1 := by subst hA; rfl
  cbv at b0
  have b1 : A.bin .add .i64 1 1 = 2 := by subst hA; rfl
  cbv at b1
  have b2 : A.bin .add .i64 2 1 = 3 := by subst hA; rfl
  cbv at b2
  have b3 : A.bin .add .i64 3 1 = 4 := by subst hA; rfl
  cbv at b3
  have b4 : A.bin .add .i64 4 1 = 5 := by subst hA; rfl
  cbv at b4
  have b5 : A.bin .add .i64 5 1 = 6 := by subst hA; rfl
  cbv at b5
  have b6 : A.bin .add .i64 6 1 = 7 := by subst hA; rfl
  cbv at b6
  have o0_0 : A.off 0 0 1 = 0 := by subst hA; rfl
  cbv at o0_0
  have o0_1 : A.off 0 1 1 = 1 := by subst hA; rfl
  cbv at o0_1
  have o0_2 : A.off 0 2 1 = 2 := by subst hA; rfl
  cbv at o0_2
  have o0_3 : A.off 0 3 1 = 3 := by subst hA; rfl
  cbv at o0_3
  have o0_4 : A.off 0 4 1 = 4 := by subst hA; rfl
  cbv at o0_4
  have o0_5 : A.off 0 5 1 = 5 := by subst hA; rfl
  cbv at o0_5
  have o0_6 : A.off 0 6 1 = 6 := by subst hA; rfl
  cbv at o0_6
  refine callB hX hB ?_
  cbv
  refine And.intro ?_ ?_
  rotate_left 1
  refine unrollL (T := fun _ => tabY [5003] []) (H := fun _ => [kn_rightA GFsA]) (tabY_ok _ _) hH follows_mixed hA hX 8 fun R hR => ?_
  cbv
  repeat' first
    | (simp only [l0, l1, l2, l3, l4, l5, l6, l7, b0, b1, b2, b3, b4, b5, b6, o0_0, o0_1, o0_2, o0_3, o0_4, o0_5, o0_6, decide_true]; cbv)
    | (refine part (fun h => ?_) (fun h => ?_) <;> try cbv)
    | (refine And.intro ?_ ?_)
    | ((with_reducible refine callB hX hB ?_) <;> cbv)
    | (refine hR _ _ _ ?_; cbv)
  all_goals try clear hR
  all_goals clear l0 l1 l2 l3 l4 l5 l6 l7 b0 b1 b2 b3 b4 b5 b6 o0_0 o0_1 o0_2 o0_3 o0_4 o0_5 o0_6 hH hB
  all_goals subst hA hX hW hFsA hFsR
  all_goals simp only [A0, nc, FsA0, FsR0, decide_eq_true_eq, decide_eq_false_iff_not, Bool.not_eq_true', Bool.not_eq_false'] at *
  all_goals have h0 := (num_rd hp0).1
  all_goals generalize e0 : numR xs a w = q at *
  all_goals obtain ⟨n0, a0, w0⟩ := q
  all_goals try simp only at *
  all_goals have h1 := (num_rd h0).1
  all_goals generalize e1 : numR xs a0 w0 = q at *
  all_goals obtain ⟨n1, a1, w1⟩ := q
  all_goals try simp only at *
  all_goals have h2 := (num_rd h1).1
  all_goals generalize e2 : numR xs a1 w1 = q at *
  all_goals obtain ⟨n2, a2, w2⟩ := q
  all_goals try simp only at *
  all_goals have h3 := (num_rd h2).1
  all_goals generalize e3 : numR xs a2 w2 = q at *
  all_goals obtain ⟨n3, a3, w3⟩ := q
  all_goals try simp only at *
  all_goals have h4 := (num_rd h3).1
  all_goals generalize e4 : numR xs a3 w3 = q at *
  all_goals obtain ⟨n4, a4, w4⟩ := q
  all_goals try simp only at *
  all_goals have h5 := (num_rd h4).1
  all_goals generalize e5 : numR xs a4 w4 = q at *
  all_goals obtain ⟨n5, a5, w5⟩ := q
  all_goals try simp only at *
  all_goals have h6 := (num_rd h5).1
  all_goals generalize e6 : numR xs a5 w5 = q at *
  all_goals obtain ⟨n6, a6, w6⟩ := q
  all_goals try simp only at *
  all_goals have h7 := (num_rd h6).1
  all_goals generalize e7 : numR xs a6 w6 = q at *
  all_goals obtain ⟨n7, a7, w7⟩ := q
  all_goals try simp only at *
  all_goals first
    | assumption
    | exact fail_rd ‹_›
    | (intros; first | assumption | trivial | (simp_all; done))
    | (exfalso; simp_all; done)
    | (refine ret_keep [0] rfl ⟨?_, ?_⟩ <;> (simp_all [FsDq0, pullD, pullL, keepSt, pullBox, getA, getN, failR, Attr.D, zeroA, intD, strD]; done))
def kb_dGet (F : FsDq) : FuncId × (List DV → Store → SV) := (69, fun args st => match args with
  | [.ref b ver o] => (match st[b]? with
    | some ⟨t, [.d (.slc 1 xs), .d (.sc (.int .i64 a)), .d (.sc (.int .i64 w))], false, v, true⟩ => (bif (ver == 0) && (o == 0) && (v == 0) && (t == 95) then some ([F.rd xs a w], Attr.D ((F.get xs a w).1), st.set b (rdB 95 xs (F.get xs a w).2.1 (F.get xs a w).2.2)) else none)
    | _ => none)
  | _ => none)
theorem okb_dGet (args : List DV) (st : Store) (cs : List Prop) (r : DV) (st' : Store) (h : (kb_dGet FsDq0).2 args st = some (cs, r, st')) (hc : allP cs True) (K : DV → Store → Prop) (hk : K r st') : FnD Try.prog 69 args st K := by
  unfold kb_dGet at h
  simp only at h
  split at h
  · split at h
    · rename_i hb
      simp only [cond_eq_ite, Bool.and_eq_true, beq_iff_eq, Option.ite_none_right_eq_some] at h
      obtain ⟨⟨⟨⟨rfl, rfl⟩, rfl⟩, rfl⟩, h⟩ := h
      cases h
      exact FnD.one _ (v_dGet _ _ _ hc.1) hb rfl rfl rfl rfl hk
    · cases h
  · cases h
end Go.Proofs.Ytbhapclaochcnaa
namespace Go.Proofs.Ytbhapclaochcnaa
open Go.RowKit
set_option linter.all false
set_option maxHeartbeats 4000000
structure Ballot where
  epoch : Int
  replica : Int
  deriving DecidableEq
def Ballot.D (x : Ballot) : DV := .agg [intD x.epoch, intD x.replica]
structure Cell where
  status : Int
  pe : Int
  pr : Int
  ve : Int
  vr : Int
  ckind : Int
  cclient : Int
  cseq : Int
  ckey : ByteArray
  cfin : ByteArray
  cold : ByteArray
  cval : ByteArray
  aseq : Int
  ad0 : Int
  ad1 : Int
  ad2 : Int
  ad3 : Int
  ad4 : Int
  ad5 : Int
  ad6 : Int
  same : Bool
  deriving DecidableEq
def Cell.D (x : Cell) : DV := .agg [intD x.status, intD x.pe, intD x.pr, intD x.ve, intD x.vr, intD x.ckind, intD x.cclient, intD x.cseq, strD x.ckey, strD x.cfin, strD x.cold, strD x.cval, intD x.aseq, intD x.ad0, intD x.ad1, intD x.ad2, intD x.ad3, intD x.ad4, intD x.ad5, intD x.ad6, boolD x.same]
structure Parts where
  inst : Bool
  ballot : Bool
  cmd : Bool
  attr : Bool
  cell : Bool
  deps : Bool
  data : Bool
  deriving DecidableEq
def Parts.D (x : Parts) : DV := .agg [boolD x.inst, boolD x.ballot, boolD x.cmd, boolD x.attr, boolD x.cell, boolD x.deps, boolD x.data]
structure Letter where
  lkind : Int
  src : Int
  dst : Int
  irep : Int
  islot : Int
  be : Int
  br : Int
  mkind : Int
  mclient : Int
  mseq : Int
  mkey : ByteArray
  mfin : ByteArray
  mold : ByteArray
  mval : ByteArray
  tseq : Int
  td0 : Int
  td1 : Int
  td2 : Int
  td3 : Int
  td4 : Int
  td5 : Int
  td6 : Int
  lstatus : Int
  lpe : Int
  lpr : Int
  lve : Int
  lvr : Int
  lckind : Int
  lcclient : Int
  lcseq : Int
  lckey : ByteArray
  lcfin : ByteArray
  lcold : ByteArray
  lcval : ByteArray
  laseq : Int
  lad0 : Int
  lad1 : Int
  lad2 : Int
  lad3 : Int
  lad4 : Int
  lad5 : Int
  lad6 : Int
  lsame : Bool
  fd0 : Int
  fd1 : Int
  fd2 : Int
  fd3 : Int
  fd4 : Int
  fd5 : Int
  fd6 : Int
  data : ByteArray
  deriving DecidableEq
def Letter.D (x : Letter) : DV := .agg ((intD x.lkind) :: (intD x.src) :: (intD x.dst) :: (intD x.irep) :: (intD x.islot) :: (intD x.be) :: (intD x.br) :: (intD x.mkind) :: (intD x.mclient) :: (intD x.mseq) :: (strD x.mkey) :: (strD x.mfin) :: (strD x.mold) :: (strD x.mval) :: (intD x.tseq) :: (intD x.td0) :: (intD x.td1) :: (intD x.td2) :: (intD x.td3) :: (intD x.td4) :: (intD x.td5) :: (intD x.td6) :: (intD x.lstatus) :: (intD x.lpe) :: (intD x.lpr) :: (intD x.lve) :: (intD x.lvr) :: (intD x.lckind) :: (intD x.lcclient) :: (intD x.lcseq) :: (strD x.lckey) :: (strD x.lcfin) :: (strD x.lcold) :: (strD x.lcval) :: (intD x.laseq) :: (intD x.lad0) :: (intD x.lad1) :: (intD x.lad2) :: (intD x.lad3) :: (intD x.lad4) :: (intD x.lad5) :: (intD x.lad6) :: (boolD x.lsame) :: (intD x.fd0) :: (intD x.fd1) :: (intD x.fd2) :: (intD x.fd3) :: (intD x.fd4) :: (intD x.fd5) :: (intD x.fd6) :: (strD x.data) :: [])
def Cell.cmd (c : Cell) : Cmd := ⟨c.ckind, c.cclient, c.cseq, c.ckey, c.cfin, c.cold, c.cval⟩
def Cell.attr (c : Cell) : Attr := ⟨c.aseq, c.ad0, c.ad1, c.ad2, c.ad3, c.ad4, c.ad5, c.ad6⟩
def Cell.prom (c : Cell) : Ballot := ⟨c.pe, c.pr⟩
def Cell.voted (c : Cell) : Ballot := ⟨c.ve, c.vr⟩
def Letter.cmd (m : Letter) : Cmd := ⟨m.mkind, m.mclient, m.mseq, m.mkey, m.mfin, m.mold, m.mval⟩
def Letter.attr (m : Letter) : Attr := ⟨m.tseq, m.td0, m.td1, m.td2, m.td3, m.td4, m.td5, m.td6⟩
def Letter.inst (m : Letter) : Inst := ⟨m.irep, m.islot⟩
def Letter.ballot (m : Letter) : Ballot := ⟨m.be, m.br⟩
def Letter.cell (m : Letter) : Cell := ⟨m.lstatus, m.lpe, m.lpr, m.lve, m.lvr, m.lckind, m.lcclient, m.lcseq, m.lckey, m.lcfin, m.lcold, m.lcval, m.laseq, m.lad0, m.lad1, m.lad2, m.lad3, m.lad4, m.lad5, m.lad6, m.lsame⟩
def Letter.deps (m : Letter) : Deps := ⟨m.fd0, m.fd1, m.fd2, m.fd3, m.fd4, m.fd5, m.fd6⟩
def rightB (b : Ballot) : Bool := decide (0 ≤ b.epoch) && decide (b.epoch ≤ 1073741824) && decide (0 ≤ b.replica) && decide (b.replica < 7)
def belowB (a b : Ballot) : Bool := decide (a.epoch < b.epoch) || (decide (a.epoch = b.epoch) && decide (a.replica < b.replica))
/-- A cell with nothing but what is promised. -/
def promC (s e r : Int) : Cell := ⟨s, e, r, 0, 0, 0, 0, 0, none8, none8, none8, none8, 0, 0, 0, 0, 0, 0, 0, 0, false⟩
def cellOnly (c : Cell) : Bool := decide (c.status = 0) && (decide (c.pe = c.pe) && (decide (c.pr = c.pr) && (decide (c.ve = 0) && (decide (c.vr = 0) && (decide (c.ckind = 0) && (decide (c.cclient = 0) && (decide (c.cseq = 0) && (decide (c.ckey = none8) && (decide (c.cfin = none8) && (decide (c.cold = none8) && (decide (c.cval = none8) && (decide (c.aseq = 0) && (decide (c.ad0 = 0) && (decide (c.ad1 = 0) && (decide (c.ad2 = 0) && (decide (c.ad3 = 0) && (decide (c.ad4 = 0) && (decide (c.ad5 = 0) && (decide (c.ad6 = 0) && (decide (c.same = false) && true))))))))))))))))))))
def rightCell (c : Cell) : Bool :=
  bif (bif (bif (bif (bif decide (c.status < 0) then true else decide (3 < c.status)) then true else !rightB c.prom) then true else !rightB c.voted) then true else belowB c.prom c.voted) then false else
  bif (bif (bif c.same then (bif !decide (c.status = 1) then true else !(decide (c.ve = 0) && (decide (c.vr = 0) && true))) else false) then true else (bif decide (c.status = 0) then !cellOnly c else false)) then false else
  bif rightC c.cmd then rightA c.attr else false
def namedP (k : Int) : Parts × Bool :=
  if k = 1 ∨ k = 3 then (⟨true, true, true, true, false, false, false⟩, true) else
  if k = 2 then (⟨true, true, false, true, false, false, false⟩, true) else
  if k = 4 ∨ k = 6 ∨ k = 8 then (⟨true, true, false, false, false, false, false⟩, true) else
  if k = 5 then (⟨true, false, true, true, false, false, false⟩, true) else
  if k = 7 then (⟨true, true, false, false, true, false, false⟩, true) else
  if k = 9 ∨ k = 11 then (⟨false, false, false, false, false, true, false⟩, true) else
  if k = 10 then (⟨false, false, false, false, false, false, true⟩, true) else
  (⟨false, false, false, false, false, false, false⟩, false)
def placeR (r : Int) : Bool := decide (0 ≤ r) && decide (r < 7)
structure FsL1 where
  rightB : Ballot → Bool
  below : Ballot → Ballot → Bool
  rightCell : Cell → Bool
  named : Int → Parts × Bool
  place : Int → Bool
def FsL10 : FsL1 where
  rightB := rightB
  below := belowB
  rightCell := rightCell
  named := namedP
  place := placeR
set_option maxRecDepth 100000 in
theorem v_rightB (b : Ballot) : FnV Try.prog 47 [Ballot.D b] (boolD ((rightB b))) := by
  obtain ⟨b_epoch, b_replica⟩ := b
  refine FnD_cbv (T := fun _ => tabY [] []) (H := fun _ => []) (tabY_ok _ _) noK_ok follows_mixed Try.func47 rfl Try.ntmps47 (by simp) fun A X W hA hX hW => ?_
  cbv
  repeat' first
    | (refine part (fun h => ?_) (fun h => ?_) <;> try cbv)
    | (refine And.intro ?_ ?_)
  all_goals subst hA hX hW
  all_goals try (show Region.lexB _ _ = true; kernel_rfl)
  all_goals try (show turnsB _ = true; kernel_rfl)
  all_goals simp only [A0, FsL10, decide_eq_true_eq, decide_eq_false_iff_not, Bool.not_eq_true', Bool.not_eq_false'] at *
  all_goals first
    | (refine ret_v ?_ rfl
       first
         | rfl
         | (simp_all [rightB, Ballot.D, boolD, intD, strD]; done)
         | (simp_all [rightB, Ballot.D, boolD, intD, strD]; rfl)
         | (simp only [rightB, Ballot.D, boolD, intD, strD] at *; congr 3; grind)
         | (simp only [rightB, Ballot.D, boolD, intD, strD] at *; grind))
    | (intros; simp_all [bytes1, maxLen]; done)
    | (intros; simp only [bytes1, maxLen] at *; omega)
    | grind
def kn_rightB (F : FsL1) : FuncId × (List DV → RV) := (47, fun args => match args with
  | [.agg [.d (.sc (.int .i64 b_epoch)), .d (.sc (.int .i64 b_replica))]] => some ([], boolD ((F.rightB ⟨b_epoch, b_replica⟩)))
  | _ => none)
theorem ok_rightB (args : List DV) (cs : List Prop) (r : DV) (h : (kn_rightB FsL10).2 args = some (cs, r)) (hc : allP cs True) : FnV Try.prog 47 args r ∧ closedL 0 args = true := by
  unfold kn_rightB at h
  simp only at h
  split at h
  · cases h; exact ⟨v_rightB ⟨_, _⟩, rfl⟩
  · cases h
set_option maxRecDepth 100000 in
theorem v_below (a : Ballot) (b : Ballot) : FnV Try.prog 48 [Ballot.D a, Ballot.D b] (boolD ((belowB a b))) := by
  obtain ⟨a_epoch, a_replica⟩ := a
  obtain ⟨b_epoch, b_replica⟩ := b
  refine FnD_cbv (T := fun _ => tabY [] []) (H := fun _ => []) (tabY_ok _ _) noK_ok follows_mixed Try.func48 rfl Try.ntmps48 (by simp) fun A X W hA hX hW => ?_
  cbv
  repeat' first
    | (refine part (fun h => ?_) (fun h => ?_) <;> try cbv)
    | (refine And.intro ?_ ?_)
  all_goals subst hA hX hW
  all_goals try (show Region.lexB _ _ = true; kernel_rfl)
  all_goals try (show turnsB _ = true; kernel_rfl)
  all_goals simp only [A0, FsL10, decide_eq_true_eq, decide_eq_false_iff_not, Bool.not_eq_true', Bool.not_eq_false'] at *
  all_goals first
    | (refine ret_v ?_ rfl
       first
         | rfl
         | (simp_all [belowB, Ballot.D, boolD, intD, strD]; done)
         | (simp_all [belowB, Ballot.D, boolD, intD, strD]; rfl)
         | (simp only [belowB, Ballot.D, boolD, intD, strD] at *; congr 3; grind)
         | (simp only [belowB, Ballot.D, boolD, intD, strD] at *; grind))
    | (intros; simp_all [bytes1, maxLen]; done)
    | (intros; simp only [bytes1, maxLen] at *; omega)
    | grind
def kn_below (F : FsL1) : FuncId × (List DV → RV) := (48, fun args => match args with
  | [.agg [.d (.sc (.int .i64 a_epoch)), .d (.sc (.int .i64 a_replica))], .agg [.d (.sc (.int .i64 b_epoch)), .d (.sc (.int .i64 b_replica))]] => some ([], boolD ((F.below ⟨a_epoch, a_replica⟩ ⟨b_epoch, b_replica⟩)))
  | _ => none)
theorem ok_below (args : List DV) (cs : List Prop) (r : DV) (h : (kn_below FsL10).2 args = some (cs, r)) (hc : allP cs True) : FnV Try.prog 48 args r ∧ closedL 0 args = true := by
  unfold kn_below at h
  simp only at h
  split at h
  · cases h; exact ⟨v_below ⟨_, _⟩ ⟨_, _⟩, rfl⟩
  · cases h
set_option maxRecDepth 100000 in
theorem v_place (r : Int) : FnV Try.prog 51 [intD r] (boolD ((placeR r))) := by
  refine FnD_cbv (T := fun _ => tabY [] []) (H := fun _ => []) (tabY_ok _ _) noK_ok follows_mixed Try.func51 rfl Try.ntmps51 (by simp) fun A X W hA hX hW => ?_
  cbv
  repeat' first
    | (refine part (fun h => ?_) (fun h => ?_) <;> try cbv)
    | (refine And.intro ?_ ?_)
  all_goals subst hA hX hW
  all_goals try (show Region.lexB _ _ = true; kernel_rfl)
  all_goals try (show turnsB _ = true; kernel_rfl)
  all_goals simp only [A0, FsL10, decide_eq_true_eq, decide_eq_false_iff_not, Bool.not_eq_true', Bool.not_eq_false'] at *
  all_goals first
    | (refine ret_v ?_ rfl
       first
         | rfl
         | (simp_all [placeR, boolD, intD, strD]; done)
         | (simp_all [placeR, boolD, intD, strD]; rfl)
         | (simp only [placeR, boolD, intD, strD] at *; congr 3; grind)
         | (simp only [placeR, boolD, intD, strD] at *; grind))
    | (intros; simp_all [bytes1, maxLen]; done)
    | (intros; simp only [bytes1, maxLen] at *; omega)
    | grind
def kn_place (F : FsL1) : FuncId × (List DV → RV) := (51, fun args => match args with
  | [.d (.sc (.int .i64 r))] => some ([], boolD ((F.place r)))
  | _ => none)
theorem ok_place (args : List DV) (cs : List Prop) (r : DV) (h : (kn_place FsL10).2 args = some (cs, r)) (hc : allP cs True) : FnV Try.prog 51 args r ∧ closedL 0 args = true := by
  unfold kn_place at h
  simp only at h
  split at h
  · cases h; exact ⟨v_place _, rfl⟩
  · cases h
set_option maxRecDepth 100000 in
theorem v_named (k : Int) : FnV Try.prog 30 [intD k] (.tup [Parts.D (((namedP k)).1), boolD (((namedP k)).2)]) := by
  refine FnD_cbv (T := fun _ => tabY [] []) (H := fun _ => []) (tabY_ok _ _) noK_ok follows_mixed Try.func30 rfl Try.ntmps30 (by simp) fun A X W hA hX hW => ?_
  cbv
  repeat' first
    | (refine part (fun h => ?_) (fun h => ?_) <;> try cbv)
    | (refine And.intro ?_ ?_)
  all_goals subst hA hX hW
  all_goals try (show Region.lexB _ _ = true; kernel_rfl)
  all_goals try (show turnsB _ = true; kernel_rfl)
  all_goals simp only [A0, FsL10, decide_eq_true_eq, decide_eq_false_iff_not, Bool.not_eq_true', Bool.not_eq_false'] at *
  all_goals first
    | (refine ret_v ?_ rfl
       first
         | rfl
         | (simp_all [namedP, boolD, intD, strD]; done)
         | (simp_all [namedP, boolD, intD, strD]; rfl)
         | (simp only [namedP, boolD, intD, strD] at *; congr 3; grind)
         | (simp only [namedP, boolD, intD, strD] at *; grind))
    | (intros; simp_all [bytes1, maxLen]; done)
    | (intros; simp only [bytes1, maxLen] at *; omega)
    | grind
def kn_named (F : FsL1) : FuncId × (List DV → RV) := (30, fun args => match args with
  | [.d (.sc (.int .i64 k))] => some ([], .tup [Parts.D (((F.named k)).1), boolD (((F.named k)).2)])
  | _ => none)
theorem ok_named (args : List DV) (cs : List Prop) (r : DV) (h : (kn_named FsL10).2 args = some (cs, r)) (hc : allP cs True) : FnV Try.prog 30 args r ∧ closedL 0 args = true := by
  unfold kn_named at h
  simp only at h
  split at h
  · cases h; exact ⟨v_named _, rfl⟩
  · cases h
set_option maxRecDepth 100000 in
theorem v_rightCell (c : Cell) : FnV Try.prog 15 [Cell.D c] (boolD ((rightCell c))) := by
  obtain ⟨c_status, c_pe, c_pr, c_ve, c_vr, c_ckind, c_cclient, c_cseq, c_ckey, c_cfin, c_cold, c_cval, c_aseq, c_ad0, c_ad1, c_ad2, c_ad3, c_ad4, c_ad5, c_ad6, c_same⟩ := c
  obtain ⟨F, hF⟩ : ∃ F, F = FsL10 := ⟨_, rfl⟩
  obtain ⟨GFs5, hGFs5⟩ : ∃ F, F = Fs50 := ⟨_, rfl⟩
  obtain ⟨GFsA, hGFsA⟩ : ∃ F, F = FsA0 := ⟨_, rfl⟩
  have hH : SoundK Try.prog [kn_rightB F, kn_below F, kn_right GFs5, kn_rightA GFsA] := by subst hF hGFs5 hGFsA; exact orK_ok ok_rightB (orK_ok ok_below (orK_ok ok_right (orK_ok ok_rightA noK_ok)))
  refine FnD_cbv (T := fun _ => tabY [] []) (H := fun _ => [kn_rightB F, kn_below F, kn_right GFs5, kn_rightA GFsA]) (tabY_ok _ _) hH follows_mixed Try.func15 rfl Try.ntmps15 (by simp) fun A X W hA hX hW => ?_
  cbv
  repeat' first
    | (refine part (fun h => ?_) (fun h => ?_) <;> try cbv)
    | (refine And.intro ?_ ?_)
  all_goals subst hA hX hW hF hGFs5 hGFsA
  all_goals clear hH
  all_goals first
    | (show Region.lexB _ _ = true; kernel_rfl)
    | (simp only [A0]; intros; first | assumption | trivial | (simp_all; done))
    | (simp only [A0]; intro hq; simpa using hq)
    | skip
  all_goals try simp only [A0, nc, FsL10, Fs50, FsA0] at *
  all_goals first
    | (refine ret_v ?_ rfl; simp only [rightCell, cellOnly, Cell.prom, Cell.voted, Cell.cmd, Cell.attr, boolD, *]; rfl)
def kn_rightCell (F : FsL1) : FuncId × (List DV → RV) := (15, fun args => match args with
  | [.agg [.d (.sc (.int .i64 c_status)), .d (.sc (.int .i64 c_pe)), .d (.sc (.int .i64 c_pr)), .d (.sc (.int .i64 c_ve)), .d (.sc (.int .i64 c_vr)), .d (.sc (.int .i64 c_ckind)), .d (.sc (.int .i64 c_cclient)), .d (.sc (.int .i64 c_cseq)), .d (.sc (.string c_ckey)), .d (.sc (.string c_cfin)), .d (.sc (.string c_cold)), .d (.sc (.string c_cval)), .d (.sc (.int .i64 c_aseq)), .d (.sc (.int .i64 c_ad0)), .d (.sc (.int .i64 c_ad1)), .d (.sc (.int .i64 c_ad2)), .d (.sc (.int .i64 c_ad3)), .d (.sc (.int .i64 c_ad4)), .d (.sc (.int .i64 c_ad5)), .d (.sc (.int .i64 c_ad6)), .d (.sc (.bool c_same))]] => some ([], boolD ((F.rightCell ⟨c_status, c_pe, c_pr, c_ve, c_vr, c_ckind, c_cclient, c_cseq, c_ckey, c_cfin, c_cold, c_cval, c_aseq, c_ad0, c_ad1, c_ad2, c_ad3, c_ad4, c_ad5, c_ad6, c_same⟩)))
  | _ => none)
theorem ok_rightCell (args : List DV) (cs : List Prop) (r : DV) (h : (kn_rightCell FsL10).2 args = some (cs, r)) (hc : allP cs True) : FnV Try.prog 15 args r ∧ closedL 0 args = true := by
  unfold kn_rightCell at h
  simp only at h
  split at h
  · cases h; exact ⟨v_rightCell ⟨_, _, _, _, _, _, _, _, _, _, _, _, _, _, _, _, _, _, _, _, _⟩, rfl⟩
  · cases h
def bareL (m : Letter) (p : Parts) : Letter := ⟨m.lkind, m.src, m.dst, (bif p.inst then m.irep else 0), (bif p.inst then m.islot else 0), (bif p.ballot then m.be else 0), (bif p.ballot then m.br else 0), (bif p.cmd then m.mkind else 0), (bif p.cmd then m.mclient else 0), (bif p.cmd then m.mseq else 0), (bif p.cmd then m.mkey else none8), (bif p.cmd then m.mfin else none8), (bif p.cmd then m.mold else none8), (bif p.cmd then m.mval else none8), (bif p.attr then m.tseq else 0), (bif p.attr then m.td0 else 0), (bif p.attr then m.td1 else 0), (bif p.attr then m.td2 else 0), (bif p.attr then m.td3 else 0), (bif p.attr then m.td4 else 0), (bif p.attr then m.td5 else 0), (bif p.attr then m.td6 else 0), (bif p.cell then m.lstatus else 0), (bif p.cell then m.lpe else 0), (bif p.cell then m.lpr else 0), (bif p.cell then m.lve else 0), (bif p.cell then m.lvr else 0), (bif p.cell then m.lckind else 0), (bif p.cell then m.lcclient else 0), (bif p.cell then m.lcseq else 0), (bif p.cell then m.lckey else none8), (bif p.cell then m.lcfin else none8), (bif p.cell then m.lcold else none8), (bif p.cell then m.lcval else none8), (bif p.cell then m.laseq else 0), (bif p.cell then m.lad0 else 0), (bif p.cell then m.lad1 else 0), (bif p.cell then m.lad2 else 0), (bif p.cell then m.lad3 else 0), (bif p.cell then m.lad4 else 0), (bif p.cell then m.lad5 else 0), (bif p.cell then m.lad6 else 0), (bif p.cell then m.lsame else false), (bif p.deps then m.fd0 else 0), (bif p.deps then m.fd1 else 0), (bif p.deps then m.fd2 else 0), (bif p.deps then m.fd3 else 0), (bif p.deps then m.fd4 else 0), (bif p.deps then m.fd5 else 0), (bif p.deps then m.fd6 else 0), (bif p.data then m.data else none8)⟩
def eqLet (a b : Letter) : Bool := decide (a.lkind = b.lkind) && (decide (a.src = b.src) && (decide (a.dst = b.dst) && (decide (a.irep = b.irep) && (decide (a.islot = b.islot) && (decide (a.be = b.be) && (decide (a.br = b.br) && (decide (a.mkind = b.mkind) && (decide (a.mclient = b.mclient) && (decide (a.mseq = b.mseq) && (decide (a.mkey = b.mkey) && (decide (a.mfin = b.mfin) && (decide (a.mold = b.mold) && (decide (a.mval = b.mval) && (decide (a.tseq = b.tseq) && (decide (a.td0 = b.td0) && (decide (a.td1 = b.td1) && (decide (a.td2 = b.td2) && (decide (a.td3 = b.td3) && (decide (a.td4 = b.td4) && (decide (a.td5 = b.td5) && (decide (a.td6 = b.td6) && (decide (a.lstatus = b.lstatus) && (decide (a.lpe = b.lpe) && (decide (a.lpr = b.lpr) && (decide (a.lve = b.lve) && (decide (a.lvr = b.lvr) && (decide (a.lckind = b.lckind) && (decide (a.lcclient = b.lcclient) && (decide (a.lcseq = b.lcseq) && (decide (a.lckey = b.lckey) && (decide (a.lcfin = b.lcfin) && (decide (a.lcold = b.lcold) && (decide (a.lcval = b.lcval) && (decide (a.laseq = b.laseq) && (decide (a.lad0 = b.lad0) && (decide (a.lad1 = b.lad1) && (decide (a.lad2 = b.lad2) && (decide (a.lad3 = b.lad3) && (decide (a.lad4 = b.lad4) && (decide (a.lad5 = b.lad5) && (decide (a.lad6 = b.lad6) && (decide (a.lsame = b.lsame) && (decide (a.fd0 = b.fd0) && (decide (a.fd1 = b.fd1) && (decide (a.fd2 = b.fd2) && (decide (a.fd3 = b.fd3) && (decide (a.fd4 = b.fd4) && (decide (a.fd5 = b.fd5) && (decide (a.fd6 = b.fd6) && (decide (a.data = b.data) && true))))))))))))))))))))))))))))))))))))))))))))))))))
def isParts (p : Parts) : Prop := p = ⟨true, true, true, true, false, false, false⟩ ∨ p = ⟨true, true, false, true, false, false, false⟩ ∨ p = ⟨true, true, false, false, false, false, false⟩ ∨ p = ⟨true, false, true, true, false, false, false⟩ ∨ p = ⟨true, true, false, false, true, false, false⟩ ∨ p = ⟨false, false, false, false, false, true, false⟩ ∨ p = ⟨false, false, false, false, false, false, true⟩ ∨ p = ⟨false, false, false, false, false, false, false⟩
theorem named_parts (k : Int) : isParts (namedP k).1 := by
  unfold namedP isParts
  repeat' split
  all_goals simp
def badL1 (m : Letter) : Bool := bif (bif (bif (bif !(namedP m.lkind).2 then true else !placeR m.src) then true else !placeR m.dst) then true else decide (m.src = m.dst)) then true else !eqLet m (bareL m (namedP m.lkind).1)
def badL2 (m : Letter) : Bool := bif (bif (bif (bif (bif (namedP m.lkind).1.inst then !rightI m.inst else false) then true else !rightB m.ballot) then true else !rightC m.cmd) then true else !rightA m.attr) then true else !rightCell m.cell
def lastL (m : Letter) : Bool := bif rightA ⟨0, m.fd0, m.fd1, m.fd2, m.fd3, m.fd4, m.fd5, m.fd6⟩ then decide ((m.data.size : Int) ≤ 16384) else false
def rightL (m : Letter) : Bool := bif badL1 m then false else bif badL2 m then false else lastL m
def dl_i : List DV → Option (Int × List DV)
  | .d (.sc (.int .i64 n)) :: r => some (n, r)
  | _ => none
def dl_s : List DV → Option (ByteArray × List DV)
  | .d (.sc (.string n)) :: r => some (n, r)
  | _ => none
def dl_b : List DV → Option (Bool × List DV)
  | .d (.sc (.bool n)) :: r => some (n, r)
  | _ => none
theorem dl_i_eq {cs : List DV} {n : Int} {r : List DV} (h : dl_i cs = some (n, r)) : cs = .d (.sc (.int .i64 n)) :: r := by
  unfold dl_i at h
  split at h
  · cases h; rfl
  · cases h
theorem dl_s_eq {cs : List DV} {n : ByteArray} {r : List DV} (h : dl_s cs = some (n, r)) : cs = .d (.sc (.string n)) :: r := by
  unfold dl_s at h
  split at h
  · cases h; rfl
  · cases h
theorem dl_b_eq {cs : List DV} {n : Bool} {r : List DV} (h : dl_b cs = some (n, r)) : cs = .d (.sc (.bool n)) :: r := by
  unfold dl_b at h
  split at h
  · cases h; rfl
  · cases h
def decLetter (r0 : List DV) : Option Letter := (dl_i r0).bind fun q0 => (fun x0 r1 => (dl_i r1).bind fun q1 => (fun x1 r2 => (dl_i r2).bind fun q2 => (fun x2 r3 => (dl_i r3).bind fun q3 => (fun x3 r4 => (dl_i r4).bind fun q4 => (fun x4 r5 => (dl_i r5).bind fun q5 => (fun x5 r6 => (dl_i r6).bind fun q6 => (fun x6 r7 => (dl_i r7).bind fun q7 => (fun x7 r8 => (dl_i r8).bind fun q8 => (fun x8 r9 => (dl_i r9).bind fun q9 => (fun x9 r10 => (dl_s r10).bind fun q10 => (fun x10 r11 => (dl_s r11).bind fun q11 => (fun x11 r12 => (dl_s r12).bind fun q12 => (fun x12 r13 => (dl_s r13).bind fun q13 => (fun x13 r14 => (dl_i r14).bind fun q14 => (fun x14 r15 => (dl_i r15).bind fun q15 => (fun x15 r16 => (dl_i r16).bind fun q16 => (fun x16 r17 => (dl_i r17).bind fun q17 => (fun x17 r18 => (dl_i r18).bind fun q18 => (fun x18 r19 => (dl_i r19).bind fun q19 => (fun x19 r20 => (dl_i r20).bind fun q20 => (fun x20 r21 => (dl_i r21).bind fun q21 => (fun x21 r22 => (dl_i r22).bind fun q22 => (fun x22 r23 => (dl_i r23).bind fun q23 => (fun x23 r24 => (dl_i r24).bind fun q24 => (fun x24 r25 => (dl_i r25).bind fun q25 => (fun x25 r26 => (dl_i r26).bind fun q26 => (fun x26 r27 => (dl_i r27).bind fun q27 => (fun x27 r28 => (dl_i r28).bind fun q28 => (fun x28 r29 => (dl_i r29).bind fun q29 => (fun x29 r30 => (dl_s r30).bind fun q30 => (fun x30 r31 => (dl_s r31).bind fun q31 => (fun x31 r32 => (dl_s r32).bind fun q32 => (fun x32 r33 => (dl_s r33).bind fun q33 => (fun x33 r34 => (dl_i r34).bind fun q34 => (fun x34 r35 => (dl_i r35).bind fun q35 => (fun x35 r36 => (dl_i r36).bind fun q36 => (fun x36 r37 => (dl_i r37).bind fun q37 => (fun x37 r38 => (dl_i r38).bind fun q38 => (fun x38 r39 => (dl_i r39).bind fun q39 => (fun x39 r40 => (dl_i r40).bind fun q40 => (fun x40 r41 => (dl_i r41).bind fun q41 => (fun x41 r42 => (dl_b r42).bind fun q42 => (fun x42 r43 => (dl_i r43).bind fun q43 => (fun x43 r44 => (dl_i r44).bind fun q44 => (fun x44 r45 => (dl_i r45).bind fun q45 => (fun x45 r46 => (dl_i r46).bind fun q46 => (fun x46 r47 => (dl_i r47).bind fun q47 => (fun x47 r48 => (dl_i r48).bind fun q48 => (fun x48 r49 => (dl_i r49).bind fun q49 => (fun x49 r50 => (dl_s r50).bind fun q50 => (fun x50 r51 => (match r51 with | [] => some ⟨x0, x1, x2, x3, x4, x5, x6, x7, x8, x9, x10, x11, x12, x13, x14, x15, x16, x17, x18, x19, x20, x21, x22, x23, x24, x25, x26, x27, x28, x29, x30, x31, x32, x33, x34, x35, x36, x37, x38, x39, x40, x41, x42, x43, x44, x45, x46, x47, x48, x49, x50⟩ | _ :: _ => none)) q50.1 q50.2) q49.1 q49.2) q48.1 q48.2) q47.1 q47.2) q46.1 q46.2) q45.1 q45.2) q44.1 q44.2) q43.1 q43.2) q42.1 q42.2) q41.1 q41.2) q40.1 q40.2) q39.1 q39.2) q38.1 q38.2) q37.1 q37.2) q36.1 q36.2) q35.1 q35.2) q34.1 q34.2) q33.1 q33.2) q32.1 q32.2) q31.1 q31.2) q30.1 q30.2) q29.1 q29.2) q28.1 q28.2) q27.1 q27.2) q26.1 q26.2) q25.1 q25.2) q24.1 q24.2) q23.1 q23.2) q22.1 q22.2) q21.1 q21.2) q20.1 q20.2) q19.1 q19.2) q18.1 q18.2) q17.1 q17.2) q16.1 q16.2) q15.1 q15.2) q14.1 q14.2) q13.1 q13.2) q12.1 q12.2) q11.1 q11.2) q10.1 q10.2) q9.1 q9.2) q8.1 q8.2) q7.1 q7.2) q6.1 q6.2) q5.1 q5.2) q4.1 q4.2) q3.1 q3.2) q2.1 q2.2) q1.1 q1.2) q0.1 q0.2
set_option maxRecDepth 100000 in
theorem decLetter_eq {r0 : List DV} {m : Letter} (h : decLetter r0 = some m) : DV.agg r0 = m.D := by
  unfold decLetter at h
  rw [Option.bind_eq_some_iff] at h
  obtain ⟨⟨x0, r1⟩, h0, h⟩ := h
  rw [Option.bind_eq_some_iff] at h
  obtain ⟨⟨x1, r2⟩, h1, h⟩ := h
  rw [Option.bind_eq_some_iff] at h
  obtain ⟨⟨x2, r3⟩, h2, h⟩ := h
  rw [Option.bind_eq_some_iff] at h
  obtain ⟨⟨x3, r4⟩, h3, h⟩ := h
  rw [Option.bind_eq_some_iff] at h
  obtain ⟨⟨x4, r5⟩, h4, h⟩ := h
  rw [Option.bind_eq_some_iff] at h
  obtain ⟨⟨x5, r6⟩, h5, h⟩ := h
  rw [Option.bind_eq_some_iff] at h
  obtain ⟨⟨x6, r7⟩, h6, h⟩ := h
  rw [Option.bind_eq_some_iff] at h
  obtain ⟨⟨x7, r8⟩, h7, h⟩ := h
  rw [Option.bind_eq_some_iff] at h
  obtain ⟨⟨x8, r9⟩, h8, h⟩ := h
  rw [Option.bind_eq_some_iff] at h
  obtain ⟨⟨x9, r10⟩, h9, h⟩ := h
  rw [Option.bind_eq_some_iff] at h
  obtain ⟨⟨x10, r11⟩, h10, h⟩ := h
  rw [Option.bind_eq_some_iff] at h
  obtain ⟨⟨x11, r12⟩, h11, h⟩ := h
  rw [Option.bind_eq_some_iff] at h
  obtain ⟨⟨x12, r13⟩, h12, h⟩ := h
  rw [Option.bind_eq_some_iff] at h
  obtain ⟨⟨x13, r14⟩, h13, h⟩ := h
  rw [Option.bind_eq_some_iff] at h
  obtain ⟨⟨x14, r15⟩, h14, h⟩ := h
  rw [Option.bind_eq_some_iff] at h
  obtain ⟨⟨x15, r16⟩, h15, h⟩ := h
  rw [Option.bind_eq_some_iff] at h
  obtain ⟨⟨x16, r17⟩, h16, h⟩ := h
  rw [Option.bind_eq_some_iff] at h
  obtain ⟨⟨x17, r18⟩, h17, h⟩ := h
  rw [Option.bind_eq_some_iff] at h
  obtain ⟨⟨x18, r19⟩, h18, h⟩ := h
  rw [Option.bind_eq_some_iff] at h
  obtain ⟨⟨x19, r20⟩, h19, h⟩ := h
  rw [Option.bind_eq_some_iff] at h
  obtain ⟨⟨x20, r21⟩, h20, h⟩ := h
  rw [Option.bind_eq_some_iff] at h
  obtain ⟨⟨x21, r22⟩, h21, h⟩ := h
  rw [Option.bind_eq_some_iff] at h
  obtain ⟨⟨x22, r23⟩, h22, h⟩ := h
  rw [Option.bind_eq_some_iff] at h
  obtain ⟨⟨x23, r24⟩, h23, h⟩ := h
  rw [Option.bind_eq_some_iff] at h
  obtain ⟨⟨x24, r25⟩, h24, h⟩ := h
  rw [Option.bind_eq_some_iff] at h
  obtain ⟨⟨x25, r26⟩, h25, h⟩ := h
  rw [Option.bind_eq_some_iff] at h
  obtain ⟨⟨x26, r27⟩, h26, h⟩ := h
  rw [Option.bind_eq_some_iff] at h
  obtain ⟨⟨x27, r28⟩, h27, h⟩ := h
  rw [Option.bind_eq_some_iff] at h
  obtain ⟨⟨x28, r29⟩, h28, h⟩ := h
  rw [Option.bind_eq_some_iff] at h
  obtain ⟨⟨x29, r30⟩, h29, h⟩ := h
  rw [Option.bind_eq_some_iff] at h
  obtain ⟨⟨x30, r31⟩, h30, h⟩ := h
  rw [Option.bind_eq_some_iff] at h
  obtain ⟨⟨x31, r32⟩, h31, h⟩ := h
  rw [Option.bind_eq_some_iff] at h
  obtain ⟨⟨x32, r33⟩, h32, h⟩ := h
  rw [Option.bind_eq_some_iff] at h
  obtain ⟨⟨x33, r34⟩, h33, h⟩ := h
  rw [Option.bind_eq_some_iff] at h
  obtain ⟨⟨x34, r35⟩, h34, h⟩ := h
  rw [Option.bind_eq_some_iff] at h
  obtain ⟨⟨x35, r36⟩, h35, h⟩ := h
  rw [Option.bind_eq_some_iff] at h
  obtain ⟨⟨x36, r37⟩, h36, h⟩ := h
  rw [Option.bind_eq_some_iff] at h
  obtain ⟨⟨x37, r38⟩, h37, h⟩ := h
  rw [Option.bind_eq_some_iff] at h
  obtain ⟨⟨x38, r39⟩, h38, h⟩ := h
  rw [Option.bind_eq_some_iff] at h
  obtain ⟨⟨x39, r40⟩, h39, h⟩ := h
  rw [Option.bind_eq_some_iff] at h
  obtain ⟨⟨x40, r41⟩, h40, h⟩ := h
  rw [Option.bind_eq_some_iff] at h
  obtain ⟨⟨x41, r42⟩, h41, h⟩ := h
  rw [Option.bind_eq_some_iff] at h
  obtain ⟨⟨x42, r43⟩, h42, h⟩ := h
  rw [Option.bind_eq_some_iff] at h
  obtain ⟨⟨x43, r44⟩, h43, h⟩ := h
  rw [Option.bind_eq_some_iff] at h
  obtain ⟨⟨x44, r45⟩, h44, h⟩ := h
  rw [Option.bind_eq_some_iff] at h
  obtain ⟨⟨x45, r46⟩, h45, h⟩ := h
  rw [Option.bind_eq_some_iff] at h
  obtain ⟨⟨x46, r47⟩, h46, h⟩ := h
  rw [Option.bind_eq_some_iff] at h
  obtain ⟨⟨x47, r48⟩, h47, h⟩ := h
  rw [Option.bind_eq_some_iff] at h
  obtain ⟨⟨x48, r49⟩, h48, h⟩ := h
  rw [Option.bind_eq_some_iff] at h
  obtain ⟨⟨x49, r50⟩, h49, h⟩ := h
  rw [Option.bind_eq_some_iff] at h
  obtain ⟨⟨x50, r51⟩, h50, h⟩ := h
  dsimp only at *
  split at h
  · cases h
    rw [dl_i_eq h0, dl_i_eq h1, dl_i_eq h2, dl_i_eq h3, dl_i_eq h4, dl_i_eq h5, dl_i_eq h6, dl_i_eq h7, dl_i_eq h8, dl_i_eq h9, dl_s_eq h10, dl_s_eq h11, dl_s_eq h12, dl_s_eq h13, dl_i_eq h14, dl_i_eq h15, dl_i_eq h16, dl_i_eq h17, dl_i_eq h18, dl_i_eq h19, dl_i_eq h20, dl_i_eq h21, dl_i_eq h22, dl_i_eq h23, dl_i_eq h24, dl_i_eq h25, dl_i_eq h26, dl_i_eq h27, dl_i_eq h28, dl_i_eq h29, dl_s_eq h30, dl_s_eq h31, dl_s_eq h32, dl_s_eq h33, dl_i_eq h34, dl_i_eq h35, dl_i_eq h36, dl_i_eq h37, dl_i_eq h38, dl_i_eq h39, dl_i_eq h40, dl_i_eq h41, dl_b_eq h42, dl_i_eq h43, dl_i_eq h44, dl_i_eq h45, dl_i_eq h46, dl_i_eq h47, dl_i_eq h48, dl_i_eq h49, dl_s_eq h50]
    rfl
  · cases h
structure FsL2 where
  bareL : Letter → Parts → Letter
  isParts : Parts → Prop
  rightL : Letter → Bool
def FsL20 : FsL2 where
  bareL := bareL
  isParts := isParts
  rightL := rightL
set_option maxRecDepth 100000 in
theorem v_bareL (m : Letter) (p : Parts) (hp0 : FsL20.isParts p) : FnV Try.prog 52 [Letter.D m, Parts.D p] (Letter.D ((bareL m p))) := by
  obtain ⟨m_lkind, m_src, m_dst, m_irep, m_islot, m_be, m_br, m_mkind, m_mclient, m_mseq, m_mkey, m_mfin, m_mold, m_mval, m_tseq, m_td0, m_td1, m_td2, m_td3, m_td4, m_td5, m_td6, m_lstatus, m_lpe, m_lpr, m_lve, m_lvr, m_lckind, m_lcclient, m_lcseq, m_lckey, m_lcfin, m_lcold, m_lcval, m_laseq, m_lad0, m_lad1, m_lad2, m_lad3, m_lad4, m_lad5, m_lad6, m_lsame, m_fd0, m_fd1, m_fd2, m_fd3, m_fd4, m_fd5, m_fd6, m_data⟩ := m
  obtain ⟨p_inst, p_ballot, p_cmd, p_attr, p_cell, p_deps, p_data⟩ := p
  refine FnD_cbv (T := fun _ => tabY [] []) (H := fun _ => []) (tabY_ok _ _) noK_ok follows_mixed Try.func52 rfl Try.ntmps52 (by simp) fun A X W hA hX hW => ?_
  cbv
  rcases (hp0 : isParts _) with h | h | h | h | h | h | h | h
  all_goals simp only [Parts.mk.injEq] at h
  all_goals obtain ⟨rfl, rfl, rfl, rfl, rfl, rfl, rfl⟩ := h
  all_goals cbv
  all_goals subst hW
  all_goals first
    | (refine ret_v ?_ rfl; rfl)
def kn_bareL (F : FsL2) : FuncId × (List DV → RV) := (52, fun args => match args with
  | [.agg m_cs, .agg [.d (.sc (.bool p_inst)), .d (.sc (.bool p_ballot)), .d (.sc (.bool p_cmd)), .d (.sc (.bool p_attr)), .d (.sc (.bool p_cell)), .d (.sc (.bool p_deps)), .d (.sc (.bool p_data))]] => (match decLetter m_cs with | some m => some ([F.isParts ⟨p_inst, p_ballot, p_cmd, p_attr, p_cell, p_deps, p_data⟩], Letter.D ((F.bareL m ⟨p_inst, p_ballot, p_cmd, p_attr, p_cell, p_deps, p_data⟩))) | none => none)
  | _ => none)
set_option maxRecDepth 100000 in
theorem ok_bareL (args : List DV) (cs : List Prop) (r : DV) (h : (kn_bareL FsL20).2 args = some (cs, r)) (hc : allP cs True) : FnV Try.prog 52 args r ∧ closedL 0 args = true := by
  unfold kn_bareL at h
  simp only at h
  split at h
  · split at h
    · rename_i e0
      cases h
      rw [decLetter_eq e0]
      exact ⟨v_bareL _ ⟨_, _, _, _, _, _, _⟩ hc.1, rfl⟩
    · cases h
  · cases h
end Go.Proofs.Ytbhapclaochcnaa
namespace Go.Proofs.Ytbhapclaochcnaa
open Go.RowKit
set_option linter.all false
set_option maxHeartbeats 4000000
structure FsL3 where
  rightL : Letter → Bool
def FsL30 : FsL3 where
  rightL := rightL
set_option maxRecDepth 100000 in
theorem v_rightL (m : Letter) : FnV Try.prog 16 [Letter.D m] (boolD ((rightL m))) := by
  obtain ⟨m_lkind, m_src, m_dst, m_irep, m_islot, m_be, m_br, m_mkind, m_mclient, m_mseq, m_mkey, m_mfin, m_mold, m_mval, m_tseq, m_td0, m_td1, m_td2, m_td3, m_td4, m_td5, m_td6, m_lstatus, m_lpe, m_lpr, m_lve, m_lvr, m_lckind, m_lcclient, m_lcseq, m_lckey, m_lcfin, m_lcold, m_lcval, m_laseq, m_lad0, m_lad1, m_lad2, m_lad3, m_lad4, m_lad5, m_lad6, m_lsame, m_fd0, m_fd1, m_fd2, m_fd3, m_fd4, m_fd5, m_fd6, m_data⟩ := m
  obtain ⟨GFsL1, hGFsL1⟩ : ∃ F, F = FsL10 := ⟨_, rfl⟩
  obtain ⟨GFsL2, hGFsL2⟩ : ∃ F, F = FsL20 := ⟨_, rfl⟩
  obtain ⟨GFsA, hGFsA⟩ : ∃ F, F = FsA0 := ⟨_, rfl⟩
  obtain ⟨GFs5, hGFs5⟩ : ∃ F, F = Fs50 := ⟨_, rfl⟩
  have hH : SoundK Try.prog [kn_named GFsL1, kn_place GFsL1, kn_bareL GFsL2, kn_rightI GFsA, kn_rightB GFsL1, kn_right GFs5, kn_rightA GFsA, kn_rightCell GFsL1] := by subst hGFsL1 hGFsL2 hGFsA hGFs5; exact orK_ok ok_named (orK_ok ok_place (orK_ok ok_bareL (orK_ok ok_rightI (orK_ok ok_rightB (orK_ok ok_right (orK_ok ok_rightA (orK_ok ok_rightCell noK_ok)))))))
  refine FnD_cbv (T := fun _ => tabY [] []) (H := fun _ => [kn_named GFsL1, kn_place GFsL1, kn_bareL GFsL2, kn_rightI GFsA, kn_rightB GFsL1, kn_right GFs5, kn_rightA GFsA, kn_rightCell GFsL1]) (tabY_ok _ _) hH follows_mixed Try.func16 rfl Try.ntmps16 (by simp) fun A X W hA hX hW => ?_
  cbv
  repeat' first
    | (refine part (fun h => ?_) (fun h => ?_) <;> try cbv)
    | (refine And.intro ?_ ?_)
  all_goals subst hA hX hW hGFsL1 hGFsL2 hGFsA hGFs5
  all_goals clear hH
  all_goals first
    | (show Region.lexB _ _ = true; kernel_rfl)
    | exact named_parts _
    | (simp only [A0]; intros; first | assumption | trivial | exact named_parts _ | (simp_all; done))
    | (simp only [A0]; intro hq; simpa using hq)
    | (have h1 : badL1 (⟨m_lkind, m_src, m_dst, m_irep, m_islot, m_be, m_br, m_mkind, m_mclient, m_mseq, m_mkey, m_mfin, m_mold, m_mval, m_tseq, m_td0, m_td1, m_td2, m_td3, m_td4, m_td5, m_td6, m_lstatus, m_lpe, m_lpr, m_lve, m_lvr, m_lckind, m_lcclient, m_lcseq, m_lckey, m_lcfin, m_lcold, m_lcval, m_laseq, m_lad0, m_lad1, m_lad2, m_lad3, m_lad4, m_lad5, m_lad6, m_lsame, m_fd0, m_fd1, m_fd2, m_fd3, m_fd4, m_fd5, m_fd6, m_data⟩ : Letter) = true := h
       refine ret_v ?_ rfl
       show boolD false = boolD (rightL (⟨m_lkind, m_src, m_dst, m_irep, m_islot, m_be, m_br, m_mkind, m_mclient, m_mseq, m_mkey, m_mfin, m_mold, m_mval, m_tseq, m_td0, m_td1, m_td2, m_td3, m_td4, m_td5, m_td6, m_lstatus, m_lpe, m_lpr, m_lve, m_lvr, m_lckind, m_lcclient, m_lcseq, m_lckey, m_lcfin, m_lcold, m_lcval, m_laseq, m_lad0, m_lad1, m_lad2, m_lad3, m_lad4, m_lad5, m_lad6, m_lsame, m_fd0, m_fd1, m_fd2, m_fd3, m_fd4, m_fd5, m_fd6, m_data⟩ : Letter))
       unfold rightL
       rw [h1]
       rfl)
    | (rename_i h0
       have h1 : badL1 (⟨m_lkind, m_src, m_dst, m_irep, m_islot, m_be, m_br, m_mkind, m_mclient, m_mseq, m_mkey, m_mfin, m_mold, m_mval, m_tseq, m_td0, m_td1, m_td2, m_td3, m_td4, m_td5, m_td6, m_lstatus, m_lpe, m_lpr, m_lve, m_lvr, m_lckind, m_lcclient, m_lcseq, m_lckey, m_lcfin, m_lcold, m_lcval, m_laseq, m_lad0, m_lad1, m_lad2, m_lad3, m_lad4, m_lad5, m_lad6, m_lsame, m_fd0, m_fd1, m_fd2, m_fd3, m_fd4, m_fd5, m_fd6, m_data⟩ : Letter) = false := h0
       have h2 : badL2 (⟨m_lkind, m_src, m_dst, m_irep, m_islot, m_be, m_br, m_mkind, m_mclient, m_mseq, m_mkey, m_mfin, m_mold, m_mval, m_tseq, m_td0, m_td1, m_td2, m_td3, m_td4, m_td5, m_td6, m_lstatus, m_lpe, m_lpr, m_lve, m_lvr, m_lckind, m_lcclient, m_lcseq, m_lckey, m_lcfin, m_lcold, m_lcval, m_laseq, m_lad0, m_lad1, m_lad2, m_lad3, m_lad4, m_lad5, m_lad6, m_lsame, m_fd0, m_fd1, m_fd2, m_fd3, m_fd4, m_fd5, m_fd6, m_data⟩ : Letter) = true := h
       refine ret_v ?_ rfl
       show boolD false = boolD (rightL (⟨m_lkind, m_src, m_dst, m_irep, m_islot, m_be, m_br, m_mkind, m_mclient, m_mseq, m_mkey, m_mfin, m_mold, m_mval, m_tseq, m_td0, m_td1, m_td2, m_td3, m_td4, m_td5, m_td6, m_lstatus, m_lpe, m_lpr, m_lve, m_lvr, m_lckind, m_lcclient, m_lcseq, m_lckey, m_lcfin, m_lcold, m_lcval, m_laseq, m_lad0, m_lad1, m_lad2, m_lad3, m_lad4, m_lad5, m_lad6, m_lsame, m_fd0, m_fd1, m_fd2, m_fd3, m_fd4, m_fd5, m_fd6, m_data⟩ : Letter))
       unfold rightL
       rw [h1, h2]
       rfl)
    | (rename_i h0
       have h1 : badL1 (⟨m_lkind, m_src, m_dst, m_irep, m_islot, m_be, m_br, m_mkind, m_mclient, m_mseq, m_mkey, m_mfin, m_mold, m_mval, m_tseq, m_td0, m_td1, m_td2, m_td3, m_td4, m_td5, m_td6, m_lstatus, m_lpe, m_lpr, m_lve, m_lvr, m_lckind, m_lcclient, m_lcseq, m_lckey, m_lcfin, m_lcold, m_lcval, m_laseq, m_lad0, m_lad1, m_lad2, m_lad3, m_lad4, m_lad5, m_lad6, m_lsame, m_fd0, m_fd1, m_fd2, m_fd3, m_fd4, m_fd5, m_fd6, m_data⟩ : Letter) = false := h0
       have h2 : badL2 (⟨m_lkind, m_src, m_dst, m_irep, m_islot, m_be, m_br, m_mkind, m_mclient, m_mseq, m_mkey, m_mfin, m_mold, m_mval, m_tseq, m_td0, m_td1, m_td2, m_td3, m_td4, m_td5, m_td6, m_lstatus, m_lpe, m_lpr, m_lve, m_lvr, m_lckind, m_lcclient, m_lcseq, m_lckey, m_lcfin, m_lcold, m_lcval, m_laseq, m_lad0, m_lad1, m_lad2, m_lad3, m_lad4, m_lad5, m_lad6, m_lsame, m_fd0, m_fd1, m_fd2, m_fd3, m_fd4, m_fd5, m_fd6, m_data⟩ : Letter) = false := h
       refine ret_v ?_ rfl
       show boolD (lastL (⟨m_lkind, m_src, m_dst, m_irep, m_islot, m_be, m_br, m_mkind, m_mclient, m_mseq, m_mkey, m_mfin, m_mold, m_mval, m_tseq, m_td0, m_td1, m_td2, m_td3, m_td4, m_td5, m_td6, m_lstatus, m_lpe, m_lpr, m_lve, m_lvr, m_lckind, m_lcclient, m_lcseq, m_lckey, m_lcfin, m_lcold, m_lcval, m_laseq, m_lad0, m_lad1, m_lad2, m_lad3, m_lad4, m_lad5, m_lad6, m_lsame, m_fd0, m_fd1, m_fd2, m_fd3, m_fd4, m_fd5, m_fd6, m_data⟩ : Letter)) = boolD (rightL (⟨m_lkind, m_src, m_dst, m_irep, m_islot, m_be, m_br, m_mkind, m_mclient, m_mseq, m_mkey, m_mfin, m_mold, m_mval, m_tseq, m_td0, m_td1, m_td2, m_td3, m_td4, m_td5, m_td6, m_lstatus, m_lpe, m_lpr, m_lve, m_lvr, m_lckind, m_lcclient, m_lcseq, m_lckey, m_lcfin, m_lcold, m_lcval, m_laseq, m_lad0, m_lad1, m_lad2, m_lad3, m_lad4, m_lad5, m_lad6, m_lsame, m_fd0, m_fd1, m_fd2, m_fd3, m_fd4, m_fd5, m_fd6, m_data⟩ : Letter))
       unfold rightL
       rw [h1, h2]
       rfl)
def kn_rightL (F : FsL3) : FuncId × (List DV → RV) := (16, fun args => match args with
  | [.agg m_cs] => (match decLetter m_cs with | some m => some ([], boolD ((F.rightL m))) | none => none)
  | _ => none)
set_option maxRecDepth 100000 in
theorem ok_rightL (args : List DV) (cs : List Prop) (r : DV) (h : (kn_rightL FsL30).2 args = some (cs, r)) (hc : allP cs True) : FnV Try.prog 16 args r ∧ closedL 0 args = true := by
  unfold kn_rightL at h
  simp only at h
  split at h
  · split at h
    · rename_i e0
      cases h
      rw [decLetter_eq e0]
      exact ⟨v_rightL _, rfl⟩
    · cases h
  · cases h
end Go.Proofs.Ytbhapclaochcnaa
namespace Go.Proofs.Ytbhapclaochcnaa
open Go.RowKit
set_option linter.all false
set_option maxHeartbeats 4000000
structure FsW9 where
  pflag : List (List PD) → Bool → List (List PD)
  isB : List (List PD) → Prop
noncomputable def FsW90 : FsW9 where
  pflag := flagX
  isB := isB
set_option maxRecDepth 100000 in
theorem v_pflag (xs : List (List PD)) (b : Bool) (hp0 : isB xs) : FnV Try.prog 58 [.d (.slc 1 xs), boolD b] (.d (.slc 1 (flagX xs b))) := by
  obtain ⟨bs, hxs, hb⟩ := hp0
  cases b
  · have hH : SoundK Try.prog [] := by exact noK_ok
    have hB : SoundB Try.prog [] := by exact noB_ok
    refine FnD_cbv (T := fun _ => tabY [] []) (H := fun _ => []) (tabY_ok _ _) hH follows_mixed Try.func58 rfl Try.ntmps58 (by simp) fun A X W hA hX hW => ?_
    cbv
    refine callL hX ((w_grown bs xs _ hxs (by decide) (by decide) (by omega)).mono ?_)
    rintro r st ⟨cs, m, hcs, hm, rfl, rfl⟩
    cbv
    repeat' first
      | (refine And.intro ?_ ?_)
    all_goals subst hA hX hW
    all_goals clear hH hB
    all_goals simp only [A0] at *
    all_goals first
      | rfl
      | omega
      | (simp; done)
      | (simp; omega)
      | (rw [hxs, rowsB_length, bytesP_length]; simp; done)
      | (simp [hxs, rowsB_length, bytesP_length]; done)
      | (simp [hcs, rowsB_length, hm]; done)
      | (simp [hcs, rowsB_length, hm]; omega)
      | (refine ret_bytes (bs := bs ++ [1]) rfl ?_ ?_ (by simp [flagX, hxs, bytesP_append]) <;> simp [hxs, bytesP_length, rowsB_append, rowsB_one]; done)
      | (refine ret_bytes (bs := bs ++ [0]) rfl ?_ ?_ (by simp [flagX, hxs, bytesP_append]) <;> simp [hxs, bytesP_length, rowsB_append, rowsB_one]; done)
      | (refine ret_bytes (bs := bs ++ [1]) rfl ?_ ?_ (by simp [flagX, hxs, bytesP_append]) <;> simp [hcs, hm, rowsB_append, rowsB_one]; done)
      | (refine ret_bytes (bs := bs ++ [0]) rfl ?_ ?_ (by simp [flagX, hxs, bytesP_append]) <;> simp [hcs, hm, rowsB_append, rowsB_one]; done)
  · have hH : SoundK Try.prog [] := by exact noK_ok
    have hB : SoundB Try.prog [] := by exact noB_ok
    refine FnD_cbv (T := fun _ => tabY [] []) (H := fun _ => []) (tabY_ok _ _) hH follows_mixed Try.func58 rfl Try.ntmps58 (by simp) fun A X W hA hX hW => ?_
    cbv
    refine callL hX ((w_grown bs xs _ hxs (by decide) (by decide) (by omega)).mono ?_)
    rintro r st ⟨cs, m, hcs, hm, rfl, rfl⟩
    cbv
    repeat' first
      | (refine And.intro ?_ ?_)
    all_goals subst hA hX hW
    all_goals clear hH hB
    all_goals simp only [A0] at *
    all_goals first
      | rfl
      | omega
      | (simp; done)
      | (simp; omega)
      | (rw [hxs, rowsB_length, bytesP_length]; simp; done)
      | (simp [hxs, rowsB_length, bytesP_length]; done)
      | (simp [hcs, rowsB_length, hm]; done)
      | (simp [hcs, rowsB_length, hm]; omega)
      | (refine ret_bytes (bs := bs ++ [1]) rfl ?_ ?_ (by simp [flagX, hxs, bytesP_append]) <;> simp [hxs, bytesP_length, rowsB_append, rowsB_one]; done)
      | (refine ret_bytes (bs := bs ++ [0]) rfl ?_ ?_ (by simp [flagX, hxs, bytesP_append]) <;> simp [hxs, bytesP_length, rowsB_append, rowsB_one]; done)
      | (refine ret_bytes (bs := bs ++ [1]) rfl ?_ ?_ (by simp [flagX, hxs, bytesP_append]) <;> simp [hcs, hm, rowsB_append, rowsB_one]; done)
      | (refine ret_bytes (bs := bs ++ [0]) rfl ?_ ?_ (by simp [flagX, hxs, bytesP_append]) <;> simp [hcs, hm, rowsB_append, rowsB_one]; done)
def kn_pflag (F : FsW9) : FuncId × (List DV → RV) := (58, fun args => match args with
  | [.d (.slc 1 xs), .d (.sc (.bool b))] => some ([F.isB xs], .d (.slc 1 (F.pflag xs b)))
  | [.d (.sc (.slice none 0 0)), .d (.sc (.bool b))] => some ([F.isB []], .d (.slc 1 (F.pflag [] b)))
  | _ => none)
theorem ok_pflag (args : List DV) (cs : List Prop) (r : DV) (h : (kn_pflag FsW90).2 args = some (cs, r)) (hc : allP cs True) : FnV Try.prog 58 args r ∧ closedL 0 args = true := by
  unfold kn_pflag at h
  simp only at h
  split at h
  · cases h; exact ⟨v_pflag _ _ hc.1, rfl⟩
  · cases h; exact ⟨FnP.nils (v_pflag [] _ hc.1) ⟨.inr ⟨rfl, _, rfl⟩, ⟨.inl rfl, trivial⟩⟩, rfl⟩
  · cases h
theorem right_cases {c : Cmd} (h : rightC c = true) : c = .zero ∨ (1 ≤ c.kind ∧ c.kind ≤ 5 ∧ c = bare c ∧ c.key.size ≤ 16 ∧ c.fin.size ≤ 16 ∧ c.old.size ≤ 64 ∧ c.val.size ≤ 64) := by
  simp only [rightC, within, Bool.or_eq_true, Bool.and_eq_true, decide_eq_true_eq] at h
  rcases h with h | h
  · exact .inl h
  · exact .inr ⟨by omega, by omega, by grind, by grind, by grind, by grind, by grind⟩
theorem putB_small {c : Cmd} (h : rightC c = true) : (putB c).length ≤ 400 := by
  have h1 := numB_length c.kind
  have h2 := numB_length c.client
  have h3 := numB_length c.seq
  have h4 := textB_length c.key
  have h5 := textB_length c.fin
  have h6 := textB_length c.old
  have h7 := textB_length c.val
  have hs : c.key.size ≤ 64 ∧ c.fin.size ≤ 64 ∧ c.old.size ≤ 64 ∧ c.val.size ≤ 64 := by
    rcases right_cases h with e | ⟨_, _, _, e1, e2, e3, e4⟩
    · subst e; decide
    · omega
  unfold putB
  split
  · simp only [List.length_append, List.length_nil]; omega
  · simp only [List.length_append]
    split
    · omega
    split
    · simp only [List.length_append]; omega
    split
    · omega
    · simp only [List.length_nil]; omega
theorem putD_small (a : Attr) : (putD a).length ≤ 80 := by
  have p := numB_length
  have h0 := p a.seq
  have h1 := p a.d0
  have h2 := p a.d1
  have h3 := p a.d2
  have h4 := p a.d3
  have h5 := p a.d4
  have h6 := p a.d5
  have h7 := p a.d6
  simp only [putD, List.length_append]
  omega
theorem isBn.put {k : Nat} {xs : List (List PD)} (h : isBn k xs) {c : Cmd} (hr : rightC c = true) : isBn (k + 400) (putX xs c) := by
  obtain ⟨bs, rfl, h2⟩ := h
  have := putB_small hr
  exact ⟨bs ++ putB c, by unfold putX; rw [hr, ← bytesP_append]; rfl, by rw [List.length_append]; omega⟩
theorem isBn.dput {k : Nat} {xs : List (List PD)} (h : isBn k xs) (a : Attr) : isBn (k + 80) (putA xs a) := by
  obtain ⟨bs, rfl, h2⟩ := h
  have := putD_small a
  exact ⟨bs ++ putD a, by rw [putA_eq, bytesP_append], by rw [List.length_append]; omega⟩
theorem isBn.mono {k m : Nat} {xs : List (List PD)} (h : isBn k xs) (hk : k ≤ m) : isBn m xs := by
  obtain ⟨bs, h1, h2⟩ := h
  exact ⟨bs, h1, by omega⟩
noncomputable def ballotX (xs : List (List PD)) (b : Ballot) : List (List PD) := numX (numX xs b.epoch) b.replica
def rBal (b : Ballot) : Prop := r64 b.epoch ∧ r64 b.replica
def ballotB (b : Ballot) : List UInt8 := numB b.epoch ++ numB b.replica
/-- The bytes of a cell. -/
def cellB (c : Cell) : List UInt8 := numB c.status ++ (ballotB c.prom ++ (if c.status = 0 then [] else ballotB c.voted ++ (putB c.cmd ++ (putD c.attr ++ [if c.same then 1 else 0]))))
noncomputable def putCellX (xs : List (List PD)) (c : Cell) : List (List PD) := if rightCell c then xs ++ bytesP (cellB c) else xs
def okCell (c : Cell) : Prop := r64 c.status ∧ rBal c.prom ∧ rBal c.voted ∧ okC c.cmd ∧ rAttr c.attr
theorem isBn.ballot {k : Nat} {xs : List (List PD)} (h : isBn k xs) (b : Ballot) : isBn (k + 20) (ballotX xs b) := (h.num _).num _
theorem rightCell_parts {c : Cell} (h : rightCell c = true) : rightC c.cmd = true ∧ rightA c.attr = true := by
  unfold rightCell at h
  revert h
  generalize (bif (bif (bif (bif decide (c.status < 0) then true else decide (3 < c.status)) then true else !rightB c.prom) then true else !rightB c.voted) then true else belowB c.prom c.voted) = p
  generalize (bif (bif c.same then (bif !decide (c.status = 1) then true else !(decide (c.ve = 0) && (decide (c.vr = 0) && true))) else false) then true else (bif decide (c.status = 0) then !cellOnly c else false)) = q
  cases p <;> cases q <;> cases rightC c.cmd <;> simp
theorem putCell_short {xs : List (List PD)} {c : Cell} (h : rightCell c = true) (q : c.status = 0) : putCellX xs c = ballotX (numX xs c.status) c.prom := by
  unfold putCellX cellB
  rw [if_pos h, if_pos q]
  simp [ballotX, numX, ballotB, ← bytesP_append]
theorem putCell_long {xs : List (List PD)} {c : Cell} (h : rightCell c = true) (q : ¬ c.status = 0) : putCellX xs c = flagX (putA (putX (ballotX (ballotX (numX xs c.status) c.prom) c.voted) c.cmd) c.attr) c.same := by
  unfold putCellX cellB
  rw [if_pos h, if_neg q, putA_eq]
  unfold putX
  rw [if_pos (rightCell_parts h).1]
  simp [ballotX, numX, ballotB, flagX, ← bytesP_append]
structure FsL4 where
  ballotX : List (List PD) → Ballot → List (List PD)
  putCellX : List (List PD) → Cell → List (List PD)
  isBn : Nat → List (List PD) → Prop
  rBal : Ballot → Prop
  okCell : Cell → Prop
noncomputable def FsL40 : FsL4 where
  ballotX := ballotX
  putCellX := putCellX
  isBn := isBn
  rBal := rBal
  okCell := okCell
set_option maxRecDepth 100000 in
theorem v_ballotX (xs : List (List PD)) (x : Ballot) (hp0 : FsL40.isBn 4000000 xs) (hp1 : FsL40.rBal x) : FnV Try.prog 32 [.d (.slc 1 xs), Ballot.D x] (.d (.slc 1 (ballotX xs x))) := by
  obtain ⟨x_epoch, x_replica⟩ := x
  obtain ⟨GFsQ, hGFsQ⟩ : ∃ F, F = FsQ0 := ⟨_, rfl⟩
  have hH : SoundK Try.prog [kn_num GFsQ] := by subst hGFsQ; exact orK_ok ok_num noK_ok
  refine FnD_cbv (T := fun _ => tabY [] []) (H := fun _ => [kn_num GFsQ]) (tabY_ok _ _) hH follows_mixed Try.func32 rfl Try.ntmps32 (by simp) fun A X W hA hX hW => ?_
  cbv
  repeat' first
    | (refine And.intro ?_ ?_)
  all_goals subst hA hX hW hGFsQ
  all_goals clear hH
  all_goals have b0 : isBn 4000000 xs := hp0
  all_goals have b1 := b0.num x_epoch
  all_goals obtain ⟨k0, k1⟩ := hp1
  all_goals try simp only [A0, nc, FsQ0]
  all_goals first
    | (show Region.lexB _ _ = true; kernel_rfl)
    | exact b0.le (by omega)
    | exact b1.le (by omega)
    | exact k0
    | exact k1
    | (refine ret_v ?_ rfl; rfl)
def kn_ballotX (F : FsL4) : FuncId × (List DV → RV) := (32, fun args => match args with
  | [.d (.slc 1 xs), .agg [.d (.sc (.int .i64 x_epoch)), .d (.sc (.int .i64 x_replica))]] => some ([F.isBn 4000000 xs, F.rBal ⟨x_epoch, x_replica⟩], .d (.slc 1 (F.ballotX xs ⟨x_epoch, x_replica⟩)))
  | [.d (.sc (.slice none 0 0)), .agg [.d (.sc (.int .i64 x_epoch)), .d (.sc (.int .i64 x_replica))]] => some ([F.isBn 4000000 [], F.rBal ⟨x_epoch, x_replica⟩], .d (.slc 1 (F.ballotX [] ⟨x_epoch, x_replica⟩)))
  | _ => none)
theorem ok_ballotX (args : List DV) (cs : List Prop) (r : DV) (h : (kn_ballotX FsL40).2 args = some (cs, r)) (hc : allP cs True) : FnV Try.prog 32 args r ∧ closedL 0 args = true := by
  unfold kn_ballotX at h
  simp only at h
  split at h
  · cases h; exact ⟨v_ballotX _ ⟨_, _⟩ hc.1 hc.2.1, rfl⟩
  · cases h; exact ⟨FnP.nils (v_ballotX [] ⟨_, _⟩ hc.1 hc.2.1) ⟨.inr ⟨rfl, _, rfl⟩, ⟨.inl rfl, trivial⟩⟩, rfl⟩
  · cases h
set_option maxRecDepth 100000 in
theorem v_putCellX (xs : List (List PD)) (c : Cell) (hp0 : FsL40.isBn 2000000 xs) (hp1 : FsL40.okCell c) : FnV Try.prog 19 [.d (.slc 1 xs), Cell.D c] (.d (.slc 1 (putCellX xs c))) := by
  obtain ⟨c_status, c_pe, c_pr, c_ve, c_vr, c_ckind, c_cclient, c_cseq, c_ckey, c_cfin, c_cold, c_cval, c_aseq, c_ad0, c_ad1, c_ad2, c_ad3, c_ad4, c_ad5, c_ad6, c_same⟩ := c
  obtain ⟨GFsL1, hGFsL1⟩ : ∃ F, F = FsL10 := ⟨_, rfl⟩
  obtain ⟨GFsQ, hGFsQ⟩ : ∃ F, F = FsQ0 := ⟨_, rfl⟩
  obtain ⟨F, hF⟩ : ∃ F, F = FsL40 := ⟨_, rfl⟩
  obtain ⟨GFs6, hGFs6⟩ : ∃ F, F = Fs60 := ⟨_, rfl⟩
  obtain ⟨GFsDq, hGFsDq⟩ : ∃ F, F = FsDq0 := ⟨_, rfl⟩
  obtain ⟨GFsW9, hGFsW9⟩ : ∃ F, F = FsW90 := ⟨_, rfl⟩
  have hH : SoundK Try.prog [kn_rightCell GFsL1, kn_num GFsQ, kn_ballotX F, kn_put GFs6, kn_dput GFsDq, kn_pflag GFsW9] := by subst hGFsL1 hGFsQ hF hGFs6 hGFsDq hGFsW9; exact orK_ok ok_rightCell (orK_ok ok_num (orK_ok ok_ballotX (orK_ok ok_put (orK_ok ok_dput (orK_ok ok_pflag noK_ok)))))
  refine FnD_cbv (T := fun _ => tabY [] []) (H := fun _ => [kn_rightCell GFsL1, kn_num GFsQ, kn_ballotX F, kn_put GFs6, kn_dput GFsDq, kn_pflag GFsW9]) (tabY_ok _ _) hH follows_mixed Try.func19 rfl Try.ntmps19 (by simp) fun A X W hA hX hW => ?_
  cbv
  have hxs0 : isBn 2000000 xs := hp0
  obtain ⟨bs, hxs, hb⟩ := hxs0
  have hxs0 : isBn 2000000 xs := hp0
  have hl : xs.length = bs.length := by rw [hxs]; exact bytesP_length bs
  refine part (fun h => ?_) (fun h => ?_)
  · cbv
    refine appendNilL hX tab_ok (e := 5) (sz := 1) (by8 := 1) (z := [.d (.sc (.int .u8 0))]) (xs := xs) rfl rfl rfl rfl (by decide) rfl rfl ⟨by omega, by omega⟩ (fun e => ?_) (fun cs n hcs hn e => ?_)
    · cbv
      subst hA hX hW hGFsL1 hGFsQ hF hGFs6 hGFsDq hGFsW9
      simp only [A0, FsL10, Bool.not_eq_true'] at h
      refine ret_nil (sz := 1) ?_
      simp [putCellX, h, e]
    · cbv
      subst hA hX hW hGFsL1 hGFsQ hF hGFs6 hGFsDq hGFsW9
      simp only [A0, FsL10, Bool.not_eq_true'] at h
      refine ret_bytes (bs := bs) rfl (by omega) (by rw [hcs, hxs]) ?_
      simp [putCellX, h, hxs]
  · cbv
    repeat' first
      | (refine part (fun h => ?_) (fun h => ?_) <;> try cbv)
      | (refine And.intro ?_ ?_)
    all_goals subst hA hX hW hGFsL1 hGFsQ hF hGFs6 hGFsDq hGFsW9
    all_goals clear hH
    all_goals try simp only [A0, nc, FsL10, FsQ0, FsL40, Fs60, FsDq0, FsW90, Bool.not_eq_false', decide_eq_true_eq, decide_eq_false_iff_not] at *
    all_goals have hr := rightCell_parts h
    all_goals obtain ⟨k0, k1, k2, k3, k4⟩ := hp1
    all_goals have b1 := hxs0.num c_status
    all_goals have b2 := b1.ballot ⟨c_pe, c_pr⟩
    all_goals have b3 := b2.ballot ⟨c_ve, c_vr⟩
    all_goals have b4 := b3.put hr.1
    all_goals have b5 := b4.dput ⟨c_aseq, c_ad0, c_ad1, c_ad2, c_ad3, c_ad4, c_ad5, c_ad6⟩
    all_goals first
      | (show Region.lexB _ _ = true; kernel_rfl)
      | exact hxs0.le (by omega)
      | exact k0
      | exact k1
      | exact k2
      | exact k3
      | exact k4
      | exact b1.mono (by omega)
      | exact b2.mono (by omega)
      | exact b3.mono (by omega)
      | exact b4.mono (by omega)
      | exact b5.le (by omega)
      | (rename_i q
         refine ret_v ?_ rfl
         exact congrArg (fun x => DV.d (.slc 1 x)) (putCell_short h q).symm)
      | (rename_i q
         refine ret_v ?_ rfl
         exact congrArg (fun x => DV.d (.slc 1 x)) (putCell_long h q).symm)
def kn_putCellX (F : FsL4) : FuncId × (List DV → RV) := (19, fun args => match args with
  | [.d (.slc 1 xs), .agg [.d (.sc (.int .i64 c_status)), .d (.sc (.int .i64 c_pe)), .d (.sc (.int .i64 c_pr)), .d (.sc (.int .i64 c_ve)), .d (.sc (.int .i64 c_vr)), .d (.sc (.int .i64 c_ckind)), .d (.sc (.int .i64 c_cclient)), .d (.sc (.int .i64 c_cseq)), .d (.sc (.string c_ckey)), .d (.sc (.string c_cfin)), .d (.sc (.string c_cold)), .d (.sc (.string c_cval)), .d (.sc (.int .i64 c_aseq)), .d (.sc (.int .i64 c_ad0)), .d (.sc (.int .i64 c_ad1)), .d (.sc (.int .i64 c_ad2)), .d (.sc (.int .i64 c_ad3)), .d (.sc (.int .i64 c_ad4)), .d (.sc (.int .i64 c_ad5)), .d (.sc (.int .i64 c_ad6)), .d (.sc (.bool c_same))]] => some ([F.isBn 2000000 xs, F.okCell ⟨c_status, c_pe, c_pr, c_ve, c_vr, c_ckind, c_cclient, c_cseq, c_ckey, c_cfin, c_cold, c_cval, c_aseq, c_ad0, c_ad1, c_ad2, c_ad3, c_ad4, c_ad5, c_ad6, c_same⟩], .d (.slc 1 (F.putCellX xs ⟨c_status, c_pe, c_pr, c_ve, c_vr, c_ckind, c_cclient, c_cseq, c_ckey, c_cfin, c_cold, c_cval, c_aseq, c_ad0, c_ad1, c_ad2, c_ad3, c_ad4, c_ad5, c_ad6, c_same⟩)))
  | [.d (.sc (.slice none 0 0)), .agg [.d (.sc (.int .i64 c_status)), .d (.sc (.int .i64 c_pe)), .d (.sc (.int .i64 c_pr)), .d (.sc (.int .i64 c_ve)), .d (.sc (.int .i64 c_vr)), .d (.sc (.int .i64 c_ckind)), .d (.sc (.int .i64 c_cclient)), .d (.sc (.int .i64 c_cseq)), .d (.sc (.string c_ckey)), .d (.sc (.string c_cfin)), .d (.sc (.string c_cold)), .d (.sc (.string c_cval)), .d (.sc (.int .i64 c_aseq)), .d (.sc (.int .i64 c_ad0)), .d (.sc (.int .i64 c_ad1)), .d (.sc (.int .i64 c_ad2)), .d (.sc (.int .i64 c_ad3)), .d (.sc (.int .i64 c_ad4)), .d (.sc (.int .i64 c_ad5)), .d (.sc (.int .i64 c_ad6)), .d (.sc (.bool c_same))]] => some ([F.isBn 2000000 [], F.okCell ⟨c_status, c_pe, c_pr, c_ve, c_vr, c_ckind, c_cclient, c_cseq, c_ckey, c_cfin, c_cold, c_cval, c_aseq, c_ad0, c_ad1, c_ad2, c_ad3, c_ad4, c_ad5, c_ad6, c_same⟩], .d (.slc 1 (F.putCellX [] ⟨c_status, c_pe, c_pr, c_ve, c_vr, c_ckind, c_cclient, c_cseq, c_ckey, c_cfin, c_cold, c_cval, c_aseq, c_ad0, c_ad1, c_ad2, c_ad3, c_ad4, c_ad5, c_ad6, c_same⟩)))
  | _ => none)
theorem ok_putCellX (args : List DV) (cs : List Prop) (r : DV) (h : (kn_putCellX FsL40).2 args = some (cs, r)) (hc : allP cs True) : FnV Try.prog 19 args r ∧ closedL 0 args = true := by
  unfold kn_putCellX at h
  simp only at h
  split at h
  · cases h; exact ⟨v_putCellX _ ⟨_, _, _, _, _, _, _, _, _, _, _, _, _, _, _, _, _, _, _, _, _⟩ hc.1 hc.2.1, rfl⟩
  · cases h; exact ⟨FnP.nils (v_putCellX [] ⟨_, _, _, _, _, _, _, _, _, _, _, _, _, _, _, _, _, _, _, _, _⟩ hc.1 hc.2.1) ⟨.inr ⟨rfl, _, rfl⟩, ⟨.inl rfl, trivial⟩⟩, rfl⟩
  · cases h
end Go.Proofs.Ytbhapclaochcnaa
namespace Go.Proofs.Ytbhapclaochcnaa
open Go.RowKit
set_option linter.all false
set_option maxHeartbeats 8000000
noncomputable def putLX (m : Letter) (p : Parts) : List (List PD) :=
  let b0 := numX (numX (numX [] m.lkind) m.src) m.dst
  let b1 := bif p.inst then numX (numX b0 m.irep) m.islot else b0
  let b2 := bif p.ballot then ballotX b1 m.ballot else b1
  let b3 := bif p.cmd then putX b2 m.cmd else b2
  let b4 := bif p.attr then putA b3 m.attr else b3
  let b5 := bif p.cell then putCellX b4 m.cell else b4
  let b6 := bif p.deps then numX (numX (numX (numX (numX (numX (numX b5 m.fd0) m.fd1) m.fd2) m.fd3) m.fd4) m.fd5) m.fd6 else b5
  bif p.data then textX b6 m.data else b6
noncomputable def putLet (m : Letter) : List (List PD) := if rightL m then putLX m (namedP m.lkind).1 else []
def okLet (m : Letter) : Prop := (r64 m.lkind ∧ r64 m.src ∧ r64 m.dst) ∧ (r64 m.irep ∧ r64 m.islot) ∧ rBal m.ballot ∧ okC m.cmd ∧ rAttr m.attr ∧ okCell m.cell ∧ (r64 m.fd0 ∧ r64 m.fd1 ∧ r64 m.fd2 ∧ r64 m.fd3 ∧ r64 m.fd4 ∧ r64 m.fd5 ∧ r64 m.fd6) ∧ m.data.size ≤ 1048576
theorem rightL_parts {m : Letter} (h : rightL m = true) : rightC m.cmd = true ∧ rightA m.attr = true ∧ rightCell m.cell = true := by
  unfold rightL at h
  cases h1 : badL1 m
  · rw [h1] at h
    cases h2 : badL2 m
    · unfold badL2 at h2
      revert h2
      generalize (bif (namedP m.lkind).1.inst then !rightI m.inst else false) = p
      cases p <;> cases rightB m.ballot <;> cases rightC m.cmd <;> cases rightA m.attr <;> cases rightCell m.cell <;> simp
    · rw [h2] at h; cases h
  · rw [h1] at h; cases h
theorem isBn.cell {k : Nat} {xs : List (List PD)} (h : isBn k xs) {c : Cell} (hr : rightCell c = true) : isBn (k + 600) (putCellX xs c) := by
  obtain ⟨bs, rfl, h2⟩ := h
  have h1 := putB_small (rightCell_parts hr).1
  have h3 := putD_small c.attr
  have p := numB_length
  have q0 := p c.status
  have q1 := p c.pe
  have q2 := p c.pr
  have q3 := p c.ve
  have q4 := p c.vr
  have hl : (cellB c).length ≤ 600 := by
    unfold cellB
    split
    · simp only [List.length_append, ballotB, Cell.prom, List.length_nil]; omega
    · simp only [List.length_append, ballotB, Cell.prom, Cell.voted, List.length_singleton]; omega
  exact ⟨bs ++ cellB c, by unfold putCellX; rw [if_pos hr, bytesP_append], by rw [List.length_append]; omega⟩
structure FsL5 where
  putLet : Letter → List (List PD)
  okLet : Letter → Prop
noncomputable def FsL50 : FsL5 where
  putLet := putLet
  okLet := okLet
set_option maxRecDepth 100000 in
theorem v_putLet (m : Letter) (hp0 : FsL50.okLet m) : FnV Try.prog 9 [Letter.D m] (.d (.slc 1 (putLet m))) := by
  obtain ⟨m_lkind, m_src, m_dst, m_irep, m_islot, m_be, m_br, m_mkind, m_mclient, m_mseq, m_mkey, m_mfin, m_mold, m_mval, m_tseq, m_td0, m_td1, m_td2, m_td3, m_td4, m_td5, m_td6, m_lstatus, m_lpe, m_lpr, m_lve, m_lvr, m_lckind, m_lcclient, m_lcseq, m_lckey, m_lcfin, m_lcold, m_lcval, m_laseq, m_lad0, m_lad1, m_lad2, m_lad3, m_lad4, m_lad5, m_lad6, m_lsame, m_fd0, m_fd1, m_fd2, m_fd3, m_fd4, m_fd5, m_fd6, m_data⟩ := m
  obtain ⟨GFsL3, hGFsL3⟩ : ∃ F, F = FsL30 := ⟨_, rfl⟩
  obtain ⟨GFsL1, hGFsL1⟩ : ∃ F, F = FsL10 := ⟨_, rfl⟩
  obtain ⟨GFsQ, hGFsQ⟩ : ∃ F, F = FsQ0 := ⟨_, rfl⟩
  obtain ⟨GFsL4, hGFsL4⟩ : ∃ F, F = FsL40 := ⟨_, rfl⟩
  obtain ⟨GFs6, hGFs6⟩ : ∃ F, F = Fs60 := ⟨_, rfl⟩
  obtain ⟨GFsDq, hGFsDq⟩ : ∃ F, F = FsDq0 := ⟨_, rfl⟩
  have hH : SoundK Try.prog [kn_rightL GFsL3, kn_named GFsL1, kn_num GFsQ, kn_ballotX GFsL4, kn_put GFs6, kn_dput GFsDq, kn_putCellX GFsL4, kn_text GFsQ] := by subst hGFsL3 hGFsL1 hGFsQ hGFsL4 hGFs6 hGFsDq; exact orK_ok ok_rightL (orK_ok ok_named (orK_ok ok_num (orK_ok ok_ballotX (orK_ok ok_put (orK_ok ok_dput (orK_ok ok_putCellX (orK_ok ok_text noK_ok)))))))
  refine FnD_cbv (T := fun _ => tabY [5003] []) (H := fun _ => [kn_rightL GFsL3, kn_named GFsL1, kn_num GFsQ, kn_ballotX GFsL4, kn_put GFs6, kn_dput GFsDq, kn_putCellX GFsL4, kn_text GFsQ]) (tabY_ok _ _) hH follows_mixed Try.func9 rfl Try.ntmps9 (by simp) fun A X W hA hX hW => ?_
  cbv
  have l0 : A.cmp .lss 0 7 = true := by subst hA; rfl
  cbv at l0
  have l1 : A.cmp .lss 1 7 = true := by subst hA; rfl
  cbv at l1
  have l2 : A.cmp .lss 2 7 = true := by subst hA; rfl
  cbv at l2
  have l3 : A.cmp .lss 3 7 = true := by subst hA; rfl
  cbv at l3
  have l4 : A.cmp .lss 4 7 = true := by subst hA; rfl
  cbv at l4
  have l5 : A.cmp .lss 5 7 = true := by subst hA; rfl
  cbv at l5
  have l6 : A.cmp .lss 6 7 = true := by subst hA; rfl
  cbv at l6
  have l7 : A.cmp .lss 7 7 = false := by subst hA; rfl
  cbv at l7
  have b0 : A.bin .add .i64 0 1 = 1 := by subst hA; rfl
  cbv at b0
  have b1 : A.bin .add .i64 1 1 = 2 := by subst hA; rfl
  cbv at b1
  have b2 : A.bin .add .i64 2 1 = 3 := by subst hA; rfl
  cbv at b2
  have b3 : A.bin .add .i64 3 1 = 4 := by subst hA; rfl
  cbv at b3
  have b4 : A.bin .add .i64 4 1 = 5 := by subst hA; rfl
  cbv at b4
  have b5 : A.bin .add .i64 5 1 = 6 := by subst hA; rfl
  cbv at b5
  have b6 : A.bin .add .i64 6 1 = 7 := by subst hA; rfl
  cbv at b6
  have o0_0 : A.off 0 0 1 = 0 := by subst hA; rfl
  cbv at o0_0
  have o0_1 : A.off 0 1 1 = 1 := by subst hA; rfl
  cbv at o0_1
  have o0_2 : A.off 0 2 1 = 2 := by subst hA; rfl
  cbv at o0_2
  have o0_3 : A.off 0 3 1 = 3 := by subst hA; rfl
  cbv at o0_3
  have o0_4 : A.off 0 4 1 = 4 := by subst hA; rfl
  cbv at o0_4
  have o0_5 : A.off 0 5 1 = 5 := by subst hA; rfl
  cbv at o0_5
  have o0_6 : A.off 0 6 1 = 6 := by subst hA; rfl
  cbv at o0_6
  refine part (fun h => ?_) (fun h => ?_)
  · cbv
    subst hA hX hW hGFsL3 hGFsL1 hGFsQ hGFsL4 hGFs6 hGFsDq
    have h9 : (!rightL (⟨m_lkind, m_src, m_dst, m_irep, m_islot, m_be, m_br, m_mkind, m_mclient, m_mseq, m_mkey, m_mfin, m_mold, m_mval, m_tseq, m_td0, m_td1, m_td2, m_td3, m_td4, m_td5, m_td6, m_lstatus, m_lpe, m_lpr, m_lve, m_lvr, m_lckind, m_lcclient, m_lcseq, m_lckey, m_lcfin, m_lcold, m_lcval, m_laseq, m_lad0, m_lad1, m_lad2, m_lad3, m_lad4, m_lad5, m_lad6, m_lsame, m_fd0, m_fd1, m_fd2, m_fd3, m_fd4, m_fd5, m_fd6, m_data⟩ : Letter)) = true := h
    have h0 : rightL (⟨m_lkind, m_src, m_dst, m_irep, m_islot, m_be, m_br, m_mkind, m_mclient, m_mseq, m_mkey, m_mfin, m_mold, m_mval, m_tseq, m_td0, m_td1, m_td2, m_td3, m_td4, m_td5, m_td6, m_lstatus, m_lpe, m_lpr, m_lve, m_lvr, m_lckind, m_lcclient, m_lcseq, m_lckey, m_lcfin, m_lcold, m_lcval, m_laseq, m_lad0, m_lad1, m_lad2, m_lad3, m_lad4, m_lad5, m_lad6, m_lsame, m_fd0, m_fd1, m_fd2, m_fd3, m_fd4, m_fd5, m_fd6, m_data⟩ : Letter) = false := by simpa using h9
    refine ret_nil (sz := 1) ?_
    simp [putLet, h0]
  have hr : rightL (⟨m_lkind, m_src, m_dst, m_irep, m_islot, m_be, m_br, m_mkind, m_mclient, m_mseq, m_mkey, m_mfin, m_mold, m_mval, m_tseq, m_td0, m_td1, m_td2, m_td3, m_td4, m_td5, m_td6, m_lstatus, m_lpe, m_lpr, m_lve, m_lvr, m_lckind, m_lcclient, m_lcseq, m_lckey, m_lcfin, m_lcold, m_lcval, m_laseq, m_lad0, m_lad1, m_lad2, m_lad3, m_lad4, m_lad5, m_lad6, m_lsame, m_fd0, m_fd1, m_fd2, m_fd3, m_fd4, m_fd5, m_fd6, m_data⟩ : Letter) = true := by
    subst hA hGFsL3
    have h9 : (!rightL (⟨m_lkind, m_src, m_dst, m_irep, m_islot, m_be, m_br, m_mkind, m_mclient, m_mseq, m_mkey, m_mfin, m_mold, m_mval, m_tseq, m_td0, m_td1, m_td2, m_td3, m_td4, m_td5, m_td6, m_lstatus, m_lpe, m_lpr, m_lve, m_lvr, m_lckind, m_lcclient, m_lcseq, m_lckey, m_lcfin, m_lcold, m_lcval, m_laseq, m_lad0, m_lad1, m_lad2, m_lad3, m_lad4, m_lad5, m_lad6, m_lsame, m_fd0, m_fd1, m_fd2, m_fd3, m_fd4, m_fd5, m_fd6, m_data⟩ : Letter)) = false := h
    simpa using h9
  have hrp := rightL_parts hr
  obtain ⟨⟨P, ok⟩, hP⟩ : ∃ q, GFsL1.named m_lkind = q := ⟨_, rfl⟩
  have hpp : isParts P := by (have := named_parts m_lkind; subst hGFsL1; rw [show namedP m_lkind = (P, ok) from hP] at this; exact this)
  have hP0 : namedP m_lkind = (P, ok) := by subst hGFsL1; exact hP
  have ott : A.cond true true false = true := by subst hA; rfl
  have otf : A.cond true false false = false := by subst hA; rfl
  have oft : A.cond false true false = false := by subst hA; rfl
  cbv at ott otf oft
  rcases hpp with e | e | e | e | e | e | e | e
  all_goals subst e
  · cbv at hP
    cbv
    simp only [hP]
    cbv
    repeat' first
      | (refine And.intro ?_ ?_)
    rotate_right 1
    · refine unrollL (T := fun _ => tabY [5003] []) (H := fun _ => [kn_rightL GFsL3, kn_named GFsL1, kn_num GFsQ, kn_ballotX GFsL4, kn_put GFs6, kn_dput GFsDq, kn_putCellX GFsL4, kn_text GFsQ]) (tabY_ok _ _) hH follows_mixed hA hX 1 fun R2 hR2 => ?_
      cbv
      refine hR2 _ _ _ ?_
      cbv
      repeat' first
        | (simp only [l0, l1, l2, l3, l4, l5, l6, l7, b0, b1, b2, b3, b4, b5, b6, o0_0, o0_1, o0_2, o0_3, o0_4, o0_5, o0_6, ott, otf, oft]; cbv)
        | (refine And.intro ?_ ?_)
        | (refine hR2 _ _ _ ?_; cbv)
      all_goals clear hR2
      all_goals clear hH
      all_goals subst hA hX hW hGFsL3 hGFsL1 hGFsQ hGFsL4 hGFs6 hGFsDq
      all_goals obtain ⟨⟨k0, k1, k2⟩, ⟨k3, k4⟩, k5, k6, k7, k8, ⟨f0, f1, f2, f3, f4, f5, f6⟩, kd⟩ : okLet (⟨m_lkind, m_src, m_dst, m_irep, m_islot, m_be, m_br, m_mkind, m_mclient, m_mseq, m_mkey, m_mfin, m_mold, m_mval, m_tseq, m_td0, m_td1, m_td2, m_td3, m_td4, m_td5, m_td6, m_lstatus, m_lpe, m_lpr, m_lve, m_lvr, m_lckind, m_lcclient, m_lcseq, m_lckey, m_lcfin, m_lcold, m_lcval, m_laseq, m_lad0, m_lad1, m_lad2, m_lad3, m_lad4, m_lad5, m_lad6, m_lsame, m_fd0, m_fd1, m_fd2, m_fd3, m_fd4, m_fd5, m_fd6, m_data⟩ : Letter) := hp0
      all_goals have b0 : isBn 0 [] := ⟨[], rfl, Nat.le_refl _⟩
      all_goals have b1 := (isBn.num b0 m_lkind)
      all_goals have b2 := (isBn.num b1 m_src)
      all_goals have b3 := (isBn.num b2 m_dst)
      all_goals have b4 := (isBn.num b3 m_irep)
      all_goals have b5 := (isBn.num b4 m_islot)
      all_goals have b6 := (isBn.ballot b5 ⟨m_be, m_br⟩)
      all_goals have b7 := (isBn.put b6 hrp.1)
      all_goals have b8 := (isBn.dput b7 ⟨m_tseq, m_td0, m_td1, m_td2, m_td3, m_td4, m_td5, m_td6⟩)
      all_goals first
        | (show Region.lexB _ _ = true; kernel_rfl)
        | exact k0
        | exact k1
        | exact k2
        | exact k3
        | exact k4
        | exact k5
        | exact k6
        | exact k7
        | exact k8
        | exact f0
        | exact f1
        | exact f2
        | exact f3
        | exact f4
        | exact f5
        | exact f6
        | (show szT _; unfold szT; exact Nat.le_trans kd (by decide))
        | exact b0.le (by omega)
        | exact b0.mono (by omega)
        | exact b1.le (by omega)
        | exact b1.mono (by omega)
        | exact b2.le (by omega)
        | exact b2.mono (by omega)
        | exact b3.le (by omega)
        | exact b3.mono (by omega)
        | exact b4.le (by omega)
        | exact b4.mono (by omega)
        | exact b5.le (by omega)
        | exact b5.mono (by omega)
        | exact b6.le (by omega)
        | exact b6.mono (by omega)
        | exact b7.le (by omega)
        | exact b7.mono (by omega)
        | exact b8.le (by omega)
        | exact b8.mono (by omega)
        | (simp only [A0]; intros; first | assumption | trivial | (simp_all; done))
        | (refine ret_v ?_ rfl
           show DV.d (.slc 1 _) = DV.d (.slc 1 (putLet (⟨m_lkind, m_src, m_dst, m_irep, m_islot, m_be, m_br, m_mkind, m_mclient, m_mseq, m_mkey, m_mfin, m_mold, m_mval, m_tseq, m_td0, m_td1, m_td2, m_td3, m_td4, m_td5, m_td6, m_lstatus, m_lpe, m_lpr, m_lve, m_lvr, m_lckind, m_lcclient, m_lcseq, m_lckey, m_lcfin, m_lcold, m_lcval, m_laseq, m_lad0, m_lad1, m_lad2, m_lad3, m_lad4, m_lad5, m_lad6, m_lsame, m_fd0, m_fd1, m_fd2, m_fd3, m_fd4, m_fd5, m_fd6, m_data⟩ : Letter)))
           have hn : (namedP m_lkind).1 = ⟨true, true, true, true, false, false, false⟩ := congrArg Prod.fst hP0
           unfold putLet
           rw [if_pos hr]
           show _ = DV.d (.slc 1 (putLX (⟨m_lkind, m_src, m_dst, m_irep, m_islot, m_be, m_br, m_mkind, m_mclient, m_mseq, m_mkey, m_mfin, m_mold, m_mval, m_tseq, m_td0, m_td1, m_td2, m_td3, m_td4, m_td5, m_td6, m_lstatus, m_lpe, m_lpr, m_lve, m_lvr, m_lckind, m_lcclient, m_lcseq, m_lckey, m_lcfin, m_lcold, m_lcval, m_laseq, m_lad0, m_lad1, m_lad2, m_lad3, m_lad4, m_lad5, m_lad6, m_lsame, m_fd0, m_fd1, m_fd2, m_fd3, m_fd4, m_fd5, m_fd6, m_data⟩ : Letter) (namedP m_lkind).1))
           rw [hn]
           rfl)
        | (simp; done)
        | exact ⟨by decide, by decide⟩
    all_goals clear hH
    all_goals subst hA hX hW hGFsL3 hGFsL1 hGFsQ hGFsL4 hGFs6 hGFsDq
    all_goals obtain ⟨⟨k0, k1, k2⟩, ⟨k3, k4⟩, k5, k6, k7, k8, ⟨f0, f1, f2, f3, f4, f5, f6⟩, kd⟩ : okLet (⟨m_lkind, m_src, m_dst, m_irep, m_islot, m_be, m_br, m_mkind, m_mclient, m_mseq, m_mkey, m_mfin, m_mold, m_mval, m_tseq, m_td0, m_td1, m_td2, m_td3, m_td4, m_td5, m_td6, m_lstatus, m_lpe, m_lpr, m_lve, m_lvr, m_lckind, m_lcclient, m_lcseq, m_lckey, m_lcfin, m_lcold, m_lcval, m_laseq, m_lad0, m_lad1, m_lad2, m_lad3, m_lad4, m_lad5, m_lad6, m_lsame, m_fd0, m_fd1, m_fd2, m_fd3, m_fd4, m_fd5, m_fd6, m_data⟩ : Letter) := hp0
    all_goals have b0 : isBn 0 [] := ⟨[], rfl, Nat.le_refl _⟩
    all_goals have b1 := (isBn.num b0 m_lkind)
    all_goals have b2 := (isBn.num b1 m_src)
    all_goals have b3 := (isBn.num b2 m_dst)
    all_goals have b4 := (isBn.num b3 m_irep)
    all_goals have b5 := (isBn.num b4 m_islot)
    all_goals have b6 := (isBn.ballot b5 ⟨m_be, m_br⟩)
    all_goals have b7 := (isBn.put b6 hrp.1)
    all_goals have b8 := (isBn.dput b7 ⟨m_tseq, m_td0, m_td1, m_td2, m_td3, m_td4, m_td5, m_td6⟩)
    all_goals first
      | (show Region.lexB _ _ = true; kernel_rfl)
      | exact k0
      | exact k1
      | exact k2
      | exact k3
      | exact k4
      | exact k5
      | exact k6
      | exact k7
      | exact k8
      | exact f0
      | exact f1
      | exact f2
      | exact f3
      | exact f4
      | exact f5
      | exact f6
      | (show szT _; unfold szT; exact Nat.le_trans kd (by decide))
      | exact b0.le (by omega)
      | exact b0.mono (by omega)
      | exact b1.le (by omega)
      | exact b1.mono (by omega)
      | exact b2.le (by omega)
      | exact b2.mono (by omega)
      | exact b3.le (by omega)
      | exact b3.mono (by omega)
      | exact b4.le (by omega)
      | exact b4.mono (by omega)
      | exact b5.le (by omega)
      | exact b5.mono (by omega)
      | exact b6.le (by omega)
      | exact b6.mono (by omega)
      | exact b7.le (by omega)
      | exact b7.mono (by omega)
      | exact b8.le (by omega)
      | exact b8.mono (by omega)
      | (simp only [A0]; intros; first | assumption | trivial | (simp_all; done))
      | (refine ret_v ?_ rfl
         show DV.d (.slc 1 _) = DV.d (.slc 1 (putLet (⟨m_lkind, m_src, m_dst, m_irep, m_islot, m_be, m_br, m_mkind, m_mclient, m_mseq, m_mkey, m_mfin, m_mold, m_mval, m_tseq, m_td0, m_td1, m_td2, m_td3, m_td4, m_td5, m_td6, m_lstatus, m_lpe, m_lpr, m_lve, m_lvr, m_lckind, m_lcclient, m_lcseq, m_lckey, m_lcfin, m_lcold, m_lcval, m_laseq, m_lad0, m_lad1, m_lad2, m_lad3, m_lad4, m_lad5, m_lad6, m_lsame, m_fd0, m_fd1, m_fd2, m_fd3, m_fd4, m_fd5, m_fd6, m_data⟩ : Letter)))
         have hn : (namedP m_lkind).1 = ⟨true, true, true, true, false, false, false⟩ := congrArg Prod.fst hP0
         unfold putLet
         rw [if_pos hr]
         show _ = DV.d (.slc 1 (putLX (⟨m_lkind, m_src, m_dst, m_irep, m_islot, m_be, m_br, m_mkind, m_mclient, m_mseq, m_mkey, m_mfin, m_mold, m_mval, m_tseq, m_td0, m_td1, m_td2, m_td3, m_td4, m_td5, m_td6, m_lstatus, m_lpe, m_lpr, m_lve, m_lvr, m_lckind, m_lcclient, m_lcseq, m_lckey, m_lcfin, m_lcold, m_lcval, m_laseq, m_lad0, m_lad1, m_lad2, m_lad3, m_lad4, m_lad5, m_lad6, m_lsame, m_fd0, m_fd1, m_fd2, m_fd3, m_fd4, m_fd5, m_fd6, m_data⟩ : Letter) (namedP m_lkind).1))
         rw [hn]
         rfl)
      | (simp; done)
      | exact ⟨by decide, by decide⟩
  · cbv at hP
    cbv
    simp only [hP]
    cbv
    repeat' first
      | (refine And.intro ?_ ?_)
    rotate_right 1
    · refine unrollL (T := fun _ => tabY [5003] []) (H := fun _ => [kn_rightL GFsL3, kn_named GFsL1, kn_num GFsQ, kn_ballotX GFsL4, kn_put GFs6, kn_dput GFsDq, kn_putCellX GFsL4, kn_text GFsQ]) (tabY_ok _ _) hH follows_mixed hA hX 1 fun R2 hR2 => ?_
      cbv
      refine hR2 _ _ _ ?_
      cbv
      repeat' first
        | (simp only [l0, l1, l2, l3, l4, l5, l6, l7, b0, b1, b2, b3, b4, b5, b6, o0_0, o0_1, o0_2, o0_3, o0_4, o0_5, o0_6, ott, otf, oft]; cbv)
        | (refine And.intro ?_ ?_)
        | (refine hR2 _ _ _ ?_; cbv)
      all_goals clear hR2
      all_goals clear hH
      all_goals subst hA hX hW hGFsL3 hGFsL1 hGFsQ hGFsL4 hGFs6 hGFsDq
      all_goals obtain ⟨⟨k0, k1, k2⟩, ⟨k3, k4⟩, k5, k6, k7, k8, ⟨f0, f1, f2, f3, f4, f5, f6⟩, kd⟩ : okLet (⟨m_lkind, m_src, m_dst, m_irep, m_islot, m_be, m_br, m_mkind, m_mclient, m_mseq, m_mkey, m_mfin, m_mold, m_mval, m_tseq, m_td0, m_td1, m_td2, m_td3, m_td4, m_td5, m_td6, m_lstatus, m_lpe, m_lpr, m_lve, m_lvr, m_lckind, m_lcclient, m_lcseq, m_lckey, m_lcfin, m_lcold, m_lcval, m_laseq, m_lad0, m_lad1, m_lad2, m_lad3, m_lad4, m_lad5, m_lad6, m_lsame, m_fd0, m_fd1, m_fd2, m_fd3, m_fd4, m_fd5, m_fd6, m_data⟩ : Letter) := hp0
      all_goals have b0 : isBn 0 [] := ⟨[], rfl, Nat.le_refl _⟩
      all_goals have b1 := (isBn.num b0 m_lkind)
      all_goals have b2 := (isBn.num b1 m_src)
      all_goals have b3 := (isBn.num b2 m_dst)
      all_goals have b4 := (isBn.num b3 m_irep)
      all_goals have b5 := (isBn.num b4 m_islot)
      all_goals have b6 := (isBn.ballot b5 ⟨m_be, m_br⟩)
      all_goals have b7 := (isBn.dput b6 ⟨m_tseq, m_td0, m_td1, m_td2, m_td3, m_td4, m_td5, m_td6⟩)
      all_goals first
        | (show Region.lexB _ _ = true; kernel_rfl)
        | exact k0
        | exact k1
        | exact k2
        | exact k3
        | exact k4
        | exact k5
        | exact k6
        | exact k7
        | exact k8
        | exact f0
        | exact f1
        | exact f2
        | exact f3
        | exact f4
        | exact f5
        | exact f6
        | (show szT _; unfold szT; exact Nat.le_trans kd (by decide))
        | exact b0.le (by omega)
        | exact b0.mono (by omega)
        | exact b1.le (by omega)
        | exact b1.mono (by omega)
        | exact b2.le (by omega)
        | exact b2.mono (by omega)
        | exact b3.le (by omega)
        | exact b3.mono (by omega)
        | exact b4.le (by omega)
        | exact b4.mono (by omega)
        | exact b5.le (by omega)
        | exact b5.mono (by omega)
        | exact b6.le (by omega)
        | exact b6.mono (by omega)
        | exact b7.le (by omega)
        | exact b7.mono (by omega)
        | (simp only [A0]; intros; first | assumption | trivial | (simp_all; done))
        | (refine ret_v ?_ rfl
           show DV.d (.slc 1 _) = DV.d (.slc 1 (putLet (⟨m_lkind, m_src, m_dst, m_irep, m_islot, m_be, m_br, m_mkind, m_mclient, m_mseq, m_mkey, m_mfin, m_mold, m_mval, m_tseq, m_td0, m_td1, m_td2, m_td3, m_td4, m_td5, m_td6, m_lstatus, m_lpe, m_lpr, m_lve, m_lvr, m_lckind, m_lcclient, m_lcseq, m_lckey, m_lcfin, m_lcold, m_lcval, m_laseq, m_lad0, m_lad1, m_lad2, m_lad3, m_lad4, m_lad5, m_lad6, m_lsame, m_fd0, m_fd1, m_fd2, m_fd3, m_fd4, m_fd5, m_fd6, m_data⟩ : Letter)))
           have hn : (namedP m_lkind).1 = ⟨true, true, false, true, false, false, false⟩ := congrArg Prod.fst hP0
           unfold putLet
           rw [if_pos hr]
           show _ = DV.d (.slc 1 (putLX (⟨m_lkind, m_src, m_dst, m_irep, m_islot, m_be, m_br, m_mkind, m_mclient, m_mseq, m_mkey, m_mfin, m_mold, m_mval, m_tseq, m_td0, m_td1, m_td2, m_td3, m_td4, m_td5, m_td6, m_lstatus, m_lpe, m_lpr, m_lve, m_lvr, m_lckind, m_lcclient, m_lcseq, m_lckey, m_lcfin, m_lcold, m_lcval, m_laseq, m_lad0, m_lad1, m_lad2, m_lad3, m_lad4, m_lad5, m_lad6, m_lsame, m_fd0, m_fd1, m_fd2, m_fd3, m_fd4, m_fd5, m_fd6, m_data⟩ : Letter) (namedP m_lkind).1))
           rw [hn]
           rfl)
        | (simp; done)
        | exact ⟨by decide, by decide⟩
    all_goals clear hH
    all_goals subst hA hX hW hGFsL3 hGFsL1 hGFsQ hGFsL4 hGFs6 hGFsDq
    all_goals obtain ⟨⟨k0, k1, k2⟩, ⟨k3, k4⟩, k5, k6, k7, k8, ⟨f0, f1, f2, f3, f4, f5, f6⟩, kd⟩ : okLet (⟨m_lkind, m_src, m_dst, m_irep, m_islot, m_be, m_br, m_mkind, m_mclient, m_mseq, m_mkey, m_mfin, m_mold, m_mval, m_tseq, m_td0, m_td1, m_td2, m_td3, m_td4, m_td5, m_td6, m_lstatus, m_lpe, m_lpr, m_lve, m_lvr, m_lckind, m_lcclient, m_lcseq, m_lckey, m_lcfin, m_lcold, m_lcval, m_laseq, m_lad0, m_lad1, m_lad2, m_lad3, m_lad4, m_lad5, m_lad6, m_lsame, m_fd0, m_fd1, m_fd2, m_fd3, m_fd4, m_fd5, m_fd6, m_data⟩ : Letter) := hp0
    all_goals have b0 : isBn 0 [] := ⟨[], rfl, Nat.le_refl _⟩
    all_goals have b1 := (isBn.num b0 m_lkind)
    all_goals have b2 := (isBn.num b1 m_src)
    all_goals have b3 := (isBn.num b2 m_dst)
    all_goals have b4 := (isBn.num b3 m_irep)
    all_goals have b5 := (isBn.num b4 m_islot)
    all_goals have b6 := (isBn.ballot b5 ⟨m_be, m_br⟩)
    all_goals have b7 := (isBn.dput b6 ⟨m_tseq, m_td0, m_td1, m_td2, m_td3, m_td4, m_td5, m_td6⟩)
    all_goals first
      | (show Region.lexB _ _ = true; kernel_rfl)
      | exact k0
      | exact k1
      | exact k2
      | exact k3
      | exact k4
      | exact k5
      | exact k6
      | exact k7
      | exact k8
      | exact f0
      | exact f1
      | exact f2
      | exact f3
      | exact f4
      | exact f5
      | exact f6
      | (show szT _; unfold szT; exact Nat.le_trans kd (by decide))
      | exact b0.le (by omega)
      | exact b0.mono (by omega)
      | exact b1.le (by omega)
      | exact b1.mono (by omega)
      | exact b2.le (by omega)
      | exact b2.mono (by omega)
      | exact b3.le (by omega)
      | exact b3.mono (by omega)
      | exact b4.le (by omega)
      | exact b4.mono (by omega)
      | exact b5.le (by omega)
      | exact b5.mono (by omega)
      | exact b6.le (by omega)
      | exact b6.mono (by omega)
      | exact b7.le (by omega)
      | exact b7.mono (by omega)
      | (simp only [A0]; intros; first | assumption | trivial | (simp_all; done))
      | (refine ret_v ?_ rfl
         show DV.d (.slc 1 _) = DV.d (.slc 1 (putLet (⟨m_lkind, m_src, m_dst, m_irep, m_islot, m_be, m_br, m_mkind, m_mclient, m_mseq, m_mkey, m_mfin, m_mold, m_mval, m_tseq, m_td0, m_td1, m_td2, m_td3, m_td4, m_td5, m_td6, m_lstatus, m_lpe, m_lpr, m_lve, m_lvr, m_lckind, m_lcclient, m_lcseq, m_lckey, m_lcfin, m_lcold, m_lcval, m_laseq, m_lad0, m_lad1, m_lad2, m_lad3, m_lad4, m_lad5, m_lad6, m_lsame, m_fd0, m_fd1, m_fd2, m_fd3, m_fd4, m_fd5, m_fd6, m_data⟩ : Letter)))
         have hn : (namedP m_lkind).1 = ⟨true, true, false, true, false, false, false⟩ := congrArg Prod.fst hP0
         unfold putLet
         rw [if_pos hr]
         show _ = DV.d (.slc 1 (putLX (⟨m_lkind, m_src, m_dst, m_irep, m_islot, m_be, m_br, m_mkind, m_mclient, m_mseq, m_mkey, m_mfin, m_mold, m_mval, m_tseq, m_td0, m_td1, m_td2, m_td3, m_td4, m_td5, m_td6, m_lstatus, m_lpe, m_lpr, m_lve, m_lvr, m_lckind, m_lcclient, m_lcseq, m_lckey, m_lcfin, m_lcold, m_lcval, m_laseq, m_lad0, m_lad1, m_lad2, m_lad3, m_lad4, m_lad5, m_lad6, m_lsame, m_fd0, m_fd1, m_fd2, m_fd3, m_fd4, m_fd5, m_fd6, m_data⟩ : Letter) (namedP m_lkind).1))
         rw [hn]
         rfl)
      | (simp; done)
      | exact ⟨by decide, by decide⟩
  · cbv at hP
    cbv
    simp only [hP]
    cbv
    repeat' first
      | (refine And.intro ?_ ?_)
    rotate_right 1
    · refine unrollL (T := fun _ => tabY [5003] []) (H := fun _ => [kn_rightL GFsL3, kn_named GFsL1, kn_num GFsQ, kn_ballotX GFsL4, kn_put GFs6, kn_dput GFsDq, kn_putCellX GFsL4, kn_text GFsQ]) (tabY_ok _ _) hH follows_mixed hA hX 1 fun R2 hR2 => ?_
      cbv
      refine hR2 _ _ _ ?_
      cbv
      repeat' first
        | (simp only [l0, l1, l2, l3, l4, l5, l6, l7, b0, b1, b2, b3, b4, b5, b6, o0_0, o0_1, o0_2, o0_3, o0_4, o0_5, o0_6, ott, otf, oft]; cbv)
        | (refine And.intro ?_ ?_)
        | (refine hR2 _ _ _ ?_; cbv)
      all_goals clear hR2
      all_goals clear hH
      all_goals subst hA hX hW hGFsL3 hGFsL1 hGFsQ hGFsL4 hGFs6 hGFsDq
      all_goals obtain ⟨⟨k0, k1, k2⟩, ⟨k3, k4⟩, k5, k6, k7, k8, ⟨f0, f1, f2, f3, f4, f5, f6⟩, kd⟩ : okLet (⟨m_lkind, m_src, m_dst, m_irep, m_islot, m_be, m_br, m_mkind, m_mclient, m_mseq, m_mkey, m_mfin, m_mold, m_mval, m_tseq, m_td0, m_td1, m_td2, m_td3, m_td4, m_td5, m_td6, m_lstatus, m_lpe, m_lpr, m_lve, m_lvr, m_lckind, m_lcclient, m_lcseq, m_lckey, m_lcfin, m_lcold, m_lcval, m_laseq, m_lad0, m_lad1, m_lad2, m_lad3, m_lad4, m_lad5, m_lad6, m_lsame, m_fd0, m_fd1, m_fd2, m_fd3, m_fd4, m_fd5, m_fd6, m_data⟩ : Letter) := hp0
      all_goals have b0 : isBn 0 [] := ⟨[], rfl, Nat.le_refl _⟩
      all_goals have b1 := (isBn.num b0 m_lkind)
      all_goals have b2 := (isBn.num b1 m_src)
      all_goals have b3 := (isBn.num b2 m_dst)
      all_goals have b4 := (isBn.num b3 m_irep)
      all_goals have b5 := (isBn.num b4 m_islot)
      all_goals have b6 := (isBn.ballot b5 ⟨m_be, m_br⟩)
      all_goals first
        | (show Region.lexB _ _ = true; kernel_rfl)
        | exact k0
        | exact k1
        | exact k2
        | exact k3
        | exact k4
        | exact k5
        | exact k6
        | exact k7
        | exact k8
        | exact f0
        | exact f1
        | exact f2
        | exact f3
        | exact f4
        | exact f5
        | exact f6
        | (show szT _; unfold szT; exact Nat.le_trans kd (by decide))
        | exact b0.le (by omega)
        | exact b0.mono (by omega)
        | exact b1.le (by omega)
        | exact b1.mono (by omega)
        | exact b2.le (by omega)
        | exact b2.mono (by omega)
        | exact b3.le (by omega)
        | exact b3.mono (by omega)
        | exact b4.le (by omega)
        | exact b4.mono (by omega)
        | exact b5.le (by omega)
        | exact b5.mono (by omega)
        | exact b6.le (by omega)
        | exact b6.mono (by omega)
        | (simp only [A0]; intros; first | assumption | trivial | (simp_all; done))
        | (refine ret_v ?_ rfl
           show DV.d (.slc 1 _) = DV.d (.slc 1 (putLet (⟨m_lkind, m_src, m_dst, m_irep, m_islot, m_be, m_br, m_mkind, m_mclient, m_mseq, m_mkey, m_mfin, m_mold, m_mval, m_tseq, m_td0, m_td1, m_td2, m_td3, m_td4, m_td5, m_td6, m_lstatus, m_lpe, m_lpr, m_lve, m_lvr, m_lckind, m_lcclient, m_lcseq, m_lckey, m_lcfin, m_lcold, m_lcval, m_laseq, m_lad0, m_lad1, m_lad2, m_lad3, m_lad4, m_lad5, m_lad6, m_lsame, m_fd0, m_fd1, m_fd2, m_fd3, m_fd4, m_fd5, m_fd6, m_data⟩ : Letter)))
           have hn : (namedP m_lkind).1 = ⟨true, true, false, false, false, false, false⟩ := congrArg Prod.fst hP0
           unfold putLet
           rw [if_pos hr]
           show _ = DV.d (.slc 1 (putLX (⟨m_lkind, m_src, m_dst, m_irep, m_islot, m_be, m_br, m_mkind, m_mclient, m_mseq, m_mkey, m_mfin, m_mold, m_mval, m_tseq, m_td0, m_td1, m_td2, m_td3, m_td4, m_td5, m_td6, m_lstatus, m_lpe, m_lpr, m_lve, m_lvr, m_lckind, m_lcclient, m_lcseq, m_lckey, m_lcfin, m_lcold, m_lcval, m_laseq, m_lad0, m_lad1, m_lad2, m_lad3, m_lad4, m_lad5, m_lad6, m_lsame, m_fd0, m_fd1, m_fd2, m_fd3, m_fd4, m_fd5, m_fd6, m_data⟩ : Letter) (namedP m_lkind).1))
           rw [hn]
           rfl)
        | (simp; done)
        | exact ⟨by decide, by decide⟩
    all_goals clear hH
    all_goals subst hA hX hW hGFsL3 hGFsL1 hGFsQ hGFsL4 hGFs6 hGFsDq
    all_goals obtain ⟨⟨k0, k1, k2⟩, ⟨k3, k4⟩, k5, k6, k7, k8, ⟨f0, f1, f2, f3, f4, f5, f6⟩, kd⟩ : okLet (⟨m_lkind, m_src, m_dst, m_irep, m_islot, m_be, m_br, m_mkind, m_mclient, m_mseq, m_mkey, m_mfin, m_mold, m_mval, m_tseq, m_td0, m_td1, m_td2, m_td3, m_td4, m_td5, m_td6, m_lstatus, m_lpe, m_lpr, m_lve, m_lvr, m_lckind, m_lcclient, m_lcseq, m_lckey, m_lcfin, m_lcold, m_lcval, m_laseq, m_lad0, m_lad1, m_lad2, m_lad3, m_lad4, m_lad5, m_lad6, m_lsame, m_fd0, m_fd1, m_fd2, m_fd3, m_fd4, m_fd5, m_fd6, m_data⟩ : Letter) := hp0
    all_goals have b0 : isBn 0 [] := ⟨[], rfl, Nat.le_refl _⟩
    all_goals have b1 := (isBn.num b0 m_lkind)
    all_goals have b2 := (isBn.num b1 m_src)
    all_goals have b3 := (isBn.num b2 m_dst)
    all_goals have b4 := (isBn.num b3 m_irep)
    all_goals have b5 := (isBn.num b4 m_islot)
    all_goals have b6 := (isBn.ballot b5 ⟨m_be, m_br⟩)
    all_goals first
      | (show Region.lexB _ _ = true; kernel_rfl)
      | exact k0
      | exact k1
      | exact k2
      | exact k3
      | exact k4
      | exact k5
      | exact k6
      | exact k7
      | exact k8
      | exact f0
      | exact f1
      | exact f2
      | exact f3
      | exact f4
      | exact f5
      | exact f6
      | (show szT _; unfold szT; exact Nat.le_trans kd (by decide))
      | exact b0.le (by omega)
      | exact b0.mono (by omega)
      | exact b1.le (by omega)
      | exact b1.mono (by omega)
      | exact b2.le (by omega)
      | exact b2.mono (by omega)
      | exact b3.le (by omega)
      | exact b3.mono (by omega)
      | exact b4.le (by omega)
      | exact b4.mono (by omega)
      | exact b5.le (by omega)
      | exact b5.mono (by omega)
      | exact b6.le (by omega)
      | exact b6.mono (by omega)
      | (simp only [A0]; intros; first | assumption | trivial | (simp_all; done))
      | (refine ret_v ?_ rfl
         show DV.d (.slc 1 _) = DV.d (.slc 1 (putLet (⟨m_lkind, m_src, m_dst, m_irep, m_islot, m_be, m_br, m_mkind, m_mclient, m_mseq, m_mkey, m_mfin, m_mold, m_mval, m_tseq, m_td0, m_td1, m_td2, m_td3, m_td4, m_td5, m_td6, m_lstatus, m_lpe, m_lpr, m_lve, m_lvr, m_lckind, m_lcclient, m_lcseq, m_lckey, m_lcfin, m_lcold, m_lcval, m_laseq, m_lad0, m_lad1, m_lad2, m_lad3, m_lad4, m_lad5, m_lad6, m_lsame, m_fd0, m_fd1, m_fd2, m_fd3, m_fd4, m_fd5, m_fd6, m_data⟩ : Letter)))
         have hn : (namedP m_lkind).1 = ⟨true, true, false, false, false, false, false⟩ := congrArg Prod.fst hP0
         unfold putLet
         rw [if_pos hr]
         show _ = DV.d (.slc 1 (putLX (⟨m_lkind, m_src, m_dst, m_irep, m_islot, m_be, m_br, m_mkind, m_mclient, m_mseq, m_mkey, m_mfin, m_mold, m_mval, m_tseq, m_td0, m_td1, m_td2, m_td3, m_td4, m_td5, m_td6, m_lstatus, m_lpe, m_lpr, m_lve, m_lvr, m_lckind, m_lcclient, m_lcseq, m_lckey, m_lcfin, m_lcold, m_lcval, m_laseq, m_lad0, m_lad1, m_lad2, m_lad3, m_lad4, m_lad5, m_lad6, m_lsame, m_fd0, m_fd1, m_fd2, m_fd3, m_fd4, m_fd5, m_fd6, m_data⟩ : Letter) (namedP m_lkind).1))
         rw [hn]
         rfl)
      | (simp; done)
      | exact ⟨by decide, by decide⟩
  · cbv at hP
    cbv
    simp only [hP]
    cbv
    repeat' first
      | (refine And.intro ?_ ?_)
    rotate_right 1
    · refine unrollL (T := fun _ => tabY [5003] []) (H := fun _ => [kn_rightL GFsL3, kn_named GFsL1, kn_num GFsQ, kn_ballotX GFsL4, kn_put GFs6, kn_dput GFsDq, kn_putCellX GFsL4, kn_text GFsQ]) (tabY_ok _ _) hH follows_mixed hA hX 1 fun R2 hR2 => ?_
      cbv
      refine hR2 _ _ _ ?_
      cbv
      repeat' first
        | (simp only [l0, l1, l2, l3, l4, l5, l6, l7, b0, b1, b2, b3, b4, b5, b6, o0_0, o0_1, o0_2, o0_3, o0_4, o0_5, o0_6, ott, otf, oft]; cbv)
        | (refine And.intro ?_ ?_)
        | (refine hR2 _ _ _ ?_; cbv)
      all_goals clear hR2
      all_goals clear hH
      all_goals subst hA hX hW hGFsL3 hGFsL1 hGFsQ hGFsL4 hGFs6 hGFsDq
      all_goals obtain ⟨⟨k0, k1, k2⟩, ⟨k3, k4⟩, k5, k6, k7, k8, ⟨f0, f1, f2, f3, f4, f5, f6⟩, kd⟩ : okLet (⟨m_lkind, m_src, m_dst, m_irep, m_islot, m_be, m_br, m_mkind, m_mclient, m_mseq, m_mkey, m_mfin, m_mold, m_mval, m_tseq, m_td0, m_td1, m_td2, m_td3, m_td4, m_td5, m_td6, m_lstatus, m_lpe, m_lpr, m_lve, m_lvr, m_lckind, m_lcclient, m_lcseq, m_lckey, m_lcfin, m_lcold, m_lcval, m_laseq, m_lad0, m_lad1, m_lad2, m_lad3, m_lad4, m_lad5, m_lad6, m_lsame, m_fd0, m_fd1, m_fd2, m_fd3, m_fd4, m_fd5, m_fd6, m_data⟩ : Letter) := hp0
      all_goals have b0 : isBn 0 [] := ⟨[], rfl, Nat.le_refl _⟩
      all_goals have b1 := (isBn.num b0 m_lkind)
      all_goals have b2 := (isBn.num b1 m_src)
      all_goals have b3 := (isBn.num b2 m_dst)
      all_goals have b4 := (isBn.num b3 m_irep)
      all_goals have b5 := (isBn.num b4 m_islot)
      all_goals have b6 := (isBn.put b5 hrp.1)
      all_goals have b7 := (isBn.dput b6 ⟨m_tseq, m_td0, m_td1, m_td2, m_td3, m_td4, m_td5, m_td6⟩)
      all_goals first
        | (show Region.lexB _ _ = true; kernel_rfl)
        | exact k0
        | exact k1
        | exact k2
        | exact k3
        | exact k4
        | exact k5
        | exact k6
        | exact k7
        | exact k8
        | exact f0
        | exact f1
        | exact f2
        | exact f3
        | exact f4
        | exact f5
        | exact f6
        | (show szT _; unfold szT; exact Nat.le_trans kd (by decide))
        | exact b0.le (by omega)
        | exact b0.mono (by omega)
        | exact b1.le (by omega)
        | exact b1.mono (by omega)
        | exact b2.le (by omega)
        | exact b2.mono (by omega)
        | exact b3.le (by omega)
        | exact b3.mono (by omega)
        | exact b4.le (by omega)
        | exact b4.mono (by omega)
        | exact b5.le (by omega)
        | exact b5.mono (by omega)
        | exact b6.le (by omega)
        | exact b6.mono (by omega)
        | exact b7.le (by omega)
        | exact b7.mono (by omega)
        | (simp only [A0]; intros; first | assumption | trivial | (simp_all; done))
        | (refine ret_v ?_ rfl
           show DV.d (.slc 1 _) = DV.d (.slc 1 (putLet (⟨m_lkind, m_src, m_dst, m_irep, m_islot, m_be, m_br, m_mkind, m_mclient, m_mseq, m_mkey, m_mfin, m_mold, m_mval, m_tseq, m_td0, m_td1, m_td2, m_td3, m_td4, m_td5, m_td6, m_lstatus, m_lpe, m_lpr, m_lve, m_lvr, m_lckind, m_lcclient, m_lcseq, m_lckey, m_lcfin, m_lcold, m_lcval, m_laseq, m_lad0, m_lad1, m_lad2, m_lad3, m_lad4, m_lad5, m_lad6, m_lsame, m_fd0, m_fd1, m_fd2, m_fd3, m_fd4, m_fd5, m_fd6, m_data⟩ : Letter)))
           have hn : (namedP m_lkind).1 = ⟨true, false, true, true, false, false, false⟩ := congrArg Prod.fst hP0
           unfold putLet
           rw [if_pos hr]
           show _ = DV.d (.slc 1 (putLX (⟨m_lkind, m_src, m_dst, m_irep, m_islot, m_be, m_br, m_mkind, m_mclient, m_mseq, m_mkey, m_mfin, m_mold, m_mval, m_tseq, m_td0, m_td1, m_td2, m_td3, m_td4, m_td5, m_td6, m_lstatus, m_lpe, m_lpr, m_lve, m_lvr, m_lckind, m_lcclient, m_lcseq, m_lckey, m_lcfin, m_lcold, m_lcval, m_laseq, m_lad0, m_lad1, m_lad2, m_lad3, m_lad4, m_lad5, m_lad6, m_lsame, m_fd0, m_fd1, m_fd2, m_fd3, m_fd4, m_fd5, m_fd6, m_data⟩ : Letter) (namedP m_lkind).1))
           rw [hn]
           rfl)
        | (simp; done)
        | exact ⟨by decide, by decide⟩
    all_goals clear hH
    all_goals subst hA hX hW hGFsL3 hGFsL1 hGFsQ hGFsL4 hGFs6 hGFsDq
    all_goals obtain ⟨⟨k0, k1, k2⟩, ⟨k3, k4⟩, k5, k6, k7, k8, ⟨f0, f1, f2, f3, f4, f5, f6⟩, kd⟩ : okLet (⟨m_lkind, m_src, m_dst, m_irep, m_islot, m_be, m_br, m_mkind, m_mclient, m_mseq, m_mkey, m_mfin, m_mold, m_mval, m_tseq, m_td0, m_td1, m_td2, m_td3, m_td4, m_td5, m_td6, m_lstatus, m_lpe, m_lpr, m_lve, m_lvr, m_lckind, m_lcclient, m_lcseq, m_lckey, m_lcfin, m_lcold, m_lcval, m_laseq, m_lad0, m_lad1, m_lad2, m_lad3, m_lad4, m_lad5, m_lad6, m_lsame, m_fd0, m_fd1, m_fd2, m_fd3, m_fd4, m_fd5, m_fd6, m_data⟩ : Letter) := hp0
    all_goals have b0 : isBn 0 [] := ⟨[], rfl, Nat.le_refl _⟩
    all_goals have b1 := (isBn.num b0 m_lkind)
    all_goals have b2 := (isBn.num b1 m_src)
    all_goals have b3 := (isBn.num b2 m_dst)
    all_goals have b4 := (isBn.num b3 m_irep)
    all_goals have b5 := (isBn.num b4 m_islot)
    all_goals have b6 := (isBn.put b5 hrp.1)
    all_goals have b7 := (isBn.dput b6 ⟨m_tseq, m_td0, m_td1, m_td2, m_td3, m_td4, m_td5, m_td6⟩)
    all_goals first
      | (show Region.lexB _ _ = true; kernel_rfl)
      | exact k0
      | exact k1
      | exact k2
      | exact k3
      | exact k4
      | exact k5
      | exact k6
      | exact k7
      | exact k8
      | exact f0
      | exact f1
      | exact f2
      | exact f3
      | exact f4
      | exact f5
      | exact f6
      | (show szT _; unfold szT; exact Nat.le_trans kd (by decide))
      | exact b0.le (by omega)
      | exact b0.mono (by omega)
      | exact b1.le (by omega)
      | exact b1.mono (by omega)
      | exact b2.le (by omega)
      | exact b2.mono (by omega)
      | exact b3.le (by omega)
      | exact b3.mono (by omega)
      | exact b4.le (by omega)
      | exact b4.mono (by omega)
      | exact b5.le (by omega)
      | exact b5.mono (by omega)
      | exact b6.le (by omega)
      | exact b6.mono (by omega)
      | exact b7.le (by omega)
      | exact b7.mono (by omega)
      | (simp only [A0]; intros; first | assumption | trivial | (simp_all; done))
      | (refine ret_v ?_ rfl
         show DV.d (.slc 1 _) = DV.d (.slc 1 (putLet (⟨m_lkind, m_src, m_dst, m_irep, m_islot, m_be, m_br, m_mkind, m_mclient, m_mseq, m_mkey, m_mfin, m_mold, m_mval, m_tseq, m_td0, m_td1, m_td2, m_td3, m_td4, m_td5, m_td6, m_lstatus, m_lpe, m_lpr, m_lve, m_lvr, m_lckind, m_lcclient, m_lcseq, m_lckey, m_lcfin, m_lcold, m_lcval, m_laseq, m_lad0, m_lad1, m_lad2, m_lad3, m_lad4, m_lad5, m_lad6, m_lsame, m_fd0, m_fd1, m_fd2, m_fd3, m_fd4, m_fd5, m_fd6, m_data⟩ : Letter)))
         have hn : (namedP m_lkind).1 = ⟨true, false, true, true, false, false, false⟩ := congrArg Prod.fst hP0
         unfold putLet
         rw [if_pos hr]
         show _ = DV.d (.slc 1 (putLX (⟨m_lkind, m_src, m_dst, m_irep, m_islot, m_be, m_br, m_mkind, m_mclient, m_mseq, m_mkey, m_mfin, m_mold, m_mval, m_tseq, m_td0, m_td1, m_td2, m_td3, m_td4, m_td5, m_td6, m_lstatus, m_lpe, m_lpr, m_lve, m_lvr, m_lckind, m_lcclient, m_lcseq, m_lckey, m_lcfin, m_lcold, m_lcval, m_laseq, m_lad0, m_lad1, m_lad2, m_lad3, m_lad4, m_lad5, m_lad6, m_lsame, m_fd0, m_fd1, m_fd2, m_fd3, m_fd4, m_fd5, m_fd6, m_data⟩ : Letter) (namedP m_lkind).1))
         rw [hn]
         rfl)
      | (simp; done)
      | exact ⟨by decide, by decide⟩
  · cbv at hP
    cbv
    simp only [hP]
    cbv
    repeat' first
      | (refine And.intro ?_ ?_)
    rotate_right 1
    · refine unrollL (T := fun _ => tabY [5003] []) (H := fun _ => [kn_rightL GFsL3, kn_named GFsL1, kn_num GFsQ, kn_ballotX GFsL4, kn_put GFs6, kn_dput GFsDq, kn_putCellX GFsL4, kn_text GFsQ]) (tabY_ok _ _) hH follows_mixed hA hX 1 fun R2 hR2 => ?_
      cbv
      refine hR2 _ _ _ ?_
      cbv
      repeat' first
        | (simp only [l0, l1, l2, l3, l4, l5, l6, l7, b0, b1, b2, b3, b4, b5, b6, o0_0, o0_1, o0_2, o0_3, o0_4, o0_5, o0_6, ott, otf, oft]; cbv)
        | (refine And.intro ?_ ?_)
        | (refine hR2 _ _ _ ?_; cbv)
      all_goals clear hR2
      all_goals clear hH
      all_goals subst hA hX hW hGFsL3 hGFsL1 hGFsQ hGFsL4 hGFs6 hGFsDq
      all_goals obtain ⟨⟨k0, k1, k2⟩, ⟨k3, k4⟩, k5, k6, k7, k8, ⟨f0, f1, f2, f3, f4, f5, f6⟩, kd⟩ : okLet (⟨m_lkind, m_src, m_dst, m_irep, m_islot, m_be, m_br, m_mkind, m_mclient, m_mseq, m_mkey, m_mfin, m_mold, m_mval, m_tseq, m_td0, m_td1, m_td2, m_td3, m_td4, m_td5, m_td6, m_lstatus, m_lpe, m_lpr, m_lve, m_lvr, m_lckind, m_lcclient, m_lcseq, m_lckey, m_lcfin, m_lcold, m_lcval, m_laseq, m_lad0, m_lad1, m_lad2, m_lad3, m_lad4, m_lad5, m_lad6, m_lsame, m_fd0, m_fd1, m_fd2, m_fd3, m_fd4, m_fd5, m_fd6, m_data⟩ : Letter) := hp0
      all_goals have b0 : isBn 0 [] := ⟨[], rfl, Nat.le_refl _⟩
      all_goals have b1 := (isBn.num b0 m_lkind)
      all_goals have b2 := (isBn.num b1 m_src)
      all_goals have b3 := (isBn.num b2 m_dst)
      all_goals have b4 := (isBn.num b3 m_irep)
      all_goals have b5 := (isBn.num b4 m_islot)
      all_goals have b6 := (isBn.ballot b5 ⟨m_be, m_br⟩)
      all_goals have b7 := (isBn.cell b6 hrp.2.2)
      all_goals first
        | (show Region.lexB _ _ = true; kernel_rfl)
        | exact k0
        | exact k1
        | exact k2
        | exact k3
        | exact k4
        | exact k5
        | exact k6
        | exact k7
        | exact k8
        | exact f0
        | exact f1
        | exact f2
        | exact f3
        | exact f4
        | exact f5
        | exact f6
        | (show szT _; unfold szT; exact Nat.le_trans kd (by decide))
        | exact b0.le (by omega)
        | exact b0.mono (by omega)
        | exact b1.le (by omega)
        | exact b1.mono (by omega)
        | exact b2.le (by omega)
        | exact b2.mono (by omega)
        | exact b3.le (by omega)
        | exact b3.mono (by omega)
        | exact b4.le (by omega)
        | exact b4.mono (by omega)
        | exact b5.le (by omega)
        | exact b5.mono (by omega)
        | exact b6.le (by omega)
        | exact b6.mono (by omega)
        | exact b7.le (by omega)
        | exact b7.mono (by omega)
        | (simp only [A0]; intros; first | assumption | trivial | (simp_all; done))
        | (refine ret_v ?_ rfl
           show DV.d (.slc 1 _) = DV.d (.slc 1 (putLet (⟨m_lkind, m_src, m_dst, m_irep, m_islot, m_be, m_br, m_mkind, m_mclient, m_mseq, m_mkey, m_mfin, m_mold, m_mval, m_tseq, m_td0, m_td1, m_td2, m_td3, m_td4, m_td5, m_td6, m_lstatus, m_lpe, m_lpr, m_lve, m_lvr, m_lckind, m_lcclient, m_lcseq, m_lckey, m_lcfin, m_lcold, m_lcval, m_laseq, m_lad0, m_lad1, m_lad2, m_lad3, m_lad4, m_lad5, m_lad6, m_lsame, m_fd0, m_fd1, m_fd2, m_fd3, m_fd4, m_fd5, m_fd6, m_data⟩ : Letter)))
           have hn : (namedP m_lkind).1 = ⟨true, true, false, false, true, false, false⟩ := congrArg Prod.fst hP0
           unfold putLet
           rw [if_pos hr]
           show _ = DV.d (.slc 1 (putLX (⟨m_lkind, m_src, m_dst, m_irep, m_islot, m_be, m_br, m_mkind, m_mclient, m_mseq, m_mkey, m_mfin, m_mold, m_mval, m_tseq, m_td0, m_td1, m_td2, m_td3, m_td4, m_td5, m_td6, m_lstatus, m_lpe, m_lpr, m_lve, m_lvr, m_lckind, m_lcclient, m_lcseq, m_lckey, m_lcfin, m_lcold, m_lcval, m_laseq, m_lad0, m_lad1, m_lad2, m_lad3, m_lad4, m_lad5, m_lad6, m_lsame, m_fd0, m_fd1, m_fd2, m_fd3, m_fd4, m_fd5, m_fd6, m_data⟩ : Letter) (namedP m_lkind).1))
           rw [hn]
           rfl)
        | (simp; done)
        | exact ⟨by decide, by decide⟩
    all_goals clear hH
    all_goals subst hA hX hW hGFsL3 hGFsL1 hGFsQ hGFsL4 hGFs6 hGFsDq
    all_goals obtain ⟨⟨k0, k1, k2⟩, ⟨k3, k4⟩, k5, k6, k7, k8, ⟨f0, f1, f2, f3, f4, f5, f6⟩, kd⟩ : okLet (⟨m_lkind, m_src, m_dst, m_irep, m_islot, m_be, m_br, m_mkind, m_mclient, m_mseq, m_mkey, m_mfin, m_mold, m_mval, m_tseq, m_td0, m_td1, m_td2, m_td3, m_td4, m_td5, m_td6, m_lstatus, m_lpe, m_lpr, m_lve, m_lvr, m_lckind, m_lcclient, m_lcseq, m_lckey, m_lcfin, m_lcold, m_lcval, m_laseq, m_lad0, m_lad1, m_lad2, m_lad3, m_lad4, m_lad5, m_lad6, m_lsame, m_fd0, m_fd1, m_fd2, m_fd3, m_fd4, m_fd5, m_fd6, m_data⟩ : Letter) := hp0
    all_goals have b0 : isBn 0 [] := ⟨[], rfl, Nat.le_refl _⟩
    all_goals have b1 := (isBn.num b0 m_lkind)
    all_goals have b2 := (isBn.num b1 m_src)
    all_goals have b3 := (isBn.num b2 m_dst)
    all_goals have b4 := (isBn.num b3 m_irep)
    all_goals have b5 := (isBn.num b4 m_islot)
    all_goals have b6 := (isBn.ballot b5 ⟨m_be, m_br⟩)
    all_goals have b7 := (isBn.cell b6 hrp.2.2)
    all_goals first
      | (show Region.lexB _ _ = true; kernel_rfl)
      | exact k0
      | exact k1
      | exact k2
      | exact k3
      | exact k4
      | exact k5
      | exact k6
      | exact k7
      | exact k8
      | exact f0
      | exact f1
      | exact f2
      | exact f3
      | exact f4
      | exact f5
      | exact f6
      | (show szT _; unfold szT; exact Nat.le_trans kd (by decide))
      | exact b0.le (by omega)
      | exact b0.mono (by omega)
      | exact b1.le (by omega)
      | exact b1.mono (by omega)
      | exact b2.le (by omega)
      | exact b2.mono (by omega)
      | exact b3.le (by omega)
      | exact b3.mono (by omega)
      | exact b4.le (by omega)
      | exact b4.mono (by omega)
      | exact b5.le (by omega)
      | exact b5.mono (by omega)
      | exact b6.le (by omega)
      | exact b6.mono (by omega)
      | exact b7.le (by omega)
      | exact b7.mono (by omega)
      | (simp only [A0]; intros; first | assumption | trivial | (simp_all; done))
      | (refine ret_v ?_ rfl
         show DV.d (.slc 1 _) = DV.d (.slc 1 (putLet (⟨m_lkind, m_src, m_dst, m_irep, m_islot, m_be, m_br, m_mkind, m_mclient, m_mseq, m_mkey, m_mfin, m_mold, m_mval, m_tseq, m_td0, m_td1, m_td2, m_td3, m_td4, m_td5, m_td6, m_lstatus, m_lpe, m_lpr, m_lve, m_lvr, m_lckind, m_lcclient, m_lcseq, m_lckey, m_lcfin, m_lcold, m_lcval, m_laseq, m_lad0, m_lad1, m_lad2, m_lad3, m_lad4, m_lad5, m_lad6, m_lsame, m_fd0, m_fd1, m_fd2, m_fd3, m_fd4, m_fd5, m_fd6, m_data⟩ : Letter)))
         have hn : (namedP m_lkind).1 = ⟨true, true, false, false, true, false, false⟩ := congrArg Prod.fst hP0
         unfold putLet
         rw [if_pos hr]
         show _ = DV.d (.slc 1 (putLX (⟨m_lkind, m_src, m_dst, m_irep, m_islot, m_be, m_br, m_mkind, m_mclient, m_mseq, m_mkey, m_mfin, m_mold, m_mval, m_tseq, m_td0, m_td1, m_td2, m_td3, m_td4, m_td5, m_td6, m_lstatus, m_lpe, m_lpr, m_lve, m_lvr, m_lckind, m_lcclient, m_lcseq, m_lckey, m_lcfin, m_lcold, m_lcval, m_laseq, m_lad0, m_lad1, m_lad2, m_lad3, m_lad4, m_lad5, m_lad6, m_lsame, m_fd0, m_fd1, m_fd2, m_fd3, m_fd4, m_fd5, m_fd6, m_data⟩ : Letter) (namedP m_lkind).1))
         rw [hn]
         rfl)
      | (simp; done)
      | exact ⟨by decide, by decide⟩
  · cbv at hP
    cbv
    simp only [hP]
    cbv
    repeat' first
      | (refine And.intro ?_ ?_)
    rotate_right 1
    · refine unrollL (T := fun _ => tabY [5003] []) (H := fun _ => [kn_rightL GFsL3, kn_named GFsL1, kn_num GFsQ, kn_ballotX GFsL4, kn_put GFs6, kn_dput GFsDq, kn_putCellX GFsL4, kn_text GFsQ]) (tabY_ok _ _) hH follows_mixed hA hX 9 fun R2 hR2 => ?_
      cbv
      refine hR2 _ _ _ ?_
      cbv
      repeat' first
        | (simp only [l0, l1, l2, l3, l4, l5, l6, l7, b0, b1, b2, b3, b4, b5, b6, o0_0, o0_1, o0_2, o0_3, o0_4, o0_5, o0_6, ott, otf, oft]; cbv)
        | (refine And.intro ?_ ?_)
        | (refine hR2 _ _ _ ?_; cbv)
      all_goals clear hR2
      all_goals clear hH
      all_goals subst hA hX hW hGFsL3 hGFsL1 hGFsQ hGFsL4 hGFs6 hGFsDq
      all_goals obtain ⟨⟨k0, k1, k2⟩, ⟨k3, k4⟩, k5, k6, k7, k8, ⟨f0, f1, f2, f3, f4, f5, f6⟩, kd⟩ : okLet (⟨m_lkind, m_src, m_dst, m_irep, m_islot, m_be, m_br, m_mkind, m_mclient, m_mseq, m_mkey, m_mfin, m_mold, m_mval, m_tseq, m_td0, m_td1, m_td2, m_td3, m_td4, m_td5, m_td6, m_lstatus, m_lpe, m_lpr, m_lve, m_lvr, m_lckind, m_lcclient, m_lcseq, m_lckey, m_lcfin, m_lcold, m_lcval, m_laseq, m_lad0, m_lad1, m_lad2, m_lad3, m_lad4, m_lad5, m_lad6, m_lsame, m_fd0, m_fd1, m_fd2, m_fd3, m_fd4, m_fd5, m_fd6, m_data⟩ : Letter) := hp0
      all_goals have b0 : isBn 0 [] := ⟨[], rfl, Nat.le_refl _⟩
      all_goals have b1 := (isBn.num b0 m_lkind)
      all_goals have b2 := (isBn.num b1 m_src)
      all_goals have b3 := (isBn.num b2 m_dst)
      all_goals have b4 := (isBn.num b3 m_fd0)
      all_goals have b5 := (isBn.num b4 m_fd1)
      all_goals have b6 := (isBn.num b5 m_fd2)
      all_goals have b7 := (isBn.num b6 m_fd3)
      all_goals have b8 := (isBn.num b7 m_fd4)
      all_goals have b9 := (isBn.num b8 m_fd5)
      all_goals have b10 := (isBn.num b9 m_fd6)
      all_goals first
        | (show Region.lexB _ _ = true; kernel_rfl)
        | exact k0
        | exact k1
        | exact k2
        | exact k3
        | exact k4
        | exact k5
        | exact k6
        | exact k7
        | exact k8
        | exact f0
        | exact f1
        | exact f2
        | exact f3
        | exact f4
        | exact f5
        | exact f6
        | (show szT _; unfold szT; exact Nat.le_trans kd (by decide))
        | exact b0.le (by omega)
        | exact b0.mono (by omega)
        | exact b1.le (by omega)
        | exact b1.mono (by omega)
        | exact b2.le (by omega)
        | exact b2.mono (by omega)
        | exact b3.le (by omega)
        | exact b3.mono (by omega)
        | exact b4.le (by omega)
        | exact b4.mono (by omega)
        | exact b5.le (by omega)
        | exact b5.mono (by omega)
        | exact b6.le (by omega)
        | exact b6.mono (by omega)
        | exact b7.le (by omega)
        | exact b7.mono (by omega)
        | exact b8.le (by omega)
        | exact b8.mono (by omega)
        | exact b9.le (by omega)
        | exact b9.mono (by omega)
        | exact b10.le (by omega)
        | exact b10.mono (by omega)
        | (simp only [A0]; intros; first | assumption | trivial | (simp_all; done))
        | (refine ret_v ?_ rfl
           show DV.d (.slc 1 _) = DV.d (.slc 1 (putLet (⟨m_lkind, m_src, m_dst, m_irep, m_islot, m_be, m_br, m_mkind, m_mclient, m_mseq, m_mkey, m_mfin, m_mold, m_mval, m_tseq, m_td0, m_td1, m_td2, m_td3, m_td4, m_td5, m_td6, m_lstatus, m_lpe, m_lpr, m_lve, m_lvr, m_lckind, m_lcclient, m_lcseq, m_lckey, m_lcfin, m_lcold, m_lcval, m_laseq, m_lad0, m_lad1, m_lad2, m_lad3, m_lad4, m_lad5, m_lad6, m_lsame, m_fd0, m_fd1, m_fd2, m_fd3, m_fd4, m_fd5, m_fd6, m_data⟩ : Letter)))
           have hn : (namedP m_lkind).1 = ⟨false, false, false, false, false, true, false⟩ := congrArg Prod.fst hP0
           unfold putLet
           rw [if_pos hr]
           show _ = DV.d (.slc 1 (putLX (⟨m_lkind, m_src, m_dst, m_irep, m_islot, m_be, m_br, m_mkind, m_mclient, m_mseq, m_mkey, m_mfin, m_mold, m_mval, m_tseq, m_td0, m_td1, m_td2, m_td3, m_td4, m_td5, m_td6, m_lstatus, m_lpe, m_lpr, m_lve, m_lvr, m_lckind, m_lcclient, m_lcseq, m_lckey, m_lcfin, m_lcold, m_lcval, m_laseq, m_lad0, m_lad1, m_lad2, m_lad3, m_lad4, m_lad5, m_lad6, m_lsame, m_fd0, m_fd1, m_fd2, m_fd3, m_fd4, m_fd5, m_fd6, m_data⟩ : Letter) (namedP m_lkind).1))
           rw [hn]
           rfl)
        | (simp; done)
        | exact ⟨by decide, by decide⟩
    all_goals clear hH
    all_goals subst hA hX hW hGFsL3 hGFsL1 hGFsQ hGFsL4 hGFs6 hGFsDq
    all_goals obtain ⟨⟨k0, k1, k2⟩, ⟨k3, k4⟩, k5, k6, k7, k8, ⟨f0, f1, f2, f3, f4, f5, f6⟩, kd⟩ : okLet (⟨m_lkind, m_src, m_dst, m_irep, m_islot, m_be, m_br, m_mkind, m_mclient, m_mseq, m_mkey, m_mfin, m_mold, m_mval, m_tseq, m_td0, m_td1, m_td2, m_td3, m_td4, m_td5, m_td6, m_lstatus, m_lpe, m_lpr, m_lve, m_lvr, m_lckind, m_lcclient, m_lcseq, m_lckey, m_lcfin, m_lcold, m_lcval, m_laseq, m_lad0, m_lad1, m_lad2, m_lad3, m_lad4, m_lad5, m_lad6, m_lsame, m_fd0, m_fd1, m_fd2, m_fd3, m_fd4, m_fd5, m_fd6, m_data⟩ : Letter) := hp0
    all_goals have b0 : isBn 0 [] := ⟨[], rfl, Nat.le_refl _⟩
    all_goals have b1 := (isBn.num b0 m_lkind)
    all_goals have b2 := (isBn.num b1 m_src)
    all_goals have b3 := (isBn.num b2 m_dst)
    all_goals have b4 := (isBn.num b3 m_fd0)
    all_goals have b5 := (isBn.num b4 m_fd1)
    all_goals have b6 := (isBn.num b5 m_fd2)
    all_goals have b7 := (isBn.num b6 m_fd3)
    all_goals have b8 := (isBn.num b7 m_fd4)
    all_goals have b9 := (isBn.num b8 m_fd5)
    all_goals have b10 := (isBn.num b9 m_fd6)
    all_goals first
      | (show Region.lexB _ _ = true; kernel_rfl)
      | exact k0
      | exact k1
      | exact k2
      | exact k3
      | exact k4
      | exact k5
      | exact k6
      | exact k7
      | exact k8
      | exact f0
      | exact f1
      | exact f2
      | exact f3
      | exact f4
      | exact f5
      | exact f6
      | (show szT _; unfold szT; exact Nat.le_trans kd (by decide))
      | exact b0.le (by omega)
      | exact b0.mono (by omega)
      | exact b1.le (by omega)
      | exact b1.mono (by omega)
      | exact b2.le (by omega)
      | exact b2.mono (by omega)
      | exact b3.le (by omega)
      | exact b3.mono (by omega)
      | exact b4.le (by omega)
      | exact b4.mono (by omega)
      | exact b5.le (by omega)
      | exact b5.mono (by omega)
      | exact b6.le (by omega)
      | exact b6.mono (by omega)
      | exact b7.le (by omega)
      | exact b7.mono (by omega)
      | exact b8.le (by omega)
      | exact b8.mono (by omega)
      | exact b9.le (by omega)
      | exact b9.mono (by omega)
      | exact b10.le (by omega)
      | exact b10.mono (by omega)
      | (simp only [A0]; intros; first | assumption | trivial | (simp_all; done))
      | (refine ret_v ?_ rfl
         show DV.d (.slc 1 _) = DV.d (.slc 1 (putLet (⟨m_lkind, m_src, m_dst, m_irep, m_islot, m_be, m_br, m_mkind, m_mclient, m_mseq, m_mkey, m_mfin, m_mold, m_mval, m_tseq, m_td0, m_td1, m_td2, m_td3, m_td4, m_td5, m_td6, m_lstatus, m_lpe, m_lpr, m_lve, m_lvr, m_lckind, m_lcclient, m_lcseq, m_lckey, m_lcfin, m_lcold, m_lcval, m_laseq, m_lad0, m_lad1, m_lad2, m_lad3, m_lad4, m_lad5, m_lad6, m_lsame, m_fd0, m_fd1, m_fd2, m_fd3, m_fd4, m_fd5, m_fd6, m_data⟩ : Letter)))
         have hn : (namedP m_lkind).1 = ⟨false, false, false, false, false, true, false⟩ := congrArg Prod.fst hP0
         unfold putLet
         rw [if_pos hr]
         show _ = DV.d (.slc 1 (putLX (⟨m_lkind, m_src, m_dst, m_irep, m_islot, m_be, m_br, m_mkind, m_mclient, m_mseq, m_mkey, m_mfin, m_mold, m_mval, m_tseq, m_td0, m_td1, m_td2, m_td3, m_td4, m_td5, m_td6, m_lstatus, m_lpe, m_lpr, m_lve, m_lvr, m_lckind, m_lcclient, m_lcseq, m_lckey, m_lcfin, m_lcold, m_lcval, m_laseq, m_lad0, m_lad1, m_lad2, m_lad3, m_lad4, m_lad5, m_lad6, m_lsame, m_fd0, m_fd1, m_fd2, m_fd3, m_fd4, m_fd5, m_fd6, m_data⟩ : Letter) (namedP m_lkind).1))
         rw [hn]
         rfl)
      | (simp; done)
      | exact ⟨by decide, by decide⟩
  · cbv at hP
    cbv
    simp only [hP]
    cbv
    repeat' first
      | (refine And.intro ?_ ?_)
    rotate_right 1
    · refine unrollL (T := fun _ => tabY [5003] []) (H := fun _ => [kn_rightL GFsL3, kn_named GFsL1, kn_num GFsQ, kn_ballotX GFsL4, kn_put GFs6, kn_dput GFsDq, kn_putCellX GFsL4, kn_text GFsQ]) (tabY_ok _ _) hH follows_mixed hA hX 1 fun R2 hR2 => ?_
      cbv
      refine hR2 _ _ _ ?_
      cbv
      repeat' first
        | (simp only [l0, l1, l2, l3, l4, l5, l6, l7, b0, b1, b2, b3, b4, b5, b6, o0_0, o0_1, o0_2, o0_3, o0_4, o0_5, o0_6, ott, otf, oft]; cbv)
        | (refine And.intro ?_ ?_)
        | (refine hR2 _ _ _ ?_; cbv)
      all_goals clear hR2
      all_goals clear hH
      all_goals subst hA hX hW hGFsL3 hGFsL1 hGFsQ hGFsL4 hGFs6 hGFsDq
      all_goals obtain ⟨⟨k0, k1, k2⟩, ⟨k3, k4⟩, k5, k6, k7, k8, ⟨f0, f1, f2, f3, f4, f5, f6⟩, kd⟩ : okLet (⟨m_lkind, m_src, m_dst, m_irep, m_islot, m_be, m_br, m_mkind, m_mclient, m_mseq, m_mkey, m_mfin, m_mold, m_mval, m_tseq, m_td0, m_td1, m_td2, m_td3, m_td4, m_td5, m_td6, m_lstatus, m_lpe, m_lpr, m_lve, m_lvr, m_lckind, m_lcclient, m_lcseq, m_lckey, m_lcfin, m_lcold, m_lcval, m_laseq, m_lad0, m_lad1, m_lad2, m_lad3, m_lad4, m_lad5, m_lad6, m_lsame, m_fd0, m_fd1, m_fd2, m_fd3, m_fd4, m_fd5, m_fd6, m_data⟩ : Letter) := hp0
      all_goals have b0 : isBn 0 [] := ⟨[], rfl, Nat.le_refl _⟩
      all_goals have b1 := (isBn.num b0 m_lkind)
      all_goals have b2 := (isBn.num b1 m_src)
      all_goals have b3 := (isBn.num b2 m_dst)
      all_goals first
        | (show Region.lexB _ _ = true; kernel_rfl)
        | exact k0
        | exact k1
        | exact k2
        | exact k3
        | exact k4
        | exact k5
        | exact k6
        | exact k7
        | exact k8
        | exact f0
        | exact f1
        | exact f2
        | exact f3
        | exact f4
        | exact f5
        | exact f6
        | (show szT _; unfold szT; exact Nat.le_trans kd (by decide))
        | exact b0.le (by omega)
        | exact b0.mono (by omega)
        | exact b1.le (by omega)
        | exact b1.mono (by omega)
        | exact b2.le (by omega)
        | exact b2.mono (by omega)
        | exact b3.le (by omega)
        | exact b3.mono (by omega)
        | (simp only [A0]; intros; first | assumption | trivial | (simp_all; done))
        | (refine ret_v ?_ rfl
           show DV.d (.slc 1 _) = DV.d (.slc 1 (putLet (⟨m_lkind, m_src, m_dst, m_irep, m_islot, m_be, m_br, m_mkind, m_mclient, m_mseq, m_mkey, m_mfin, m_mold, m_mval, m_tseq, m_td0, m_td1, m_td2, m_td3, m_td4, m_td5, m_td6, m_lstatus, m_lpe, m_lpr, m_lve, m_lvr, m_lckind, m_lcclient, m_lcseq, m_lckey, m_lcfin, m_lcold, m_lcval, m_laseq, m_lad0, m_lad1, m_lad2, m_lad3, m_lad4, m_lad5, m_lad6, m_lsame, m_fd0, m_fd1, m_fd2, m_fd3, m_fd4, m_fd5, m_fd6, m_data⟩ : Letter)))
           have hn : (namedP m_lkind).1 = ⟨false, false, false, false, false, false, true⟩ := congrArg Prod.fst hP0
           unfold putLet
           rw [if_pos hr]
           show _ = DV.d (.slc 1 (putLX (⟨m_lkind, m_src, m_dst, m_irep, m_islot, m_be, m_br, m_mkind, m_mclient, m_mseq, m_mkey, m_mfin, m_mold, m_mval, m_tseq, m_td0, m_td1, m_td2, m_td3, m_td4, m_td5, m_td6, m_lstatus, m_lpe, m_lpr, m_lve, m_lvr, m_lckind, m_lcclient, m_lcseq, m_lckey, m_lcfin, m_lcold, m_lcval, m_laseq, m_lad0, m_lad1, m_lad2, m_lad3, m_lad4, m_lad5, m_lad6, m_lsame, m_fd0, m_fd1, m_fd2, m_fd3, m_fd4, m_fd5, m_fd6, m_data⟩ : Letter) (namedP m_lkind).1))
           rw [hn]
           rfl)
        | (simp; done)
        | exact ⟨by decide, by decide⟩
    all_goals clear hH
    all_goals subst hA hX hW hGFsL3 hGFsL1 hGFsQ hGFsL4 hGFs6 hGFsDq
    all_goals obtain ⟨⟨k0, k1, k2⟩, ⟨k3, k4⟩, k5, k6, k7, k8, ⟨f0, f1, f2, f3, f4, f5, f6⟩, kd⟩ : okLet (⟨m_lkind, m_src, m_dst, m_irep, m_islot, m_be, m_br, m_mkind, m_mclient, m_mseq, m_mkey, m_mfin, m_mold, m_mval, m_tseq, m_td0, m_td1, m_td2, m_td3, m_td4, m_td5, m_td6, m_lstatus, m_lpe, m_lpr, m_lve, m_lvr, m_lckind, m_lcclient, m_lcseq, m_lckey, m_lcfin, m_lcold, m_lcval, m_laseq, m_lad0, m_lad1, m_lad2, m_lad3, m_lad4, m_lad5, m_lad6, m_lsame, m_fd0, m_fd1, m_fd2, m_fd3, m_fd4, m_fd5, m_fd6, m_data⟩ : Letter) := hp0
    all_goals have b0 : isBn 0 [] := ⟨[], rfl, Nat.le_refl _⟩
    all_goals have b1 := (isBn.num b0 m_lkind)
    all_goals have b2 := (isBn.num b1 m_src)
    all_goals have b3 := (isBn.num b2 m_dst)
    all_goals first
      | (show Region.lexB _ _ = true; kernel_rfl)
      | exact k0
      | exact k1
      | exact k2
      | exact k3
      | exact k4
      | exact k5
      | exact k6
      | exact k7
      | exact k8
      | exact f0
      | exact f1
      | exact f2
      | exact f3
      | exact f4
      | exact f5
      | exact f6
      | (show szT _; unfold szT; exact Nat.le_trans kd (by decide))
      | exact b0.le (by omega)
      | exact b0.mono (by omega)
      | exact b1.le (by omega)
      | exact b1.mono (by omega)
      | exact b2.le (by omega)
      | exact b2.mono (by omega)
      | exact b3.le (by omega)
      | exact b3.mono (by omega)
      | (simp only [A0]; intros; first | assumption | trivial | (simp_all; done))
      | (refine ret_v ?_ rfl
         show DV.d (.slc 1 _) = DV.d (.slc 1 (putLet (⟨m_lkind, m_src, m_dst, m_irep, m_islot, m_be, m_br, m_mkind, m_mclient, m_mseq, m_mkey, m_mfin, m_mold, m_mval, m_tseq, m_td0, m_td1, m_td2, m_td3, m_td4, m_td5, m_td6, m_lstatus, m_lpe, m_lpr, m_lve, m_lvr, m_lckind, m_lcclient, m_lcseq, m_lckey, m_lcfin, m_lcold, m_lcval, m_laseq, m_lad0, m_lad1, m_lad2, m_lad3, m_lad4, m_lad5, m_lad6, m_lsame, m_fd0, m_fd1, m_fd2, m_fd3, m_fd4, m_fd5, m_fd6, m_data⟩ : Letter)))
         have hn : (namedP m_lkind).1 = ⟨false, false, false, false, false, false, true⟩ := congrArg Prod.fst hP0
         unfold putLet
         rw [if_pos hr]
         show _ = DV.d (.slc 1 (putLX (⟨m_lkind, m_src, m_dst, m_irep, m_islot, m_be, m_br, m_mkind, m_mclient, m_mseq, m_mkey, m_mfin, m_mold, m_mval, m_tseq, m_td0, m_td1, m_td2, m_td3, m_td4, m_td5, m_td6, m_lstatus, m_lpe, m_lpr, m_lve, m_lvr, m_lckind, m_lcclient, m_lcseq, m_lckey, m_lcfin, m_lcold, m_lcval, m_laseq, m_lad0, m_lad1, m_lad2, m_lad3, m_lad4, m_lad5, m_lad6, m_lsame, m_fd0, m_fd1, m_fd2, m_fd3, m_fd4, m_fd5, m_fd6, m_data⟩ : Letter) (namedP m_lkind).1))
         rw [hn]
         rfl)
      | (simp; done)
      | exact ⟨by decide, by decide⟩
  · cbv at hP
    cbv
    simp only [hP]
    cbv
    repeat' first
      | (refine And.intro ?_ ?_)
    rotate_right 1
    · refine unrollL (T := fun _ => tabY [5003] []) (H := fun _ => [kn_rightL GFsL3, kn_named GFsL1, kn_num GFsQ, kn_ballotX GFsL4, kn_put GFs6, kn_dput GFsDq, kn_putCellX GFsL4, kn_text GFsQ]) (tabY_ok _ _) hH follows_mixed hA hX 1 fun R2 hR2 => ?_
      cbv
      refine hR2 _ _ _ ?_
      cbv
      repeat' first
        | (simp only [l0, l1, l2, l3, l4, l5, l6, l7, b0, b1, b2, b3, b4, b5, b6, o0_0, o0_1, o0_2, o0_3, o0_4, o0_5, o0_6, ott, otf, oft]; cbv)
        | (refine And.intro ?_ ?_)
        | (refine hR2 _ _ _ ?_; cbv)
      all_goals clear hR2
      all_goals clear hH
      all_goals subst hA hX hW hGFsL3 hGFsL1 hGFsQ hGFsL4 hGFs6 hGFsDq
      all_goals obtain ⟨⟨k0, k1, k2⟩, ⟨k3, k4⟩, k5, k6, k7, k8, ⟨f0, f1, f2, f3, f4, f5, f6⟩, kd⟩ : okLet (⟨m_lkind, m_src, m_dst, m_irep, m_islot, m_be, m_br, m_mkind, m_mclient, m_mseq, m_mkey, m_mfin, m_mold, m_mval, m_tseq, m_td0, m_td1, m_td2, m_td3, m_td4, m_td5, m_td6, m_lstatus, m_lpe, m_lpr, m_lve, m_lvr, m_lckind, m_lcclient, m_lcseq, m_lckey, m_lcfin, m_lcold, m_lcval, m_laseq, m_lad0, m_lad1, m_lad2, m_lad3, m_lad4, m_lad5, m_lad6, m_lsame, m_fd0, m_fd1, m_fd2, m_fd3, m_fd4, m_fd5, m_fd6, m_data⟩ : Letter) := hp0
      all_goals have b0 : isBn 0 [] := ⟨[], rfl, Nat.le_refl _⟩
      all_goals have b1 := (isBn.num b0 m_lkind)
      all_goals have b2 := (isBn.num b1 m_src)
      all_goals have b3 := (isBn.num b2 m_dst)
      all_goals first
        | (show Region.lexB _ _ = true; kernel_rfl)
        | exact k0
        | exact k1
        | exact k2
        | exact k3
        | exact k4
        | exact k5
        | exact k6
        | exact k7
        | exact k8
        | exact f0
        | exact f1
        | exact f2
        | exact f3
        | exact f4
        | exact f5
        | exact f6
        | (show szT _; unfold szT; exact Nat.le_trans kd (by decide))
        | exact b0.le (by omega)
        | exact b0.mono (by omega)
        | exact b1.le (by omega)
        | exact b1.mono (by omega)
        | exact b2.le (by omega)
        | exact b2.mono (by omega)
        | exact b3.le (by omega)
        | exact b3.mono (by omega)
        | (simp only [A0]; intros; first | assumption | trivial | (simp_all; done))
        | (refine ret_v ?_ rfl
           show DV.d (.slc 1 _) = DV.d (.slc 1 (putLet (⟨m_lkind, m_src, m_dst, m_irep, m_islot, m_be, m_br, m_mkind, m_mclient, m_mseq, m_mkey, m_mfin, m_mold, m_mval, m_tseq, m_td0, m_td1, m_td2, m_td3, m_td4, m_td5, m_td6, m_lstatus, m_lpe, m_lpr, m_lve, m_lvr, m_lckind, m_lcclient, m_lcseq, m_lckey, m_lcfin, m_lcold, m_lcval, m_laseq, m_lad0, m_lad1, m_lad2, m_lad3, m_lad4, m_lad5, m_lad6, m_lsame, m_fd0, m_fd1, m_fd2, m_fd3, m_fd4, m_fd5, m_fd6, m_data⟩ : Letter)))
           have hn : (namedP m_lkind).1 = ⟨false, false, false, false, false, false, false⟩ := congrArg Prod.fst hP0
           unfold putLet
           rw [if_pos hr]
           show _ = DV.d (.slc 1 (putLX (⟨m_lkind, m_src, m_dst, m_irep, m_islot, m_be, m_br, m_mkind, m_mclient, m_mseq, m_mkey, m_mfin, m_mold, m_mval, m_tseq, m_td0, m_td1, m_td2, m_td3, m_td4, m_td5, m_td6, m_lstatus, m_lpe, m_lpr, m_lve, m_lvr, m_lckind, m_lcclient, m_lcseq, m_lckey, m_lcfin, m_lcold, m_lcval, m_laseq, m_lad0, m_lad1, m_lad2, m_lad3, m_lad4, m_lad5, m_lad6, m_lsame, m_fd0, m_fd1, m_fd2, m_fd3, m_fd4, m_fd5, m_fd6, m_data⟩ : Letter) (namedP m_lkind).1))
           rw [hn]
           rfl)
        | (simp; done)
        | exact ⟨by decide, by decide⟩
    all_goals clear hH
    all_goals subst hA hX hW hGFsL3 hGFsL1 hGFsQ hGFsL4 hGFs6 hGFsDq
    all_goals obtain ⟨⟨k0, k1, k2⟩, ⟨k3, k4⟩, k5, k6, k7, k8, ⟨f0, f1, f2, f3, f4, f5, f6⟩, kd⟩ : okLet (⟨m_lkind, m_src, m_dst, m_irep, m_islot, m_be, m_br, m_mkind, m_mclient, m_mseq, m_mkey, m_mfin, m_mold, m_mval, m_tseq, m_td0, m_td1, m_td2, m_td3, m_td4, m_td5, m_td6, m_lstatus, m_lpe, m_lpr, m_lve, m_lvr, m_lckind, m_lcclient, m_lcseq, m_lckey, m_lcfin, m_lcold, m_lcval, m_laseq, m_lad0, m_lad1, m_lad2, m_lad3, m_lad4, m_lad5, m_lad6, m_lsame, m_fd0, m_fd1, m_fd2, m_fd3, m_fd4, m_fd5, m_fd6, m_data⟩ : Letter) := hp0
    all_goals have b0 : isBn 0 [] := ⟨[], rfl, Nat.le_refl _⟩
    all_goals have b1 := (isBn.num b0 m_lkind)
    all_goals have b2 := (isBn.num b1 m_src)
    all_goals have b3 := (isBn.num b2 m_dst)
    all_goals first
      | (show Region.lexB _ _ = true; kernel_rfl)
      | exact k0
      | exact k1
      | exact k2
      | exact k3
      | exact k4
      | exact k5
      | exact k6
      | exact k7
      | exact k8
      | exact f0
      | exact f1
      | exact f2
      | exact f3
      | exact f4
      | exact f5
      | exact f6
      | (show szT _; unfold szT; exact Nat.le_trans kd (by decide))
      | exact b0.le (by omega)
      | exact b0.mono (by omega)
      | exact b1.le (by omega)
      | exact b1.mono (by omega)
      | exact b2.le (by omega)
      | exact b2.mono (by omega)
      | exact b3.le (by omega)
      | exact b3.mono (by omega)
      | (simp only [A0]; intros; first | assumption | trivial | (simp_all; done))
      | (refine ret_v ?_ rfl
         show DV.d (.slc 1 _) = DV.d (.slc 1 (putLet (⟨m_lkind, m_src, m_dst, m_irep, m_islot, m_be, m_br, m_mkind, m_mclient, m_mseq, m_mkey, m_mfin, m_mold, m_mval, m_tseq, m_td0, m_td1, m_td2, m_td3, m_td4, m_td5, m_td6, m_lstatus, m_lpe, m_lpr, m_lve, m_lvr, m_lckind, m_lcclient, m_lcseq, m_lckey, m_lcfin, m_lcold, m_lcval, m_laseq, m_lad0, m_lad1, m_lad2, m_lad3, m_lad4, m_lad5, m_lad6, m_lsame, m_fd0, m_fd1, m_fd2, m_fd3, m_fd4, m_fd5, m_fd6, m_data⟩ : Letter)))
         have hn : (namedP m_lkind).1 = ⟨false, false, false, false, false, false, false⟩ := congrArg Prod.fst hP0
         unfold putLet
         rw [if_pos hr]
         show _ = DV.d (.slc 1 (putLX (⟨m_lkind, m_src, m_dst, m_irep, m_islot, m_be, m_br, m_mkind, m_mclient, m_mseq, m_mkey, m_mfin, m_mold, m_mval, m_tseq, m_td0, m_td1, m_td2, m_td3, m_td4, m_td5, m_td6, m_lstatus, m_lpe, m_lpr, m_lve, m_lvr, m_lckind, m_lcclient, m_lcseq, m_lckey, m_lcfin, m_lcold, m_lcval, m_laseq, m_lad0, m_lad1, m_lad2, m_lad3, m_lad4, m_lad5, m_lad6, m_lsame, m_fd0, m_fd1, m_fd2, m_fd3, m_fd4, m_fd5, m_fd6, m_data⟩ : Letter) (namedP m_lkind).1))
         rw [hn]
         rfl)
      | (simp; done)
      | exact ⟨by decide, by decide⟩
end Go.Proofs.Ytbhapclaochcnaa
