/- Histories: the sentence. No condition. -/
import Derived.Test.YtadnpgkddgbhkaaZX28
import Derived.Test.YtadnpgkddgbhkaaZX17
import Derived.Test.YtadnpgkddgbhkaaZX29
namespace Go.Proofs.Ytadnpgkddgbhkaa
open Go.RowKit Go.Maps
set_option linter.all false
set_option maxHeartbeats 8000000
theorem isA (l : List Ev) (h1 : l.length ≤ 1000) (h : (l.all fun e => decide (e.a = 1 ∨ e.a = 2) && (decide (e.b = 1 ∨ e.b = 2) && (decide (e.c.client = 1 ∨ e.c.client = 2) && e.r.pairs.isEmpty))) = true) : isEv (evsX l) := by
 refine ⟨l, rfl, by omega, fun e he => ?_⟩
 rw [List.all_eq_true] at h
 have := h e he
 simp only [Bool.and_eq_true, decide_eq_true_eq, List.isEmpty_iff] at this
 refine ⟨by unfold r64; omega, by unfold r64; omega, by unfold r64; omega, ?_⟩
 rw [this.2.2.2]
 exact isP.nil
theorem ie1 : isEv (evsX hA1) := isA _ (by decide) (by rfl)
theorem ie2 : isEv (evsX hA2) := isA _ (by decide) (by rfl)
theorem ie3 : isEv (evsX hA3) := isA _ (by decide) (by rfl)
theorem ie4 : isEv (evsX hA4) := isA _ (by decide) (by rfl)
theorem in1 : isNums (numsX [0, 1]) := ⟨[0, 1], rfl, by decide, fun n hn => by simp at hn; unfold r64; omega⟩
theorem in2 : isNums (numsX [1, 0]) := ⟨[1, 0], rfl, by decide, fun n hn => by simp at hn; unfold r64; omega⟩
theorem isR1 : isR true (evsX hA1) = true := by unfold isR; rw [run1]; rfl
theorem isR2 : isR false (evsX hA2) = true := by unfold isR; rw [run2]; rfl
theorem isR3 : isR true (evsX hA3) = true := by unfold isR; rw [run3]; rfl
theorem isR4 : isR true (evsX hA4) = true := by unfold isR; rw [run4]; rfl
def hrow (x : HOp) : List PD := [.sc (.int .i64 x.a), .sc (.int .i64 x.b), .sc (.int .i64 x.ck), .sc (.int .i64 x.cc), .sc (.int .i64 x.cq), .sc (.string x.ckey), .sc (.string x.cfin), .sc (.string x.cold), .sc (.string x.cval), .sc (.int .i64 x.w), .sc (.bool x.fd), .sc (.string x.vl), .sc (.int .i64 x.vr), .slc 3 x.pr]
def eta (c : Cmd) : Cmd := ⟨c.kind, c.client, c.seq, c.key, c.fin, c.old, c.val⟩
set_option maxRecDepth 100000 in
theorem v_hruns : FnV Try.prog 4 [] (.d (.sc (.bool true))) := by
 obtain ⟨GFsHz, hFsHz⟩ : ∃ F, F = FsHz0 := ⟨_, rfl⟩
 obtain ⟨GFsHf, hFsHf⟩ : ∃ F, F = FsHf0 := ⟨_, rfl⟩
 have hH : SoundK Try.prog [kn_lput GFsHz, kn_lget GFsHz, kn_lcallH GFsHz, kn_lbackH GFsHz, kn_lis GFsHz, kn_fits GFsHf] := by subst hFsHz hFsHf; exact orK_ok ok_lput (orK_ok ok_lget (orK_ok ok_lcallH (orK_ok ok_lbackH (orK_ok ok_lis (orK_ok ok_fits noK_ok)))))
 have hB : SoundB Try.prog [] := by subst hFsHz hFsHf; exact noB_ok
 refine FnD_cbv (T := fun _ => tabY [] [2, 3, 4]) (H := fun _ => [kn_lput GFsHz, kn_lget GFsHz, kn_lcallH GFsHz, kn_lbackH GFsHz, kn_lis GFsHz, kn_fits GFsHf]) (tabY_ok _ _) hH follows_mixed Try.func4 rfl Try.ntmps4 (by simp) fun A X W hA hX hW => ?_
 cbv
 have q000 : A.cond false false false = false := by subst hA; rfl
 have q001 : A.cond false false true = true := by subst hA; rfl
 have q010 : A.cond false true false = false := by subst hA; rfl
 have q011 : A.cond false true true = true := by subst hA; rfl
 have q100 : A.cond true false false = false := by subst hA; rfl
 have q101 : A.cond true false true = false := by subst hA; rfl
 have q110 : A.cond true true false = true := by subst hA; rfl
 have q111 : A.cond true true true = true := by subst hA; rfl
 have f3 : A.not true = false := by subst hA; rfl
 have f4 : A.not false = true := by subst hA; rfl
 cbv at f3 f4 q000 q001 q010 q011 q100 q101 q110 q111
 have c1 : GFsHz.isEv [hrow (GFsHz.lcallH (eta GFsHz.lput)), hrow (GFsHz.lbackH (eta GFsHz.lput) ⟨0, false, none8, 1, []⟩), hrow (GFsHz.lcallH (eta GFsHz.lget)), hrow (GFsHz.lbackH (eta GFsHz.lget) ⟨0, true, oneB2, 1, []⟩)] := by subst hFsHz; exact ie1
 have e1 : GFsHz.lis true [hrow (GFsHz.lcallH (eta GFsHz.lput)), hrow (GFsHz.lbackH (eta GFsHz.lput) ⟨0, false, none8, 1, []⟩), hrow (GFsHz.lcallH (eta GFsHz.lget)), hrow (GFsHz.lbackH (eta GFsHz.lget) ⟨0, true, oneB2, 1, []⟩)] = true := by subst hFsHz; exact isR1
 have c2 : GFsHz.isEv [hrow (GFsHz.lcallH (eta GFsHz.lput)), hrow (GFsHz.lbackH (eta GFsHz.lput) ⟨0, false, none8, 1, []⟩), hrow (GFsHz.lcallH (eta GFsHz.lget)), hrow (GFsHz.lbackH (eta GFsHz.lget) ⟨0, false, none8, 0, []⟩)] := by subst hFsHz; exact ie2
 have e2 : GFsHz.lis false [hrow (GFsHz.lcallH (eta GFsHz.lput)), hrow (GFsHz.lbackH (eta GFsHz.lput) ⟨0, false, none8, 1, []⟩), hrow (GFsHz.lcallH (eta GFsHz.lget)), hrow (GFsHz.lbackH (eta GFsHz.lget) ⟨0, false, none8, 0, []⟩)] = true := by subst hFsHz; exact isR2
 have c3 : GFsHz.isEv [hrow (GFsHz.lcallH (eta GFsHz.lput)), hrow (GFsHz.lcallH (eta GFsHz.lget)), hrow (GFsHz.lbackH (eta GFsHz.lget) ⟨0, false, none8, 0, []⟩)] := by subst hFsHz; exact ie3
 have e3 : GFsHz.lis true [hrow (GFsHz.lcallH (eta GFsHz.lput)), hrow (GFsHz.lcallH (eta GFsHz.lget)), hrow (GFsHz.lbackH (eta GFsHz.lget) ⟨0, false, none8, 0, []⟩)] = true := by subst hFsHz; exact isR3
 have c4 : GFsHz.isEv [hrow (GFsHz.lcallH (eta GFsHz.lput)), hrow (GFsHz.lcallH (eta GFsHz.lget)), hrow (GFsHz.lbackH (eta GFsHz.lget) ⟨0, true, oneB2, 1, []⟩)] := by subst hFsHz; exact ie4
 have e4 : GFsHz.lis true [hrow (GFsHz.lcallH (eta GFsHz.lput)), hrow (GFsHz.lcallH (eta GFsHz.lget)), hrow (GFsHz.lbackH (eta GFsHz.lget) ⟨0, true, oneB2, 1, []⟩)] = true := by subst hFsHz; exact isR4
 have c5 : GFsHf.isEv [hrow (GFsHz.lcallH (eta GFsHz.lput)), hrow (GFsHz.lcallH (eta GFsHz.lget)), hrow (GFsHz.lbackH (eta GFsHz.lget) ⟨0, true, oneB2, 1, []⟩)] := by subst hFsHz hFsHf; exact ie4
 have c6 : GFsHf.isNums [[.sc (.int .i64 0)], [.sc (.int .i64 1)]] := by subst hFsHf; exact in1
 have c7 : GFsHf.isNums [[.sc (.int .i64 1)], [.sc (.int .i64 0)]] := by subst hFsHf; exact in2
 have e5 : GFsHf.fits [hrow (GFsHz.lcallH (eta GFsHz.lput)), hrow (GFsHz.lcallH (eta GFsHz.lget)), hrow (GFsHz.lbackH (eta GFsHz.lget) ⟨0, true, oneB2, 1, []⟩)] [[.sc (.int .i64 0)], [.sc (.int .i64 1)]] = true := by subst hFsHz hFsHf; exact run5
 have e6 : GFsHf.fits [hrow (GFsHz.lcallH (eta GFsHz.lput)), hrow (GFsHz.lcallH (eta GFsHz.lget)), hrow (GFsHz.lbackH (eta GFsHz.lget) ⟨0, true, oneB2, 1, []⟩)] [[.sc (.int .i64 1)], [.sc (.int .i64 0)]] = false := by subst hFsHz hFsHf; exact run6
 have n1 : A.not false = true := by subst hA; rfl
 cbv at c1 c2 c3 c4 c5 c6 c7 e1 e2 e3 e4 e5 e6 n1
 repeat first
  | refine And.intro (by subst hA hX hFsHz hFsHf; clear hH hB; first | exact trivial | exact rfl | (simp [A0]; done) | (intro q; exact q) | (intro q; simpa [A0] using q) | (intro _; trivial) | (show Region.lexB _ _ = true; kernel_rfl) | (show turnsB _ = true; kernel_rfl) | assumption) ?_
  | (refine pickL hX (t := true) (by rfl) rfl ?_; cbv)
  | (refine pickL hX (t := false) (by rfl) rfl ?_; cbv)
 with_reducible refine regionL [1000004, 1000003, 1000002] [] (T := fun _ => tabY [] []) (H := fun _ => [kn_lput GFsHz, kn_lget GFsHz, kn_lcallH GFsHz, kn_lbackH GFsHz, kn_lis GFsHz, kn_fits GFsHf]) (B := fun _ => []) (R := fun _ => []) (A := A) (tabY_ok _ _) hH noB_ok noR_ok follows_mixed hA hX (by kernel_rfl) (by kernel_rfl) (by kernel_rfl) ?_
 cbv
 simp only [c1, e1, true_and]
 cbv
 simp only [c2, e2, true_and]
 cbv
 with_reducible refine regionL [1000004, 1000003, 1000002] [] (T := fun _ => tabY [] []) (H := fun _ => [kn_lput GFsHz, kn_lget GFsHz, kn_lcallH GFsHz, kn_lbackH GFsHz, kn_lis GFsHz, kn_fits GFsHf]) (B := fun _ => []) (R := fun _ => []) (A := A) (tabY_ok _ _) hH noB_ok noR_ok follows_mixed hA hX (by kernel_rfl) (by kernel_rfl) (by kernel_rfl) ?_
 cbv
 simp only [c3, e3, true_and]
 cbv
 simp only [c4, e4, true_and]
 cbv
 with_reducible refine regionL [1000004, 1000003, 1000002] [] (T := fun _ => tabY [] []) (H := fun _ => [kn_lput GFsHz, kn_lget GFsHz, kn_lcallH GFsHz, kn_lbackH GFsHz, kn_lis GFsHz, kn_fits GFsHf]) (B := fun _ => []) (R := fun _ => []) (A := A) (tabY_ok _ _) hH noB_ok noR_ok follows_mixed hA hX (by kernel_rfl) (by kernel_rfl) (by kernel_rfl) ?_
 cbv
 repeat (simp only [c5, c6, e5, c7, e6, n1, true_and, q000, q001, q010, q011, q100, q101, q110, q111, f3, f4]; cbv)
 subst hA hX hW
 exact ret_v rfl rfl
structure FsHr where
 hruns : Bool
def FsHr0 : FsHr where
 hruns := true
def kn_hruns (F : FsHr) : FuncId × (List DV → RV) := (4, fun args => match args with
 | [] => some ([], boolD F.hruns)
 | _ => none)
theorem ok_hruns (args : List DV) (cs : List Prop) (r : DV) (h : (kn_hruns FsHr0).2 args = some (cs, r)) (hc : allP cs True) : FnV Try.prog 4 args r ∧ closedL 0 args = true := by
 unfold kn_hruns at h
 simp only at h
 split at h
 · cases h; exact ⟨v_hruns, rfl⟩
 · cases h
end Go.Proofs.Ytadnpgkddgbhkaa
namespace Go.Proofs.Ytadnpgkddgbhkaa
open Go.RowKit Go.Maps
set_option linter.all false
set_option maxHeartbeats 8000000
theorem cutL {α : Sort _} {X : Cps} {c : Code} {Q : Exit → SL → Store → Prop} {G : Prop} (I : α → Prop) (S : α → SL) (ST : Store) (pf : ∀ y, I y → X.st c Q (S y) ST) (g : (∀ y, I y → X.st c Q (S y) ST) → G) : G := g pf
theorem isMops_take {xs : List (List PD)} (h : isMops xs) (n : Nat) : isMops (xs.take n) := by
 obtain ⟨l, rfl, h1, h2⟩ := h
 exact ⟨l.take n, by simp [mopsX], by rw [List.length_take]; omega, fun x hx => h2 x (List.mem_of_mem_take hx)⟩
theorem isNums_take {xs : List (List PD)} (h : isNums xs) (n : Nat) : isNums (xs.take n) := by
 obtain ⟨l, rfl, h1, h2⟩ := h
 exact ⟨l.take n, by simp [numsX], by rw [List.length_take]; omega, fun x hx => h2 x (List.mem_of_mem_take hx)⟩
theorem made_ev {l : List MOp} (h : l.length ≤ 1048575) : isEv (evsX (madeF l mZero).out) := (MB.made l 0 mZero mZero_ok (Int.le_refl 0) (by omega)).isEv (by omega)
theorem made_fits_lin {l : List MOp} (h : l.length ≤ 1048575) {r : List Int} (hf : fitsM (madeF l mZero).out r = true) : linM (madeF l mZero).out = (true, true) := (MB.made l 0 mZero mZero_ok (Int.le_refl 0) (by omega)).fits hf
theorem made_o12 {l : List MOp} (h : l.length ≤ 1048575) {o : List Ev} (ho : opsM (madeF l mZero).out = some o) : o.length ≤ 12 := by
 have h1 := MB.made l 0 mZero mZero_ok (Int.le_refl 0) (by omega)
 have := h1.o12 ho
 have := h1.n12
 omega
set_option maxRecDepth 100000 in
theorem v_hfits (xs ks : List (List PD)) (hms : isMops xs) (hks : isNums ks) : FnV Try.prog 7 [.d (.slc 11 xs), .d (.slc 1 ks)] (.d (.sc (.bool true))) := by
 obtain ⟨GFsHq5, hFsHq5⟩ : ∃ F, F = FsHq50 := ⟨_, rfl⟩
 obtain ⟨GFsHf, hFsHf⟩ : ∃ F, F = FsHf0 := ⟨_, rfl⟩
 obtain ⟨GFsHl, hFsHl⟩ : ∃ F, F = FsHl0 := ⟨_, rfl⟩
 obtain ⟨GFsHp, hFsHp⟩ : ∃ F, F = FsHp0 := ⟨_, rfl⟩
 obtain ⟨GFsHr, hFsHr⟩ : ∃ F, F = FsHr0 := ⟨_, rfl⟩
 have hH : SoundK Try.prog [kn_made GFsHq5, kn_fits GFsHf, kn_linear GFsHl, kn_hops GFsHp, kn_hruns GFsHr] := by subst hFsHq5 hFsHf hFsHl hFsHp hFsHr; exact orK_ok ok_made (orK_ok ok_fits (orK_ok ok_linear (orK_ok ok_hops (orK_ok ok_hruns noK_ok))))
 have hB : SoundB Try.prog [] := by subst hFsHq5 hFsHf hFsHl hFsHp hFsHr; exact noB_ok
 refine FnD_cbv (T := fun _ => tabY [63, 67, 75, 81, 101, 102, 115] [3, 6]) (H := fun _ => [kn_made GFsHq5, kn_fits GFsHf, kn_linear GFsHl, kn_hops GFsHp, kn_hruns GFsHr]) (tabY_ok _ _) hH follows_mixed Try.func7 rfl Try.ntmps7 (by simp) fun A X W hA hX hW => ?_
 cbv
 have q000 : A.cond false false false = false := by subst hA; rfl
 have q001 : A.cond false false true = true := by subst hA; rfl
 have q010 : A.cond false true false = false := by subst hA; rfl
 have q011 : A.cond false true true = true := by subst hA; rfl
 have q100 : A.cond true false false = false := by subst hA; rfl
 have q101 : A.cond true false true = false := by subst hA; rfl
 have q110 : A.cond true true false = true := by subst hA; rfl
 have q111 : A.cond true true true = true := by subst hA; rfl
 have f3 : A.not true = false := by subst hA; rfl
 have f4 : A.not false = true := by subst hA; rfl
 cbv at f3 f4 q000 q001 q010 q011 q100 q101 q110 q111
 try replace hnj : nj = (ns.length : Int) := hnj
 try replace hno : no = (os.length : Int) := hno
 try replace hko : k < (o.length : Int) := hko
 apply cutL (X := X) (fun ys : List (List PD) => isMops ys ∧ ys.length ≤ 30) (fun ys => [(0, .d (.slc 11 ys)), (1, .d (.slc 1 ks))]) []
 rotate_left
 · intro key
   obtain ⟨t1, w1⟩ : ∃ t, A.cmp .gtr (A.len xs) 30 = t := ⟨_, rfl⟩
   have hs1 : t1 = decide ((xs.length : Int) > 30) := by rw [← w1]; subst hA; rfl
   cbv at w1
   try replace hnj : nj = (ns.length : Int) := hnj
   try replace hno : no = (os.length : Int) := hno
   try replace hko : k < (o.length : Int) := hko
   simp only [w1]
   cases t1
   case true =>
    replace hs1 : (30 : Int) < xs.length := of_decide_eq_true hs1.symm
    have hs1 : 30 < xs.length := by omega
    cbv
    refine And.intro (by subst hA; show (0 : Int) ≤ 0 ∧ (0 : Int) ≤ 30 ∧ (30 : Int) ≤ (xs.length : Int); omega) ?_
    refine pauseL hX (s' := _) (st' := _) ?_ (key (xs.take 30) ⟨isMops_take hms 30, by rw [List.length_take]; exact Nat.min_le_left _ _⟩)
    subst hA
    exact told_less (by simp [toldP, getS, A0])
   case false =>
    replace hs1 : ¬ (30 : Int) < xs.length := of_decide_eq_false hs1.symm
    have hs1 : ¬ 30 < xs.length := by omega
    cbv
    refine pauseL hX (s' := _) (st' := _) ?_ (key xs ⟨hms, by omega⟩)
    exact told_less (by simp [toldP, getS])
 rintro ys ⟨⟨l, hys, hl, hlr⟩, hy30⟩
 have hms : isMops ys := ⟨l, hys, hl, hlr⟩
 obtain ⟨st, hst⟩ : ∃ z, z = madeF l mZero := ⟨_, rfl⟩
 obtain ⟨zs, hzs⟩ : ∃ z, z = evsX st.out := ⟨_, rfl⟩
 obtain ⟨ws, hws⟩ : ∃ z, z = numsX st.ord := ⟨_, rfl⟩
 have em : GFsHq5.made ys = (zs, ws) := by subst hFsHq5; rw [hzs, hws, hst]; exact madeR_of hys
 have cm : GFsHq5.isMops ys := by subst hFsHq5; exact hms
 have hev : isEv zs := by rw [hzs, hst]; exact made_ev hl
 cbv at em cm
 try replace hnj : nj = (ns.length : Int) := hnj
 try replace hno : no = (os.length : Int) := hno
 try replace hko : k < (o.length : Int) := hko
 with_reducible refine goL (T := fun _ => tabY [63, 67, 75, 81, 101, 102, 115] [6]) (H := fun _ => [kn_made GFsHq5, kn_fits GFsHf, kn_linear GFsHl, kn_hops GFsHp, kn_hruns GFsHr]) (tabY_ok _ _) hH follows_mixed hA hX ?_
 cbv
 repeat first
  | (simp only [em, q000, q001, q010, q011, q100, q101, q110, q111, f3, f4]; cbv)
  | refine And.intro (by subst hA hX hFsHq5 hFsHf hFsHl hFsHp hFsHr; clear hH hB; first | exact trivial | exact rfl | (simp [A0]; done) | (intro q; exact q) | (intro q; simpa [A0] using q) | (intro _; trivial) | (show Region.lexB _ _ = true; kernel_rfl) | (show turnsB _ = true; kernel_rfl) | assumption | (intro _; assumption) | (intro _; rfl)) ?_
  | (refine pickL hX (t := true) (by rfl) rfl ?_; cbv)
  | (refine pickL hX (t := false) (by rfl) rfl ?_; cbv)
 apply cutL (X := X) (fun js : List (List PD) => isNums js ∧ js.length ≤ 12) (fun js => [(1, .d (.slc 1 js)), (5, .d (.slc 14 zs))]) []
 rotate_left
 · intro key
   obtain ⟨t2, w2⟩ : ∃ t, A.cmp .gtr (A.len ks) 12 = t := ⟨_, rfl⟩
   have hs2 : t2 = decide ((ks.length : Int) > 12) := by rw [← w2]; subst hA; rfl
   cbv at w2
   try replace hnj : nj = (ns.length : Int) := hnj
   try replace hno : no = (os.length : Int) := hno
   try replace hko : k < (o.length : Int) := hko
   simp only [w2]
   cases t2
   case true =>
    replace hs2 : (12 : Int) < ks.length := of_decide_eq_true hs2.symm
    have hs2 : 12 < ks.length := by omega
    cbv
    refine And.intro (by subst hA; show (0 : Int) ≤ 0 ∧ (0 : Int) ≤ 12 ∧ (12 : Int) ≤ (ks.length : Int); omega) ?_
    refine pauseL hX (s' := _) (st' := _) ?_ (key (ks.take 12) ⟨isNums_take hks 12, by rw [List.length_take]; exact Nat.min_le_left _ _⟩)
    subst hA
    exact told_less (by simp [toldP, getS, A0])
   case false =>
    replace hs2 : ¬ (12 : Int) < ks.length := of_decide_eq_false hs2.symm
    have hs2 : ¬ 12 < ks.length := by omega
    cbv
    refine pauseL hX (s' := _) (st' := _) ?_ (key ks ⟨hks, by omega⟩)
    exact told_less (by simp [toldP, getS])
 rintro js ⟨hjn, hj12⟩
 obtain ⟨ns, hjs, hnl, hnr⟩ := hjn
 have hjn : isNums js := ⟨ns, hjs, hnl, hnr⟩
 have hjl : js.length = ns.length := by rw [hjs]; exact numsX_length ns
 obtain ⟨ft, ef⟩ : ∃ t, GFsHf.fits zs js = t := ⟨_, rfl⟩
 have hft : ft = fitsM st.out ns := by rw [← ef]; subst hFsHf; show fitsM (evsOf zs) (numsOf js) = _; rw [hzs, hjs, evsOf_X, numsOf_X]
 obtain ⟨la, lb, el⟩ : ∃ a b, GFsHl.linear zs = (a, b) := ⟨_, _, rfl⟩
 have hla : ft = true → la = true := fun h => by
  have h1 : linM (evsOf zs) = (la, lb) := by rw [← el]; subst hFsHl; rfl
  rw [hzs, evsOf_X, hst, made_fits_lin hl (by rw [← hst, ← hft, h])] at h1
  exact (Prod.mk.inj h1).1.symm
 obtain ⟨os, ob, eo⟩ : ∃ a b, GFsHp.hops zs = (a, b) := ⟨_, _, rfl⟩
 have hos : os = (opsR zs).1 := by
  have : opsR zs = (os, ob) := by rw [← eo]; subst hFsHp; rfl
  rw [this]
 have eh : GFsHr.hruns = true := by subst hFsHr; rfl
 have v1 : GFsHf.isEv zs := by subst hFsHf; exact hev
 have v2 : GFsHf.isNums js := by subst hFsHf; exact hjn
 have v3 : GFsHl.isEv zs := by subst hFsHl; exact hev
 have v4 : GFsHp.isEv zs := by subst hFsHp; exact hev
 obtain ⟨nj, hnj⟩ : ∃ z : Int, z = ns.length := ⟨_, rfl⟩
 obtain ⟨no, hno⟩ : ∃ z : Int, z = os.length := ⟨_, rfl⟩
 have g1 : A.cond ft (A.not la) false = false := by
  subst hA
  cases ft
  · rfl
  · rw [hla rfl]; rfl
 cbv at ef el eo eh v1 v2 v3 v4 g1
 try replace hnj : nj = (ns.length : Int) := hnj
 try replace hno : no = (os.length : Int) := hno
 try replace hko : k < (o.length : Int) := hko
 with_reducible refine goL (T := fun _ => tabY [63, 67, 75, 81, 101, 102, 115] []) (H := fun _ => [kn_made GFsHq5, kn_fits GFsHf, kn_linear GFsHl, kn_hops GFsHp, kn_hruns GFsHr]) (tabY_ok _ _) hH follows_mixed hA hX ?_
 cbv
 repeat first
  | (simp only [ef, el, eo, g1, q000, q001, q010, q011, q100, q101, q110, q111, f3, f4]; cbv)
  | refine And.intro (by subst hA hX hFsHq5 hFsHf hFsHl hFsHp hFsHr; clear hH hB; first | exact trivial | exact rfl | (simp [A0]; done) | (intro q; exact q) | (intro q; simpa [A0] using q) | (intro _; trivial) | (show Region.lexB _ _ = true; kernel_rfl) | (show turnsB _ = true; kernel_rfl) | assumption | (intro _; assumption) | (intro _; rfl)) ?_
  | (refine pickL hX (t := true) (by rfl) rfl ?_; cbv)
  | (refine pickL hX (t := false) (by rfl) rfl ?_; cbv)
 have hlike : ft = true → ∃ o, os = evsX o ∧ ns.Nodup ∧ (∀ p ∈ ns, 0 ≤ p ∧ p < o.length) ∧ (∀ (j : Nat) (e : Ev), o[j]? = some e → 0 ≤ e.b → (j : Int) ∈ ns) ∧ o.length ≤ 12 := fun h => by
  rw [hft] at h
  obtain ⟨o, h1, h2, h3, h4⟩ := fits_like h
  refine ⟨o, ?_, h2, h3, h4, made_o12 hl (by rw [← hst]; exact h1)⟩
  rw [hos]
  unfold opsR
  rw [hzs, evsOf_X, h1]
 replace hnj : nj = (ns.length : Int) := hnj
 replace hno : no = (os.length : Int) := hno
 refine loopL (T := fun _ => tabY [63, 67, 75, 81, 101, 102, 115] []) (H := fun _ => [kn_made GFsHq5, kn_fits GFsHf, kn_linear GFsHl, kn_hops GFsHp, kn_hruns GFsHr]) (tabY_ok _ _) hH follows_mixed hA hX (fun i : Int => 0 ≤ i ∧ i ≤ nj) (fun i => [(1, .d (.slc 1 js)), (7, .d (.sc (.bool ft))), (10, .d (.slc 14 os)), (12, .d (.sc (.int .i64 i)))]) (fun _ => []) (fun i => nj.toNat - i.toNat) 0 ?_ ?_ ?_
 · exact ⟨Int.le_refl 0, by show (0 : Int) ≤ nj; rw [hnj]; omega⟩
 · exact told_less (by simp [toldP, getS])
 rintro R i hR ⟨i0, i1⟩
 replace hnj : nj = (ns.length : Int) := hnj
 replace i0 : 0 ≤ i := i0
 replace i1 : i ≤ nj := i1
 have is00 : A.is false false = true := by subst hA; rfl
 have is11 : A.is true true = true := by subst hA; rfl
 have is10 : A.is true false = false := by subst hA; rfl
 have is01 : A.is false true = false := by subst hA; rfl
 cbv at is00 is11 is10 is01
 try replace hnj : nj = (ns.length : Int) := hnj
 try replace hno : no = (os.length : Int) := hno
 try replace hko : k < (o.length : Int) := hko
 by_cases hlt : i < nj
 · skip
   try replace hnj : nj = (ns.length : Int) := hnj
   try replace hno : no = (os.length : Int) := hno
   try replace hko : k < (o.length : Int) := hko
   have t3 : A.cmp .lss i (A.len js) = true := by subst hA; exact decide_eq_true (by show i < (js.length : Int); omega)
   have hin : i.toNat < ns.length := by omega
   obtain ⟨p, hp⟩ : ∃ z, z = ns[i.toNat] := ⟨_, rfl⟩
   have hrow : js.getD i.toNat [] = [.sc (.int .i64 p)] := by rw [hp]; exact nrow hjs i0 (by omega)
   have e1 : A.gi (A.lift (A.row js i)) 0 = p := by subst hA; simp only [A0, hrow]; try rfl
   have hh1 : A.has (A.lift (A.row js i)) 0 1 [.d (.sc (.int .i64 p))] := by subst hA; simp only [A0, hrow]; first | done | exact ⟨rfl, Nat.le_refl _, rfl⟩
   have hinb : A.inb i (A.len js) := by subst hA; exact ⟨i0, by show i < (js.length : Int); omega⟩
   cbv at t3 e1 hh1 hinb
   try replace hnj : nj = (ns.length : Int) := hnj
   try replace hno : no = (os.length : Int) := hno
   try replace hko : k < (o.length : Int) := hko
   cbv
   repeat first
    | (simp only [t3, e1, is00, is11, is10, is01, q000, q001, q010, q011, q100, q101, q110, q111, f3, f4]; cbv)
    | refine And.intro (by subst hA hX hFsHq5 hFsHf hFsHl hFsHp hFsHr; clear hH hB; first | exact trivial | exact rfl | (simp [A0]; done) | (intro q; exact q) | (intro q; simpa [A0] using q) | (intro _; trivial) | (show Region.lexB _ _ = true; kernel_rfl) | (show turnsB _ = true; kernel_rfl) | assumption | (intro _; assumption) | (intro _; rfl)) ?_
    | (refine pickL hX (t := true) (by rfl) rfl ?_; cbv)
    | (refine pickL hX (t := false) (by rfl) rfl ?_; cbv)
   replace hnj : nj = (ns.length : Int) := hnj
   replace hno : no = (os.length : Int) := hno
   refine loopL (T := fun _ => tabY [63, 67, 75, 81, 101, 102, 115] []) (H := fun _ => [kn_made GFsHq5, kn_fits GFsHf, kn_linear GFsHl, kn_hops GFsHp, kn_hruns GFsHr]) (tabY_ok _ _) hH follows_mixed hA hX (fun k : Int => 0 ≤ k ∧ k ≤ i) (fun k => [(1, .d (.slc 1 js)), (7, .d (.sc (.bool ft))), (10, .d (.slc 14 os)), (12, .d (.sc (.int .i64 i))), (13, .d (.sc (.int .i64 k)))]) (fun _ => []) (fun k => i.toNat - k.toNat) 0 ?_ ?_ ?_
   · exact ⟨Int.le_refl 0, i0⟩
   · exact told_less (by simp [toldP, getS])
   rintro R2 k hR2 ⟨k0, k1⟩
   replace k0 : 0 ≤ k := k0
   replace k1 : k ≤ i := k1
   replace hnj : nj = (ns.length : Int) := hnj
   replace hlt : i < nj := hlt
   by_cases hlk : k < i
   · replace hlt : i < nj := hlt
     try replace hnj : nj = (ns.length : Int) := hnj
     try replace hno : no = (os.length : Int) := hno
     try replace hko : k < (o.length : Int) := hko
     have t4 : A.cmp .lss k i = true := by subst hA; exact decide_eq_true hlk
     have hkn : k.toNat < ns.length := by omega
     obtain ⟨q, hq⟩ : ∃ z, z = ns[k.toNat] := ⟨_, rfl⟩
     have hrow2 : js.getD k.toNat [] = [.sc (.int .i64 q)] := by rw [hq]; exact nrow hjs k0 (by omega)
     have e2 : A.gi (A.lift (A.row js k)) 0 = q := by subst hA; simp only [A0, hrow2]; try rfl
     have hh2 : A.has (A.lift (A.row js k)) 0 1 [.d (.sc (.int .i64 q))] := by subst hA; simp only [A0, hrow2]; first | done | exact ⟨rfl, Nat.le_refl _, rfl⟩
     have hinb2 : A.inb k (A.len js) := by subst hA; exact ⟨k0, by show k < (js.length : Int); omega⟩
     obtain ⟨eq, t5⟩ : ∃ t, A.cmp .eql p q = t := ⟨_, rfl⟩
     have heq : eq = decide (p = q) := by rw [← t5]; subst hA; rfl
     have g2 : A.cond eq ft false = false := by
      subst hA
      cases ft with
      | false => cases eq <;> rfl
      | true =>
        obtain ⟨o, _, hnd, _, _, _⟩ := hlike rfl
        have hne : ¬ p = q := fun e => by
         have := nodup_at hnd hin hkn (by rw [← hp, ← hq, e])
         omega
        rw [heq, decide_eq_false hne]
        rfl
     cbv at t4 e2 hh2 hinb2 t5 g2
     try replace hnj : nj = (ns.length : Int) := hnj
     try replace hno : no = (os.length : Int) := hno
     try replace hko : k < (o.length : Int) := hko
     cbv
     repeat first
      | (simp only [t4, e1, e2, t5, g2, is00, is11, is10, is01, q000, q001, q010, q011, q100, q101, q110, q111, f3, f4]; cbv)
      | refine And.intro (by subst hA hX hFsHq5 hFsHf hFsHl hFsHp hFsHr; clear hH hB; first | exact trivial | exact rfl | (simp [A0]; done) | (intro q; exact q) | (intro q; simpa [A0] using q) | (intro _; trivial) | (show Region.lexB _ _ = true; kernel_rfl) | (show turnsB _ = true; kernel_rfl) | assumption | (intro _; assumption) | (intro _; rfl)) ?_
      | (refine pickL hX (t := true) (by rfl) rfl ?_; cbv)
      | (refine pickL hX (t := false) (by rfl) rfl ?_; cbv)
     subst hA hR2
     replace hnj : nj = (ns.length : Int) := hnj
     replace hlt : i < nj := hlt
     replace hlk : k < i := hlk
     have wk : IntKind.wrap .i64 (k + 1) = k + 1 := wrap_i64 (by unfold r64; omega)
     refine ⟨k + 1, ⟨by show 0 ≤ k + 1; omega, by show k + 1 ≤ i; omega⟩, by show i.toNat - (k + 1).toNat < i.toNat - k.toNat; omega, told_less (by simp [toldP, getS, A0, wk])⟩
   · skip
     try replace hnj : nj = (ns.length : Int) := hnj
     try replace hno : no = (os.length : Int) := hno
     try replace hko : k < (o.length : Int) := hko
     have t4 : A.cmp .lss k i = false := by subst hA; exact decide_eq_false hlk
     obtain ⟨nl, t6⟩ : ∃ t, A.cmp .lss p 0 = t := ⟨_, rfl⟩
     obtain ⟨ng, t7⟩ : ∃ t, A.cmp .geq p (A.len os) = t := ⟨_, rfl⟩
     have g3 : A.cond (A.cond nl true ng) ft false = false := by
      rw [← t6, ← t7]
      subst hA
      cases ft with
      | false => show A0.cond _ false false = false; cases A0.cond (A0.cmp .lss p 0) true (A0.cmp .geq p (A0.len os)) <;> rfl
      | true =>
        obtain ⟨o, ho, _, hrg, _, _⟩ := hlike rfl
        obtain ⟨h1, h2⟩ := hrg p (by rw [hp]; exact List.getElem_mem _)
        replace h2 : p < (o.length : Int) := h2
        have e5 : A0.cmp .lss p 0 = false := decide_eq_false (by omega)
        have e6 : A0.cmp .geq p (A0.len os) = false := decide_eq_false (by show ¬ p ≥ (os.length : Int); rw [ho, evsX_len]; omega)
        rw [e5, e6]
        rfl
     cbv at t4 t6 t7 g3
     try replace hnj : nj = (ns.length : Int) := hnj
     try replace hno : no = (os.length : Int) := hno
     try replace hko : k < (o.length : Int) := hko
     cbv
     repeat first
      | (simp only [t4, e1, t6, t7, g3, is00, is11, is10, is01, q000, q001, q010, q011, q100, q101, q110, q111, f3, f4]; cbv)
      | refine And.intro (by subst hA hX hFsHq5 hFsHf hFsHl hFsHp hFsHr; clear hH hB; first | exact trivial | exact rfl | (simp [A0]; done) | (intro q; exact q) | (intro q; simpa [A0] using q) | (intro _; trivial) | (show Region.lexB _ _ = true; kernel_rfl) | (show turnsB _ = true; kernel_rfl) | assumption | (intro _; assumption) | (intro _; rfl)) ?_
      | (refine pickL hX (t := true) (by rfl) rfl ?_; cbv)
      | (refine pickL hX (t := false) (by rfl) rfl ?_; cbv)
     subst hA hR
     replace hnj : nj = (ns.length : Int) := hnj
     replace hlt : i < nj := hlt
     have wk : IntKind.wrap .i64 (i + 1) = i + 1 := wrap_i64 (by unfold r64; omega)
     refine ⟨i + 1, ⟨by show 0 ≤ i + 1; omega, by show i + 1 ≤ nj; omega⟩, by show nj.toNat - (i + 1).toNat < nj.toNat - i.toNat; omega, told_less (by simp [toldP, getS, A0, wk])⟩
 · skip
   try replace hnj : nj = (ns.length : Int) := hnj
   try replace hno : no = (os.length : Int) := hno
   try replace hko : k < (o.length : Int) := hko
   have t3 : A.cmp .lss i (A.len js) = false := by subst hA; exact decide_eq_false (by show ¬ i < (js.length : Int); omega)
   cbv at t3
   try replace hnj : nj = (ns.length : Int) := hnj
   try replace hno : no = (os.length : Int) := hno
   try replace hko : k < (o.length : Int) := hko
   cbv
   repeat first
    | (simp only [t3, q000, q001, q010, q011, q100, q101, q110, q111, f3, f4]; cbv)
    | refine And.intro (by subst hA hX hFsHq5 hFsHf hFsHl hFsHp hFsHr; clear hH hB; first | exact trivial | exact rfl | (simp [A0]; done) | (intro q; exact q) | (intro q; simpa [A0] using q) | (intro _; trivial) | (show Region.lexB _ _ = true; kernel_rfl) | (show turnsB _ = true; kernel_rfl) | assumption | (intro _; assumption) | (intro _; rfl)) ?_
    | (refine pickL hX (t := true) (by rfl) rfl ?_; cbv)
    | (refine pickL hX (t := false) (by rfl) rfl ?_; cbv)
   replace hnj : nj = (ns.length : Int) := hnj
   replace hno : no = (os.length : Int) := hno
   refine loopL (T := fun _ => tabY [63, 67, 75, 81, 101, 102, 115] []) (H := fun _ => [kn_made GFsHq5, kn_fits GFsHf, kn_linear GFsHl, kn_hops GFsHp, kn_hruns GFsHr]) (tabY_ok _ _) hH follows_mixed hA hX (fun k : Int => 0 ≤ k ∧ k ≤ no) (fun k => [(1, .d (.slc 1 js)), (7, .d (.sc (.bool ft))), (10, .d (.slc 14 os)), (14, .d (.sc (.int .i64 k)))]) (fun _ => []) (fun k => no.toNat - k.toNat) 0 ?_ ?_ ?_
   · exact ⟨Int.le_refl 0, by show (0 : Int) ≤ no; rw [hno]; omega⟩
   · exact told_less (by simp [toldP, getS])
   rintro R3 k hR3 ⟨k0, k1⟩
   replace k0 : 0 ≤ k := k0
   replace k1 : k ≤ no := k1
   replace hno : no = (os.length : Int) := hno
   replace hnj : nj = (ns.length : Int) := hnj
   obtain ⟨go, t8⟩ : ∃ t, A.cond (A.cmp .lss k (A.len os)) ft false = t := ⟨_, rfl⟩
   have hgo : go = (decide (k < no) && ft) := by
    rw [← t8, hno]
    subst hA
    show A0.cond (decide (k < (os.length : Int))) ft false = _
    cases decide (k < (os.length : Int)) <;> rfl
   cbv at t8
   try replace hnj : nj = (ns.length : Int) := hnj
   try replace hno : no = (os.length : Int) := hno
   try replace hko : k < (o.length : Int) := hko
   cases go
   case false =>
    cbv
    repeat first
     | (simp only [t8, eh, q000, q001, q010, q011, q100, q101, q110, q111, f3, f4]; cbv)
     | refine And.intro (by subst hA hX hFsHq5 hFsHf hFsHl hFsHp hFsHr; clear hH hB; first | exact trivial | exact rfl | (simp [A0]; done) | (intro q; exact q) | (intro q; simpa [A0] using q) | (intro _; trivial) | (show Region.lexB _ _ = true; kernel_rfl) | (show turnsB _ = true; kernel_rfl) | assumption | (intro _; assumption) | (intro _; rfl)) ?_
     | (refine pickL hX (t := true) (by rfl) rfl ?_; cbv)
     | (refine pickL hX (t := false) (by rfl) rfl ?_; cbv)
    subst hA hX hW
    exact ret_v rfl rfl
   case true =>
    try replace hnj : nj = (ns.length : Int) := hnj
    try replace hno : no = (os.length : Int) := hno
    try replace hko : k < (o.length : Int) := hko
    have hgo2 : k < no ∧ ft = true := by
     have := hgo.symm
     rw [Bool.and_eq_true, decide_eq_true_eq] at this
     exact this
    obtain ⟨o, ho, hnd, hrg, hmem, ho12⟩ := hlike hgo2.2
    have hol : os.length = o.length := by rw [ho, evsX_len]
    have hkl := hgo2.1
    have hko : k < (o.length : Int) := by omega
    obtain ⟨y, hy⟩ : ∃ y, y = o[k.toNat]'(by omega) := ⟨_, rfl⟩
    have hyr : os.getD k.toNat [] = y.row := by rw [hy]; exact evrow ho k0 hko
    obtain ⟨yb, hyb⟩ : ∃ z, z = y.b := ⟨_, rfl⟩
    have e3 : A.gi (A.lift (A.cdrop (A.row os k) 1)) 0 = yb := by rw [hyb]; subst hA; simp only [A0, hyr]; rfl
    have hh3 : A.has (A.lift (A.cdrop (A.row os k) 1)) 0 1 [.d (.sc (.int .i64 yb))] := by rw [hyb]; subst hA; simp only [A0, hyr]; exact ⟨rfl, by show 0 + 1 ≤ 13; decide, rfl⟩
    have hinb3 : A.inb k (A.len os) := by subst hA; exact ⟨k0, by show k < (os.length : Int); omega⟩
    obtain ⟨bn, t9⟩ : ∃ t, A.cmp .lss yb 0 = t := ⟨_, rfl⟩
    have hbn : bn = decide (yb < 0) := by rw [← t9]; subst hA; rfl
    cbv at e3 hh3 hinb3 t9
    try replace hnj : nj = (ns.length : Int) := hnj
    try replace hno : no = (os.length : Int) := hno
    try replace hko : k < (o.length : Int) := hko
    cbv
    repeat first
     | (simp only [t8, e3, t9, q000, q001, q010, q011, q100, q101, q110, q111, f3, f4]; cbv)
     | refine And.intro (by subst hA hX hFsHq5 hFsHf hFsHl hFsHp hFsHr; clear hH hB; first | exact trivial | exact rfl | (simp [A0]; done) | (intro q; exact q) | (intro q; simpa [A0] using q) | (intro _; trivial) | (show Region.lexB _ _ = true; kernel_rfl) | (show turnsB _ = true; kernel_rfl) | assumption | (intro _; assumption) | (intro _; rfl)) ?_
     | (refine pickL hX (t := true) (by rfl) rfl ?_; cbv)
     | (refine pickL hX (t := false) (by rfl) rfl ?_; cbv)
    replace hnj : nj = (ns.length : Int) := hnj
    replace hno : no = (os.length : Int) := hno
    refine loopL (T := fun _ => tabY [63, 67, 75, 81, 101, 102, 115] []) (H := fun _ => [kn_made GFsHq5, kn_fits GFsHf, kn_linear GFsHl, kn_hops GFsHp, kn_hruns GFsHr]) (tabY_ok _ _) hH follows_mixed hA hX (fun x : Int × Bool => (0 ≤ x.1 ∧ x.1 ≤ nj) ∧ x.2 = (bn || (ns.take x.1.toNat).any fun z => decide (z = k))) (fun x => [(1, .d (.slc 1 js)), (7, .d (.sc (.bool ft))), (10, .d (.slc 14 os)), (14, .d (.sc (.int .i64 k))), (15, .d (.sc (.bool x.2))), (16, .d (.sc (.int .i64 x.1)))]) (fun _ => []) (fun x => nj.toNat - x.1.toNat) (0, bn) ?_ ?_ ?_
    · exact ⟨⟨Int.le_refl 0, by show (0 : Int) ≤ nj; rw [hnj]; omega⟩, by simp⟩
    · exact told_less (by simp [toldP, getS])
    rintro R4 ⟨m, inn⟩ hR4 ⟨⟨m0, m1⟩, hinn⟩
    replace m0 : 0 ≤ m := m0
    replace m1 : m ≤ nj := m1
    replace hno : no = (os.length : Int) := hno
    replace hnj : nj = (ns.length : Int) := hnj
    replace hkl : k < no := hkl
    replace hinn : inn = (bn || (ns.take m.toNat).any fun z => decide (z = k)) := hinn
    by_cases hlm : m < nj
    · skip
      try replace hnj : nj = (ns.length : Int) := hnj
      try replace hno : no = (os.length : Int) := hno
      try replace hko : k < (o.length : Int) := hko
      have t10 : A.cmp .lss m (A.len js) = true := by subst hA; exact decide_eq_true (by show m < (js.length : Int); omega)
      have hmn : m.toNat < ns.length := by omega
      obtain ⟨q, hq⟩ : ∃ z, z = ns[m.toNat] := ⟨_, rfl⟩
      have hrow2 : js.getD m.toNat [] = [.sc (.int .i64 q)] := by rw [hq]; exact nrow hjs m0 (by omega)
      have e2 : A.gi (A.lift (A.row js m)) 0 = q := by subst hA; simp only [A0, hrow2]; try rfl
      have hh2 : A.has (A.lift (A.row js m)) 0 1 [.d (.sc (.int .i64 q))] := by subst hA; simp only [A0, hrow2]; first | done | exact ⟨rfl, Nat.le_refl _, rfl⟩
      have hinb2 : A.inb m (A.len js) := by subst hA; exact ⟨m0, by show m < (js.length : Int); omega⟩
      obtain ⟨eq, t5⟩ : ∃ t, A.cmp .eql q k = t := ⟨_, rfl⟩
      have heq : eq = decide (q = k) := by rw [← t5]; subst hA; rfl
      obtain ⟨inn2, t11⟩ : ∃ t, A.cond inn true eq = t := ⟨_, rfl⟩
      have hinn2 : inn2 = (bn || (ns.take (m + 1).toNat).any fun z => decide (z = k)) := by
       rw [show (m + 1).toNat = m.toNat + 1 by omega, List.take_succ_eq_append_getElem hmn, List.any_append, ← Bool.or_assoc, ← hinn, ← hq, ← t11]
       subst hA
       rw [heq]
       cases inn <;> simp [A0]
      cbv at t10 e2 hh2 hinb2 t5 t11
      try replace hnj : nj = (ns.length : Int) := hnj
      try replace hno : no = (os.length : Int) := hno
      try replace hko : k < (o.length : Int) := hko
      cbv
      repeat first
       | (simp only [t10, e2, t5, t11, is00, is11, is10, is01, q000, q001, q010, q011, q100, q101, q110, q111, f3, f4]; cbv)
       | refine And.intro (by subst hA hX hFsHq5 hFsHf hFsHl hFsHp hFsHr; clear hH hB; first | exact trivial | exact rfl | (simp [A0]; done) | (intro q; exact q) | (intro q; simpa [A0] using q) | (intro _; trivial) | (show Region.lexB _ _ = true; kernel_rfl) | (show turnsB _ = true; kernel_rfl) | assumption | (intro _; assumption) | (intro _; rfl)) ?_
       | (refine pickL hX (t := true) (by rfl) rfl ?_; cbv)
       | (refine pickL hX (t := false) (by rfl) rfl ?_; cbv)
      subst hA hR4
      replace hnj : nj = (ns.length : Int) := hnj
      replace hlm : m < nj := hlm
      have wk : IntKind.wrap .i64 (m + 1) = m + 1 := wrap_i64 (by unfold r64; omega)
      refine ⟨(m + 1, inn2), ⟨⟨by show 0 ≤ m + 1; omega, by show m + 1 ≤ nj; omega⟩, hinn2⟩, by show nj.toNat - (m + 1).toNat < nj.toNat - m.toNat; omega, told_less (by simp [toldP, getS, A0, wk])⟩
    · replace hlm : ¬ m < nj := hlm
      try replace hnj : nj = (ns.length : Int) := hnj
      try replace hno : no = (os.length : Int) := hno
      try replace hko : k < (o.length : Int) := hko
      have t10 : A.cmp .lss m (A.len js) = false := by subst hA; exact decide_eq_false (by show ¬ m < (js.length : Int); omega)
      try replace hnj : nj = (ns.length : Int) := hnj
      try replace hno : no = (os.length : Int) := hno
      try replace hko : k < (o.length : Int) := hko
      have hin1 : inn = true := by
       rw [hinn, Bool.or_eq_true, List.take_of_length_le (by omega)]
       by_cases hb : yb < 0
       · exact .inl (by rw [hbn]; exact decide_eq_true hb)
       · refine .inr (List.any_eq_true.2 ⟨k, ?_, decide_eq_true rfl⟩)
         replace hko : k < (o.length : Int) := hko
         have := hmem k.toNat y (by rw [hy]; exact List.getElem?_eq_getElem (by omega)) (by omega)
         replace this : ((k.toNat : Nat) : Int) ∈ ns := this
         rwa [show ((k.toNat : Nat) : Int) = k by omega] at this
      have g4 : A.not inn = false := by rw [hin1]; subst hA; rfl
      cbv at t10 g4
      try replace hnj : nj = (ns.length : Int) := hnj
      try replace hno : no = (os.length : Int) := hno
      try replace hko : k < (o.length : Int) := hko
      cbv
      repeat first
       | (simp only [t10, g4, q000, q001, q010, q011, q100, q101, q110, q111, f3, f4]; cbv)
       | refine And.intro (by subst hA hX hFsHq5 hFsHf hFsHl hFsHp hFsHr; clear hH hB; first | exact trivial | exact rfl | (simp [A0]; done) | (intro q; exact q) | (intro q; simpa [A0] using q) | (intro _; trivial) | (show Region.lexB _ _ = true; kernel_rfl) | (show turnsB _ = true; kernel_rfl) | assumption | (intro _; assumption) | (intro _; rfl)) ?_
       | (refine pickL hX (t := true) (by rfl) rfl ?_; cbv)
       | (refine pickL hX (t := false) (by rfl) rfl ?_; cbv)
      subst hA hR3
      replace hno : no = (os.length : Int) := hno
      replace hkl : k < no := hkl
      have wk : IntKind.wrap .i64 (k + 1) = k + 1 := wrap_i64 (by unfold r64; omega)
      refine ⟨k + 1, ⟨by show 0 ≤ k + 1; omega, by show k + 1 ≤ no; omega⟩, by show no.toNat - (k + 1).toNat < no.toNat - k.toNat; omega, told_less (by simp [toldP, getS, A0, wk])⟩
end Go.Proofs.Ytadnpgkddgbhkaa
