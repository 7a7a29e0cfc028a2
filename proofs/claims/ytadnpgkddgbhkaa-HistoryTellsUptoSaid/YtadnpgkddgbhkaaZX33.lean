/- Histories that are made: what the laws want of them. No condition. -/
import Derived.Test.YtadnpgkddgbhkaaZX32
import Derived.Test.YtadnpgkddgbhkaaZX31
import Derived.Test.YtadnpgkddgbhkaaZX17
namespace Go.Proofs.Ytadnpgkddgbhkaa
open Go.RowKit Go.Maps
set_option linter.all false
set_option maxHeartbeats 4000000
theorem cutL {α : Sort _} {X : Cps} {c : Code} {Q : Exit → SL → Store → Prop} {G : Prop} (I : α → Prop) (S : α → SL) (ST : Store) (pf : ∀ y, I y → X.st c Q (S y) ST) (g : (∀ y, I y → X.st c Q (S y) ST) → G) : G := g pf
theorem made_ev {l : List MOp} (h : l.length ≤ 1048575) : isEv (evsX (madeF l mZero).out) := (MB.made l 0 mZero mZero_ok (Int.le_refl 0) (by omega)).isEv (by omega)
end Go.Proofs.Ytadnpgkddgbhkaa
namespace Go.Proofs.Ytadnpgkddgbhkaa
open Go.RowKit Go.Maps
set_option linter.all false
set_option maxHeartbeats 8000000
theorem isA (l : List Ev) (h1 : l.length ≤ 1000) (h : (l.all fun e => decide (e.a = 1 ∨ e.a = 2) && (decide (e.b = 1 ∨ e.b = 2) && (decide (e.c.client = 1 ∨ e.c.client = 2) && e.r.pairs.isEmpty))) = true) : isEv (evsX l) := by
 refine ⟨l, rfl, by omega, fun e he => ?_⟩
 rw [List.all_eq_true] at h
 have := h e he
 simp only [Bool.and_eq_true, decide_eq_true_eq, List.isEmpty_iff] at this
 refine ⟨by unfold r64; omega, by unfold r64; omega, by unfold r64; omega, ?_⟩
 rw [this.2.2.2]
 exact isP.nil
theorem ie1 : isEv (evsX hA1) := isA _ (by decide) (by rfl)
theorem ie2 : isEv (evsX hA2) := isA _ (by decide) (by rfl)
theorem ie3 : isEv (evsX hA3) := isA _ (by decide) (by rfl)
theorem ie4 : isEv (evsX hA4) := isA _ (by decide) (by rfl)
theorem in1 : isNums (numsX [0, 1]) := ⟨[0, 1], rfl, by decide, fun n hn => by simp at hn; unfold r64; omega⟩
theorem in2 : isNums (numsX [1, 0]) := ⟨[1, 0], rfl, by decide, fun n hn => by simp at hn; unfold r64; omega⟩
theorem isR1 : isR true (evsX hA1) = true := by unfold isR; rw [run1]; rfl
theorem isR2 : isR false (evsX hA2) = true := by unfold isR; rw [run2]; rfl
theorem isR3 : isR true (evsX hA3) = true := by unfold isR; rw [run3]; rfl
theorem isR4 : isR true (evsX hA4) = true := by unfold isR; rw [run4]; rfl
def hrow (x : HOp) : List PD := [.sc (.int .i64 x.a), .sc (.int .i64 x.b), .sc (.int .i64 x.ck), .sc (.int .i64 x.cc), .sc (.int .i64 x.cq), .sc (.string x.ckey), .sc (.string x.cfin), .sc (.string x.cold), .sc (.string x.cval), .sc (.int .i64 x.w), .sc (.bool x.fd), .sc (.string x.vl), .sc (.int .i64 x.vr), .slc 3 x.pr]
def eta (c : Cmd) : Cmd := ⟨c.kind, c.client, c.seq, c.key, c.fin, c.old, c.val⟩
theorem an_Hi150 {p q : Prop} (hq : q) (hp : p := by subst hA hX hFsHz hFsHf; clear hH hB; first | exact trivial | exact rfl | assumption | (simp [A0]; done) | (intro q; simpa [A0] using q) | (intro _; trivial) | (show _ = true; kernel_rfl)) : p ∧ q := ⟨hp, hq⟩
set_option maxRecDepth 100000 in
theorem v_hruns : FnV Try.prog 4 [] (.d (.sc (.bool true))) := by
 obtain ⟨GFsHz, hFsHz⟩ : ∃ F, F = FsHz0 := ⟨_, rfl⟩
 obtain ⟨GFsHf, hFsHf⟩ : ∃ F, F = FsHf0 := ⟨_, rfl⟩
 have hH : SoundK Try.prog [kn_lput GFsHz, kn_lget GFsHz, kn_lcallH GFsHz, kn_lbackH GFsHz, kn_lis GFsHz, kn_fits GFsHf] := by subst hFsHz hFsHf; exact orK_ok ok_lput (orK_ok ok_lget (orK_ok ok_lcallH (orK_ok ok_lbackH (orK_ok ok_lis (orK_ok ok_fits noK_ok)))))
 have hB : SoundB Try.prog [] := by subst hFsHz hFsHf; exact noB_ok
 refine FnD_cbv (T := fun _ => tabY [] [2, 3, 4]) (H := fun _ => [kn_lput GFsHz, kn_lget GFsHz, kn_lcallH GFsHz, kn_lbackH GFsHz, kn_lis GFsHz, kn_fits GFsHf]) (tabY_ok _ _) hH follows_mixed Try.func4 rfl Try.ntmps4 (by simp) fun A X W hA hX hW => ?_
 cbv
 have q000 : A.cond false false false = false := by subst hA; rfl
 have q001 : A.cond false false true = true := by subst hA; rfl
 have q010 : A.cond false true false = false := by subst hA; rfl
 have q011 : A.cond false true true = true := by subst hA; rfl
 have q100 : A.cond true false false = false := by subst hA; rfl
 have q101 : A.cond true false true = false := by subst hA; rfl
 have q110 : A.cond true true false = true := by subst hA; rfl
 have q111 : A.cond true true true = true := by subst hA; rfl
 have f3 : A.not true = false := by subst hA; rfl
 have f4 : A.not false = true := by subst hA; rfl
 cbv at f3 f4 q000 q001 q010 q011 q100 q101 q110 q111
 have qq := And.intro q000 (And.intro q001 (And.intro q010 (And.intro q011 (And.intro q100 (And.intro q101 (And.intro q110 (And.intro q111 (And.intro f3 f4))))))))
 have c1 : GFsHz.isEv [hrow (GFsHz.lcallH (eta GFsHz.lput)), hrow (GFsHz.lbackH (eta GFsHz.lput) ⟨0, false, none8, 1, []⟩), hrow (GFsHz.lcallH (eta GFsHz.lget)), hrow (GFsHz.lbackH (eta GFsHz.lget) ⟨0, true, oneB2, 1, []⟩)] := by subst hFsHz; exact ie1
 have e1 : GFsHz.lis true [hrow (GFsHz.lcallH (eta GFsHz.lput)), hrow (GFsHz.lbackH (eta GFsHz.lput) ⟨0, false, none8, 1, []⟩), hrow (GFsHz.lcallH (eta GFsHz.lget)), hrow (GFsHz.lbackH (eta GFsHz.lget) ⟨0, true, oneB2, 1, []⟩)] = true := by subst hFsHz; exact isR1
 have c2 : GFsHz.isEv [hrow (GFsHz.lcallH (eta GFsHz.lput)), hrow (GFsHz.lbackH (eta GFsHz.lput) ⟨0, false, none8, 1, []⟩), hrow (GFsHz.lcallH (eta GFsHz.lget)), hrow (GFsHz.lbackH (eta GFsHz.lget) ⟨0, false, none8, 0, []⟩)] := by subst hFsHz; exact ie2
 have e2 : GFsHz.lis false [hrow (GFsHz.lcallH (eta GFsHz.lput)), hrow (GFsHz.lbackH (eta GFsHz.lput) ⟨0, false, none8, 1, []⟩), hrow (GFsHz.lcallH (eta GFsHz.lget)), hrow (GFsHz.lbackH (eta GFsHz.lget) ⟨0, false, none8, 0, []⟩)] = true := by subst hFsHz; exact isR2
 have c3 : GFsHz.isEv [hrow (GFsHz.lcallH (eta GFsHz.lput)), hrow (GFsHz.lcallH (eta GFsHz.lget)), hrow (GFsHz.lbackH (eta GFsHz.lget) ⟨0, false, none8, 0, []⟩)] := by subst hFsHz; exact ie3
 have e3 : GFsHz.lis true [hrow (GFsHz.lcallH (eta GFsHz.lput)), hrow (GFsHz.lcallH (eta GFsHz.lget)), hrow (GFsHz.lbackH (eta GFsHz.lget) ⟨0, false, none8, 0, []⟩)] = true := by subst hFsHz; exact isR3
 have c4 : GFsHz.isEv [hrow (GFsHz.lcallH (eta GFsHz.lput)), hrow (GFsHz.lcallH (eta GFsHz.lget)), hrow (GFsHz.lbackH (eta GFsHz.lget) ⟨0, true, oneB2, 1, []⟩)] := by subst hFsHz; exact ie4
 have e4 : GFsHz.lis true [hrow (GFsHz.lcallH (eta GFsHz.lput)), hrow (GFsHz.lcallH (eta GFsHz.lget)), hrow (GFsHz.lbackH (eta GFsHz.lget) ⟨0, true, oneB2, 1, []⟩)] = true := by subst hFsHz; exact isR4
 have c5 : GFsHf.isEv [hrow (GFsHz.lcallH (eta GFsHz.lput)), hrow (GFsHz.lcallH (eta GFsHz.lget)), hrow (GFsHz.lbackH (eta GFsHz.lget) ⟨0, true, oneB2, 1, []⟩)] := by subst hFsHz hFsHf; exact ie4
 have c6 : GFsHf.isNums [[.sc (.int .i64 0)], [.sc (.int .i64 1)]] := by subst hFsHf; exact in1
 have c7 : GFsHf.isNums [[.sc (.int .i64 1)], [.sc (.int .i64 0)]] := by subst hFsHf; exact in2
 have e5 : GFsHf.fits [hrow (GFsHz.lcallH (eta GFsHz.lput)), hrow (GFsHz.lcallH (eta GFsHz.lget)), hrow (GFsHz.lbackH (eta GFsHz.lget) ⟨0, true, oneB2, 1, []⟩)] [[.sc (.int .i64 0)], [.sc (.int .i64 1)]] = true := by subst hFsHz hFsHf; exact run5
 have e6 : GFsHf.fits [hrow (GFsHz.lcallH (eta GFsHz.lput)), hrow (GFsHz.lcallH (eta GFsHz.lget)), hrow (GFsHz.lbackH (eta GFsHz.lget) ⟨0, true, oneB2, 1, []⟩)] [[.sc (.int .i64 1)], [.sc (.int .i64 0)]] = false := by subst hFsHz hFsHf; exact run6
 have n1 : A.not false = true := by subst hA; rfl
 cbv at c1 c2 c3 c4 c5 c6 c7 e1 e2 e3 e4 e5 e6 n1
 repeat first
  | refine an_Hi150 ?_
 with_reducible refine regionL [1000004, 1000003, 1000002] [] (T := fun _ => tabY [] []) (H := fun _ => [kn_lput GFsHz, kn_lget GFsHz, kn_lcallH GFsHz, kn_lbackH GFsHz, kn_lis GFsHz, kn_fits GFsHf]) (B := fun _ => []) (R := fun _ => []) (A := A) (tabY_ok _ _) hH noB_ok noR_ok follows_mixed hA hX (by kernel_rfl) (by kernel_rfl) (by kernel_rfl) ?_
 cbv
 simp only [c1, e1, true_and]
 cbv
 simp only [c2, e2, true_and]
 cbv
 with_reducible refine regionL [1000004, 1000003, 1000002] [] (T := fun _ => tabY [] []) (H := fun _ => [kn_lput GFsHz, kn_lget GFsHz, kn_lcallH GFsHz, kn_lbackH GFsHz, kn_lis GFsHz, kn_fits GFsHf]) (B := fun _ => []) (R := fun _ => []) (A := A) (tabY_ok _ _) hH noB_ok noR_ok follows_mixed hA hX (by kernel_rfl) (by kernel_rfl) (by kernel_rfl) ?_
 cbv
 simp only [c3, e3, true_and]
 cbv
 simp only [c4, e4, true_and]
 cbv
 with_reducible refine regionL [1000004, 1000003, 1000002] [] (T := fun _ => tabY [] []) (H := fun _ => [kn_lput GFsHz, kn_lget GFsHz, kn_lcallH GFsHz, kn_lbackH GFsHz, kn_lis GFsHz, kn_fits GFsHf]) (B := fun _ => []) (R := fun _ => []) (A := A) (tabY_ok _ _) hH noB_ok noR_ok follows_mixed hA hX (by kernel_rfl) (by kernel_rfl) (by kernel_rfl) ?_
 cbv
 repeat (simp only [c5, c6, e5, c7, e6, n1, true_and, qq]; cbv)
 subst hA hX hW
 exact ret_v rfl rfl
structure FsHr where
 hruns : Bool
def FsHr0 : FsHr where
 hruns := true
def kn_hruns (F : FsHr) : FuncId × (List DV → RV) := (4, fun args => match args with
 | [] => some ([], boolD F.hruns)
 | _ => none)
theorem ok_hruns (args : List DV) (cs : List Prop) (r : DV) (h : (kn_hruns FsHr0).2 args = some (cs, r)) (hc : allP cs True) : FnV Try.prog 4 args r ∧ closedL 0 args = true := by
 unfold kn_hruns at h
 simp only at h
 split at h
 ·cases h; exact ⟨v_hruns, rfl⟩
 ·cases h
end Go.Proofs.Ytadnpgkddgbhkaa
namespace Go.Proofs.Ytadnpgkddgbhkaa
open Go.RowKit Go.Maps
set_option linter.all false
set_option maxHeartbeats 8000000
theorem isEv_take {xs : List (List PD)} (h : isEv xs) (n : Nat) : isEv (xs.take n) := by
 obtain ⟨l, rfl, h1, h2⟩ := h
 exact ⟨l.take n, by simp [evsX], by rw [List.length_take]; omega, fun x hx => h2 x (List.mem_of_mem_take hx)⟩
theorem an_Hn30 {p q : Prop} (hq : q) (hp : p := by subst hA hX hFsHq5 hFsHp hFsHs hFsHl hFsHt hFsOw hFsHr; clear hH hB; first | exact trivial | exact rfl | assumption | (simp [A0]; done) | (intro q; simpa [A0] using q) | (intro _; trivial) | (show _ = true; kernel_rfl)) : p ∧ q := ⟨hp, hq⟩
set_option maxRecDepth 100000 in
theorem v_htells (xs ms : List (List PD)) (own : Bool) (hev : isEv xs) (hms : isMops ms) : FnV Try.prog 5 [.d (.slc 14 xs), .d (.slc 11 ms), .d (.sc (.bool own))] (.d (.sc (.bool true))) := by
 obtain ⟨GFsHq5, hFsHq5⟩ : ∃ F, F = FsHq50 := ⟨_, rfl⟩
 obtain ⟨GFsHp, hFsHp⟩ : ∃ F, F = FsHp0 := ⟨_, rfl⟩
 obtain ⟨GFsHs, hFsHs⟩ : ∃ F, F = FsHs0 := ⟨_, rfl⟩
 obtain ⟨GFsHl, hFsHl⟩ : ∃ F, F = FsHl0 := ⟨_, rfl⟩
 obtain ⟨GFsHt, hFsHt⟩ : ∃ F, F = FsHt0 := ⟨_, rfl⟩
 obtain ⟨GFsOw, hFsOw⟩ : ∃ F, F = FsOw0 := ⟨_, rfl⟩
 obtain ⟨GFsHr, hFsHr⟩ : ∃ F, F = FsHr0 := ⟨_, rfl⟩
 have hH : SoundK Try.prog [kn_made GFsHq5, kn_hops GFsHp, kn_hopsR GFsHs, kn_linear GFsHl, kn_linearR GFsHt, kn_replies GFsOw, kn_hruns GFsHr] := by subst hFsHq5 hFsHp hFsHs hFsHl hFsHt hFsOw hFsHr; exact orK_ok ok_made (orK_ok ok_hops (orK_ok ok_hopsR (orK_ok ok_linear (orK_ok ok_linearR (orK_ok ok_replies (orK_ok ok_hruns noK_ok))))))
 have hB : SoundB Try.prog [] := by subst hFsHq5 hFsHp hFsHs hFsHl hFsHt hFsOw hFsHr; exact noB_ok
 refine FnD_cbv (T := fun _ => tabY [55, 56, 60, 61, 67, 68, 72, 73, 80, 81, 85, 86, 93, 94, 98, 99] [3, 5]) (H := fun _ => [kn_made GFsHq5, kn_hops GFsHp, kn_hopsR GFsHs, kn_linear GFsHl, kn_linearR GFsHt, kn_replies GFsOw, kn_hruns GFsHr]) (tabY_ok _ _) hH follows_mixed Try.func5 rfl Try.ntmps5 (by simp) fun A X W hA hX hW => ?_
 cbv
 have q000 : A.cond false false false = false := by subst hA; rfl
 have q001 : A.cond false false true = true := by subst hA; rfl
 have q010 : A.cond false true false = false := by subst hA; rfl
 have q011 : A.cond false true true = true := by subst hA; rfl
 have q100 : A.cond true false false = false := by subst hA; rfl
 have q101 : A.cond true false true = false := by subst hA; rfl
 have q110 : A.cond true true false = true := by subst hA; rfl
 have q111 : A.cond true true true = true := by subst hA; rfl
 have f3 : A.not true = false := by subst hA; rfl
 have f4 : A.not false = true := by subst hA; rfl
 cbv at f3 f4 q000 q001 q010 q011 q100 q101 q110 q111
 have qq := And.intro q000 (And.intro q001 (And.intro q010 (And.intro q011 (And.intro q100 (And.intro q101 (And.intro q110 (And.intro q111 (And.intro f3 f4))))))))
 have hb0 : ∀ b : Bool, A.beq b b = true := fun b => by subst hA; cases b <;> rfl
 have hisl : isEv xs := hev
 apply cutL (X := X) (fun zs : List (List PD) => isEv zs) (fun zs => [(0, .d (.slc 14 zs))]) []
 rotate_left
 ·intro key
  cases own
  case true =>
   cbv
   have em : ∃ zs ws, GFsHq5.made ms = (zs, ws) ∧ isEv zs := by
    obtain ⟨l, hms1, hl, hlr⟩ := hms
    refine ⟨evsX (madeF l mZero).out, numsX (madeF l mZero).ord, ?_, made_ev hl⟩
    subst hFsHq5
    exact madeR_of hms1
   obtain ⟨zs, ws, em, hz⟩ := em
   have cm : GFsHq5.isMops ms := by subst hFsHq5; exact hms
   cbv at em cm
   refine And.intro cm ?_
   simp only [em]
   cbv
   refine pauseL hX (s' := _) (st' := _) ?_ (key zs hz)
   exact told_less (by simp [toldP, getS])
  case false =>
   cbv
   refine pauseL hX (s' := _) (st' := _) ?_ (key xs hisl)
   exact told_less (by simp [toldP, getS])
 rintro us hus
 with_reducible refine goL (T := fun _ => tabY [55, 56, 60, 61, 67, 68, 72, 73, 80, 81, 85, 86, 93, 94, 98, 99] [5]) (H := fun _ => [kn_made GFsHq5, kn_hops GFsHp, kn_hopsR GFsHs, kn_linear GFsHl, kn_linearR GFsHt, kn_replies GFsOw, kn_hruns GFsHr]) (tabY_ok _ _) hH follows_mixed hA hX ?_
 cbv
 apply cutL (X := X) (fun zs : List (List PD) => isEv zs) (fun zs => [(0, .d (.slc 14 zs))]) []
 rotate_left
 ·intro key
  obtain ⟨t1, w1⟩ : ∃ t, A.cmp .gtr (A.len us) 24 = t := ⟨_, rfl⟩
  have hs1 : t1 = decide ((us.length : Int) > 24) := by rw [← w1]; subst hA; rfl
  cbv at w1
  simp only [w1]
  cases t1
  case true =>
   replace hs1 : (24 : Int) < us.length := of_decide_eq_true hs1.symm
   have hs1 : 24 < us.length := by omega
   cbv
   refine And.intro (by subst hA; show (0 : Int) ≤ 0 ∧ (0 : Int) ≤ 24 ∧ (24 : Int) ≤ (us.length : Int); omega) ?_
   refine pauseL hX (s' := _) (st' := _) ?_ (key (us.take 24) (isEv_take hus 24))
   subst hA
   exact told_less (by simp [toldP, getS, A0])
  case false =>
   cbv
   refine pauseL hX (s' := _) (st' := _) ?_ (key us hus)
   exact told_less (by simp [toldP, getS])
 rintro zs hzs
 obtain ⟨os, ob, hop⟩ : ∃ a b, opsR zs = (a, b) := ⟨_, _, rfl⟩
 have eo : GFsHp.hops zs = (os, ob) := by subst hFsHp; exact hop
 have er : GFsHs.hopsR zs = (os, ob) := by subst hFsHs; exact hop
 obtain ⟨la, lb, hlin⟩ : ∃ a b, linR zs = (a, b) := ⟨_, _, rfl⟩
 have el : GFsHl.linear zs = (la, lb) := by subst hFsHl; exact hlin
 have et : GFsHt.linearR zs = (la, lb) := by subst hFsHt; exact hlin
 have eh : GFsHr.hruns = true := by subst hFsHr; rfl
 have v1 : GFsHp.isEv zs := by subst hFsHp; exact hzs
 have v2 : GFsHs.isEv zs := by subst hFsHs; exact hzs
 have v3 : GFsHl.isEv zs := by subst hFsHl; exact hzs
 have v4 : GFsHt.isEv zs := by subst hFsHt; exact hzs
 have hoev : ∃ o : List Ev, os = evsX o ∧ (∀ e ∈ o, isP e.r.pairs) ∧ o.length ≤ 4194304 := by
  obtain ⟨l, hzl, hl, hle⟩ := hzs
  unfold opsR at hop
  rw [hzl, evsOf_X] at hop
  cases ho : opsM l with
  | none => rw [ho] at hop; exact ⟨[], (Prod.mk.inj hop).1.symm, fun e he => (by cases he), by decide⟩
  | some o =>
    rw [ho] at hop
    have hok := opsM_ok hl (fun e he => (hle e he).2.2.2) ho
    exact ⟨o, (Prod.mk.inj hop).1.symm, fun e he => (hok.ev e he).2.2.2.2.2.2, by have := hok.len; omega⟩
 obtain ⟨o, hos, hoP, hobd⟩ := hoev
 have b1 := hb0 ob
 have b2 := hb0 la
 have b3 := hb0 lb
 have n1 : A.cmp .neq (A.len os) (A.len os) = false := by subst hA; show (!decide (_ = _)) = false; simp
 clear hb0
 cbv at eo er el et eh v1 v2 v3 v4 b1 b2 b3 n1
 with_reducible refine goL (T := fun _ => tabY [55, 56, 60, 61, 67, 68, 72, 73, 80, 81, 85, 86, 93, 94, 98, 99] []) (H := fun _ => [kn_made GFsHq5, kn_hops GFsHp, kn_hopsR GFsHs, kn_linear GFsHl, kn_linearR GFsHt, kn_replies GFsOw, kn_hruns GFsHr]) (tabY_ok _ _) hH follows_mixed hA hX ?_
 cbv
 repeat first
  | (simp only [eo, er, b1, n1, qq]; cbv)
  | refine an_Hn30 ?_
 obtain ⟨c, hc⟩ : ∃ c : Int, c = o.length := ⟨_, rfl⟩
 have hol : os.length = o.length := by rw [hos, evsX_len]
 refine loopL (T := fun _ => tabY [55, 56, 60, 61, 67, 68, 72, 73, 80, 81, 85, 86, 93, 94, 98, 99] []) (H := fun _ => [kn_made GFsHq5, kn_hops GFsHp, kn_hopsR GFsHs, kn_linear GFsHl, kn_linearR GFsHt, kn_replies GFsOw, kn_hruns GFsHr]) (tabY_ok _ _) hH follows_mixed hA hX (fun i : Int => 0 ≤ i ∧ i ≤ c) (fun i => [(0, .d (.slc 14 zs)), (7, .d (.slc 14 os)), (9, .d (.slc 14 os)), (11, .d (.sc (.int .i64 i)))]) (fun _ => []) (fun i => c.toNat - i.toNat) 0 ?_ ?_ ?_
 ·exact ⟨Int.le_refl 0, by show (0 : Int) ≤ c; rw [hc]; omega⟩
 ·exact told_less (by simp [toldP, getS])
 rintro R i hR ⟨i0, i1⟩
 replace hc : c = (o.length : Int) := hc
 have hol12 : o.length ≤ 4194304 := hobd
 by_cases hlt : i < c
 ·have t2 : A.cmp .lss i (A.len os) = true := by subst hA; exact decide_eq_true (by show i < (os.length : Int); omega)
  have hkl : i < (o.length : Int) := by omega
  obtain ⟨y, hy⟩ : ∃ y, y = o[i.toNat]'(by omega) := ⟨_, rfl⟩
  have hyr : os.getD i.toNat [] = y.row := by rw [hy]; exact evrow hos i0 hkl
  have hyx : y ∈ o := by rw [hy]; exact List.getElem_mem _
  have hinb : A.inb i (A.len os) := by subst hA; exact ⟨i0, by show i < (os.length : Int); omega⟩
  obtain ⟨ya, hya⟩ : ∃ z, z = y.a := ⟨_, rfl⟩
  obtain ⟨yb, hyb⟩ : ∃ z, z = y.b := ⟨_, rfl⟩
  obtain ⟨yc, hyc⟩ : ∃ z, z = y.c := ⟨_, rfl⟩
  obtain ⟨yrp, hyrp⟩ : ∃ z, z = y.r := ⟨_, rfl⟩
  have hyp := hoP y hyx
  rw [← hyrp] at hyp
  obtain ⟨ck, ccl, csq, x1, x2, x3, x4⟩ := yc
  obtain ⟨rw, rf, rv, rn, rp⟩ := yrp
  replace hyp : isP rp := hyp
  have hyrow : y.row = [.sc (.int .i64 ya), .sc (.int .i64 yb), .sc (.int .i64 ck), .sc (.int .i64 ccl), .sc (.int .i64 csq), .sc (.string x1), .sc (.string x2), .sc (.string x3), .sc (.string x4), .sc (.int .i64 rw), .sc (.bool rf), .sc (.string rv), .sc (.int .i64 rn), .slc 3 rp] := by
   show [.sc (.int .i64 y.a), .sc (.int .i64 y.b)] ++ y.c.row ++ y.r.row = _
   rw [← hyc, ← hyrp, ← hya, ← hyb]
   rfl
  have ra : A.gi (A.lift (A.cdrop (A.row os i) 0)) 0 = ya := by subst hA; simp only [A0, hyr, hyrow]; rfl
  have sa : A.has (A.lift (A.cdrop (A.row os i) 0)) 0 1 [.d (.sc (.int .i64 ya))] := by subst hA; simp only [A0, hyr, hyrow]; exact ⟨rfl, by show 0 + 1 ≤ 14; decide, rfl⟩
  have rb : A.gi (A.lift (A.cdrop (A.row os i) 1)) 0 = yb := by subst hA; simp only [A0, hyr, hyrow]; rfl
  have sb : A.has (A.lift (A.cdrop (A.row os i) 1)) 0 1 [.d (.sc (.int .i64 yb))] := by subst hA; simp only [A0, hyr, hyrow]; exact ⟨rfl, by show 0 + 1 ≤ 13; decide, rfl⟩
  have rc0 : A.gi (A.lift (A.cdrop (A.row os i) 2)) 0 = ck := by subst hA; simp only [A0, hyr, hyrow]; rfl
  have rc1 : A.gi (A.lift (A.cdrop (A.row os i) 2)) (A.pl 0 1) = ccl := by subst hA; simp only [A0, hyr, hyrow]; rfl
  have rc2 : A.gi (A.lift (A.cdrop (A.row os i) 2)) (A.pl 0 2) = csq := by subst hA; simp only [A0, hyr, hyrow]; rfl
  have rc3 : A.gs (A.lift (A.cdrop (A.row os i) 2)) (A.pl 0 3) = x1 := by subst hA; simp only [A0, hyr, hyrow]; rfl
  have rc4 : A.gs (A.lift (A.cdrop (A.row os i) 2)) (A.pl 0 4) = x2 := by subst hA; simp only [A0, hyr, hyrow]; rfl
  have rc5 : A.gs (A.lift (A.cdrop (A.row os i) 2)) (A.pl 0 5) = x3 := by subst hA; simp only [A0, hyr, hyrow]; rfl
  have rc6 : A.gs (A.lift (A.cdrop (A.row os i) 2)) (A.pl 0 6) = x4 := by subst hA; simp only [A0, hyr, hyrow]; rfl
  have rr0 : A.gi (A.lift (A.cdrop (A.row os i) 9)) 0 = rw := by subst hA; simp only [A0, hyr, hyrow]; rfl
  have rr1 : A.gb (A.lift (A.cdrop (A.row os i) 9)) (A.pl 0 1) = rf := by subst hA; simp only [A0, hyr, hyrow]; rfl
  have rr2 : A.gs (A.lift (A.cdrop (A.row os i) 9)) (A.pl 0 2) = rv := by subst hA; simp only [A0, hyr, hyrow]; rfl
  have rr3 : A.gi (A.lift (A.cdrop (A.row os i) 9)) (A.pl 0 3) = rn := by subst hA; simp only [A0, hyr, hyrow]; rfl
  have rr4 : A.gl (A.lift (A.cdrop (A.row os i) 9)) (A.pl 0 4) = rp := by subst hA; simp only [A0, hyr, hyrow]; rfl
  have sc7 : A.has (A.lift (A.cdrop (A.row os i) 2)) 0 7 [.d (.sc (.int .i64 ck)), .d (.sc (.int .i64 ccl)), .d (.sc (.int .i64 csq)), .d (.sc (.string x1)), .d (.sc (.string x2)), .d (.sc (.string x3)), .d (.sc (.string x4))] := by subst hA; simp only [A0, hyr, hyrow]; exact ⟨rfl, by show 0 + 7 ≤ 12; decide, rfl⟩
  have sr5 : A.has (A.lift (A.cdrop (A.row os i) 9)) 0 5 [.d (.sc (.int .i64 rw)), .d (.sc (.bool rf)), .d (.sc (.string rv)), .d (.sc (.int .i64 rn)), .d (.slc 3 rp)] := by subst hA; simp only [A0, hyr, hyrow]; exact ⟨rfl, by show 0 + 5 ≤ 5; decide, rfl⟩
  have m0 : A.cmp .neq ya ya = false := by subst hA; show (!decide (_ = _)) = false; simp
  have m1 : A.cmp .neq yb yb = false := by subst hA; show (!decide (_ = _)) = false; simp
  have m2 : A.not (A.and (A.cmp .eql ck ck) (A.and (A.cmp .eql ccl ccl) (A.and (A.cmp .eql csq csq) (A.and (A.scmp .eql x1 x1) (A.and (A.scmp .eql x2 x2) (A.and (A.scmp .eql x3 x3) (A.and (A.scmp .eql x4 x4) (true)))))))) = false := by
   subst hA
   show (!(decide _ && _)) = false
   simp [A0]
  have m3 : GFsOw.replies ⟨rw, rf, rv, rn, rp⟩ ⟨rw, rf, rv, rn, rp⟩ = true := by subst hFsOw; exact repliesX_true rfl
  have v5 : GFsOw.isP rp := by subst hFsOw; exact hyp
  cbv at t2 hinb ra sa rb sb rc0 rc1 rc2 rc3 rc4 rc5 rc6 rr0 rr1 rr2 rr3 rr4 sc7 sr5 m0 m1 m2 m3 v5
  cbv
  repeat first
   | (simp only [t2, ra, rb, rc0, rc1, rc2, rc3, rc4, rc5, rc6, rr0, rr1, rr2, rr3, rr4, m0, m1, m2, m3, qq]; cbv)
   | refine an_Hn30 ?_
  subst hA hR
  replace hc : c = (o.length : Int) := hc
  replace hlt : i < c := hlt
  have wk : IntKind.wrap .i64 (i + 1) = i + 1 := wrap_i64 (by unfold r64; omega)
  refine ⟨i + 1, ⟨by show 0 ≤ i + 1; omega, by show i + 1 ≤ c; omega⟩, by show c.toNat - (i + 1).toNat < c.toNat - i.toNat; omega, told_less (by simp [toldP, getS, A0, wk])⟩
 ·have t2 : A.cmp .lss i (A.len os) = false := by subst hA; exact decide_eq_false (by show ¬ i < (os.length : Int); omega)
  cbv at t2
  cbv
  repeat first
   | (simp only [t2, el, et, eh, b2, b3, qq]; cbv)
   | refine an_Hn30 ?_
  subst hA hX hW
  exact ret_v rfl rfl
end Go.Proofs.Ytadnpgkddgbhkaa
