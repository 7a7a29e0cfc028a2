/- Histories: the document's Ops, walked. No condition. -/
import Derived.Test.YtadnpgkddgbhkaaZX25
namespace Go.Proofs.Ytadnpgkddgbhkaa
open Go.RowKit Go.Maps
set_option linter.all false
set_option maxHeartbeats 8000000
def outBR : Nat → List DV → Nat → Store
 | 0, _, _ => []
 | n + 1, dc, v => [⟨68, dc, true, v, true⟩]
theorem an_Hn10 {p q : Prop} (hq : q) (hp : p := by subst hA hX hFs5; clear hH hB; first | exact trivial | exact rfl | assumption | (simp [A0]; done) | (intro q; simpa [A0] using q) | (intro _; trivial) | (show _ = true; kernel_rfl)) : p ∧ q := ⟨hp, hq⟩
set_option maxRecDepth 100000 in
theorem w_opsR (xs : List (List PD)) (l : List Ev) (hxs : xs = evsX l) (hl : l.length ≤ 1048576) (hev : isEv xs) : FnD Try.prog 27 [.d (.slc 14 xs)] [] (fun r st' => st' = [] ∧ pureD r = true ∧ r = (match opsM l with | none => .tup [.d (.slc 14 []), .d (.sc (.bool false))] | some o => .tup [.d (.slc 14 (evsX o)), .d (.sc (.bool true))])) := by
 have hxl : xs.length = l.length := by rw [hxs, evsX_len]
 have hevp : ∀ e ∈ l, isP e.r.pairs := evP hxs hev
 obtain ⟨c, hc⟩ : ∃ c : Int, c = l.length := ⟨_, rfl⟩
 obtain ⟨GFs5, hFs5⟩ : ∃ F, F = Fs50 := ⟨_, rfl⟩
 have hH : SoundK Try.prog [kn_crightR GFs5] := by subst hFs5; exact orK_ok ok_crightR noK_ok
 have hB : SoundB Try.prog [] := by subst hFs5; exact noB_ok
 refine FnD_cbv (T := fun _ => tabY [22, 23, 29, 30, 31, 35, 36, 44, 45, 55, 56, 63, 64, 65, 72, 73, 74, 78, 79, 87, 88, 96, 97, 107, 108, 112, 113, 124, 125, 127, 128, 129, 130] [14]) (H := fun _ => [kn_crightR GFs5]) (tabY_ok _ _) hH follows_mixed Try.func27 rfl Try.ntmps27 (by simp) fun A X W hA hX hW => ?_
 cbv
 have q000 : A.cond false false false = false := by subst hA; rfl
 have q001 : A.cond false false true = true := by subst hA; rfl
 have q010 : A.cond false true false = false := by subst hA; rfl
 have q011 : A.cond false true true = true := by subst hA; rfl
 have q100 : A.cond true false false = false := by subst hA; rfl
 have q101 : A.cond true false true = false := by subst hA; rfl
 have q110 : A.cond true true false = true := by subst hA; rfl
 have q111 : A.cond true true true = true := by subst hA; rfl
 have f3 : A.not true = false := by subst hA; rfl
 have f4 : A.not false = true := by subst hA; rfl
 cbv at f3 f4 q000 q001 q010 q011 q100 q101 q110 q111
 have qq := And.intro q000 (And.intro q001 (And.intro q010 (And.intro q011 (And.intro q100 (And.intro q101 (And.intro q110 (And.intro q111 (And.intro f3 f4))))))))
 repeat first
  | (simp only [qq]; cbv)
  | refine an_Hn10 ?_
 refine loopL (T := fun _ => tabY [22, 23, 29, 30, 31, 35, 36, 44, 45, 55, 56, 63, 64, 65, 72, 73, 74, 78, 79, 87, 88, 96, 97, 107, 108, 112, 113, 124, 125, 127, 128, 129, 130] [14]) (H := fun _ => [kn_crightR GFs5]) (tabY_ok _ _) hH follows_mixed hA hX (fun x : Int × Nat × List DV × Nat => (0 ≤ x.1 ∧ x.1 ≤ c) ∧ ∃ out, x.2.1 = out.length ∧ x.2.2.1 = evsC out ∧ OpsOk x.1 out ∧ opsF l 0 [] = opsF (l.drop x.1.toNat) x.1 out) (fun x => [(0, .d (.slc 14 xs)), (4, outV x.2.1 0 x.2.2.2), (5, .d (.sc (.int .i64 x.1)))]) (fun x => outBR x.2.1 x.2.2.1 x.2.2.2) (fun x => c.toNat - x.1.toNat) (0, 0, [], 0) ?_ ?_ ?_
 ·replace hc : c = (l.length : Int) := hc
  exact ⟨⟨Int.le_refl 0, by show (0 : Int) ≤ c; omega⟩, [], rfl, rfl, OpsOk.nil, rfl⟩
 ·exact told_less (by simp [toldP, getS, outV])
 rintro R ⟨i, n, dc, v⟩ hR ⟨⟨i0, i1⟩, out, hn, hdc, hok, hrun⟩
 replace i0 : 0 ≤ i := i0
 replace i1 : i ≤ c := i1
 replace hc : c = (l.length : Int) := hc
 replace hn : n = out.length := hn
 replace hdc : dc = evsC out := hdc
 replace hok : OpsOk i out := hok
 replace hrun : opsF l 0 [] = opsF (l.drop i.toNat) i out := hrun
 by_cases hlt : i < c
 ·have t2 : A.cmp .lss i (A.len xs) = true := by subst hA; exact decide_eq_true (by show i < (xs.length : Int); omega)
  cbv at t2
  replace hc : c = (l.length : Int) := hc
  have hkl : i < (l.length : Int) := by omega
  obtain ⟨y, hy⟩ : ∃ y, y = l[i.toNat]'(by omega) := ⟨_, rfl⟩
  have hyr : xs.getD i.toNat [] = y.row := by rw [hy]; exact evrow hxs i0 hkl
  rw [evdrop i0 hkl, ← hy] at hrun
  have hyx : y ∈ l := by rw [hy]; exact List.getElem_mem _
  have hinb : A.inb i (A.len xs) := by subst hA; exact ⟨i0, by show i < (xs.length : Int); omega⟩
  obtain ⟨ya, hya⟩ : ∃ z, z = y.a := ⟨_, rfl⟩
  have rya : A.gi (A.lift (A.cdrop (A.row xs i) 0)) 0 = ya := by rw [hya]; subst hA; simp only [A0, hyr]; rfl
  have sya : A.has (A.lift (A.cdrop (A.row xs i) 0)) 0 1 [.d (.sc (.int .i64 ya))] := by rw [hya]; subst hA; simp only [A0, hyr]; exact ⟨rfl, by show 0 + 1 ≤ 14; decide, rfl⟩
  obtain ⟨yb, hyb⟩ : ∃ z, z = y.b := ⟨_, rfl⟩
  have ryb : A.gi (A.lift (A.cdrop (A.row xs i) 1)) 0 = yb := by rw [hyb]; subst hA; simp only [A0, hyr]; rfl
  have syb : A.has (A.lift (A.cdrop (A.row xs i) 1)) 0 1 [.d (.sc (.int .i64 yb))] := by rw [hyb]; subst hA; simp only [A0, hyr]; exact ⟨rfl, by show 0 + 1 ≤ 13; decide, rfl⟩
  obtain ⟨yc, hyc⟩ : ∃ z, z = y.c := ⟨_, rfl⟩
  obtain ⟨yrp, hyrp⟩ : ∃ z, z = y.r := ⟨_, rfl⟩
  obtain ⟨ck, ccl, csq, x1, x2, x3, x4⟩ := yc
  obtain ⟨rw, rf, rv, rn, rp⟩ := yrp
  have hyrow : y.row = [.sc (.int .i64 y.a), .sc (.int .i64 y.b), .sc (.int .i64 ck), .sc (.int .i64 ccl), .sc (.int .i64 csq), .sc (.string x1), .sc (.string x2), .sc (.string x3), .sc (.string x4), .sc (.int .i64 rw), .sc (.bool rf), .sc (.string rv), .sc (.int .i64 rn), .slc 3 rp] := by
   show [.sc (.int .i64 y.a), .sc (.int .i64 y.b)] ++ y.c.row ++ y.r.row = _
   rw [← hyc, ← hyrp]
   rfl
  have rc0 : A.gi (A.lift (A.cdrop (A.row xs i) 2)) 0 = ck := by subst hA; simp only [A0, hyr, hyrow]; rfl
  have rc1 : A.gi (A.lift (A.cdrop (A.row xs i) 2)) (A.pl 0 1) = ccl := by subst hA; simp only [A0, hyr, hyrow]; rfl
  have rc2 : A.gi (A.lift (A.cdrop (A.row xs i) 2)) (A.pl 0 2) = csq := by subst hA; simp only [A0, hyr, hyrow]; rfl
  have rc3 : A.gs (A.lift (A.cdrop (A.row xs i) 2)) (A.pl 0 3) = x1 := by subst hA; simp only [A0, hyr, hyrow]; rfl
  have rc4 : A.gs (A.lift (A.cdrop (A.row xs i) 2)) (A.pl 0 4) = x2 := by subst hA; simp only [A0, hyr, hyrow]; rfl
  have rc5 : A.gs (A.lift (A.cdrop (A.row xs i) 2)) (A.pl 0 5) = x3 := by subst hA; simp only [A0, hyr, hyrow]; rfl
  have rc6 : A.gs (A.lift (A.cdrop (A.row xs i) 2)) (A.pl 0 6) = x4 := by subst hA; simp only [A0, hyr, hyrow]; rfl
  have sc7 : A.has (A.lift (A.cdrop (A.row xs i) 2)) 0 7 [.d (.sc (.int .i64 ck)), .d (.sc (.int .i64 ccl)), .d (.sc (.int .i64 csq)), .d (.sc (.string x1)), .d (.sc (.string x2)), .d (.sc (.string x3)), .d (.sc (.string x4))] := by subst hA; simp only [A0, hyr, hyrow]; exact ⟨rfl, by show 0 + 7 ≤ 12; decide, rfl⟩
  have rr0 : A.gi (A.lift (A.cdrop (A.row xs i) 9)) 0 = rw := by subst hA; simp only [A0, hyr, hyrow]; rfl
  have rr1 : A.gb (A.lift (A.cdrop (A.row xs i) 9)) (A.pl 0 1) = rf := by subst hA; simp only [A0, hyr, hyrow]; rfl
  have rr2 : A.gs (A.lift (A.cdrop (A.row xs i) 9)) (A.pl 0 2) = rv := by subst hA; simp only [A0, hyr, hyrow]; rfl
  have rr3 : A.gi (A.lift (A.cdrop (A.row xs i) 9)) (A.pl 0 3) = rn := by subst hA; simp only [A0, hyr, hyrow]; rfl
  have rr4 : A.gl (A.lift (A.cdrop (A.row xs i) 9)) (A.pl 0 4) = rp := by subst hA; simp only [A0, hyr, hyrow]; rfl
  have sr5 : A.has (A.lift (A.cdrop (A.row xs i) 9)) 0 5 [.d (.sc (.int .i64 rw)), .d (.sc (.bool rf)), .d (.sc (.string rv)), .d (.sc (.int .i64 rn)), .d (.slc 3 rp)] := by subst hA; simp only [A0, hyr, hyrow]; exact ⟨rfl, by show 0 + 5 ≤ 5; decide, rfl⟩
  have rk0 : A.gi (A.lift (A.cdrop (A.cdrop (A.row xs i) 2) 0)) 0 = ck := by subst hA; simp only [A0, hyr, hyrow]; rfl
  have sk0 : A.has (A.lift (A.cdrop (A.cdrop (A.row xs i) 2) 0)) 0 1 [.d (.sc (.int .i64 ck))] := by subst hA; simp only [A0, hyr, hyrow]; exact ⟨rfl, by show 0 + 1 ≤ 12; decide, rfl⟩
  have rk1 : A.gi (A.lift (A.cdrop (A.cdrop (A.row xs i) 2) 1)) 0 = ccl := by subst hA; simp only [A0, hyr, hyrow]; rfl
  have sk1 : A.has (A.lift (A.cdrop (A.cdrop (A.row xs i) 2) 1)) 0 1 [.d (.sc (.int .i64 ccl))] := by subst hA; simp only [A0, hyr, hyrow]; exact ⟨rfl, by show 0 + 1 ≤ 11; decide, rfl⟩
  have is00 : A.is false false = true := by subst hA; rfl
  have is11 : A.is true true = true := by subst hA; rfl
  have is10 : A.is true false = false := by subst hA; rfl
  have is01 : A.is false true = false := by subst hA; rfl
  have hge := openX_ge yb out
  have hstep : ∀ {o}, evStep i out y = o → opsF l 0 [] = o.bind fun o => opsF (l.drop (i + 1).toNat) (i + 1) o := fun {o} h => by rw [hrun, opsF, h]
  cbv at hinb rya sya ryb syb rc0 rc1 rc2 rc3 rc4 rc5 rc6 sc7 rr0 rr1 rr2 rr3 rr4 sr5 rk0 sk0 rk1 sk1 is00 is11 is10 is01
  have hol := hok.len
  rcases n with _ | n
  ·cbv
   repeat first
    | (simp only [t2, rya, ryb, rc0, rc1, rc2, rc3, rc4, rc5, rc6, rr0, rr1, rr2, rr3, rr4, rk0, rk1, is00, is11, is10, is01, qq]; cbv)
    | refine an_Hn10 ?_
   obtain ⟨m, hm⟩ : ∃ z : Int, z = out.length := ⟨_, rfl⟩
   refine loopL (T := fun _ => tabY [22, 23, 29, 30, 31, 35, 36, 44, 45, 55, 56, 63, 64, 65, 72, 73, 74, 78, 79, 87, 88, 96, 97, 107, 108, 112, 113, 124, 125, 127, 128, 129, 130] [14]) (H := fun _ => [kn_crightR GFs5]) (tabY_ok _ _) hH follows_mixed hA hX (fun x : Int × Int => (0 ≤ x.1 ∧ x.1 ≤ m) ∧ openX yb out = openF yb (out.drop x.1.toNat) x.1 x.2) (fun x => [(0, .d (.slc 14 xs)), (4, outV 0 0 v), (5, .d (.sc (.int .i64 i))), (6, .d (.sc (.int .i64 x.2))), (7, .d (.sc (.int .i64 x.1)))]) (fun _ => outBR 0 dc v) (fun x => m.toNat - x.1.toNat) (0, -1) ?_ ?_ ?_
   ·exact ⟨⟨Int.le_refl 0, by show (0 : Int) ≤ m; rw [hm]; omega⟩, rfl⟩
   ·exact told_less (by simp [toldP, getS, outV])
   rintro R2 ⟨j, kk⟩ hR2 ⟨⟨j0, j1⟩, hkk⟩
   replace j0 : 0 ≤ j := j0
   replace j1 : j ≤ m := j1
   replace hm : m = (out.length : Int) := hm
   replace hkk : openX yb out = openF yb (out.drop j.toNat) j kk := hkk
   by_cases hlj : j < m
   ·exfalso
    omega
   ·have t3 : A.cmp .lss j 0 = false := by subst hA; exact decide_eq_false (by show ¬ j < 0; omega)
    have hk9 : openX yb out = kk := by rw [hkk, List.drop_eq_nil_of_le (by omega)]; rfl
    obtain ⟨a1, t4⟩ : ∃ t, A.cmp .eql ya 1 = t := ⟨_, rfl⟩
    have ha1 : a1 = decide (y.a = 1) := by rw [← t4, hya]; subst hA; rfl
    obtain ⟨kn, t5⟩ : ∃ t, A.cmp .lss kk 0 = t := ⟨_, rfl⟩
    have hkn : kn = decide (kk < 0) := by rw [← t5]; subst hA; rfl
    obtain ⟨rc, t6⟩ : ∃ t, GFs5.crightR ⟨ck, ccl, csq, x1, x2, x3, x4⟩ = t := ⟨_, rfl⟩
    have hrc : rc = rightC y.c := by rw [← t6, ← hyc]; subst hFs5; exact rightR_eq _
    obtain ⟨kz, t7⟩ : ∃ t, A.cmp .neq ck 0 = t := ⟨_, rfl⟩
    have hkz : kz = !decide (y.c.kind = 0) := by rw [← t7, ← hyc]; subst hA; rfl
    obtain ⟨ce, t8⟩ : ∃ t, A.cmp .eql ccl yb = t := ⟨_, rfl⟩
    have hce : ce = decide (y.c.client = y.b) := by rw [← t8, ← hyc, hyb]; subst hA; rfl
    obtain ⟨cb, t9⟩ : ∃ t, A.cond (A.cond (A.cond (A.cond a1 kn false) rc false) kz false) ce false = t := ⟨_, rfl⟩
    have hcb : evCall (openX y.b out) y = cb := by
     rw [← hyb, hk9, ← t9]
     unfold evCall
     rw [← ha1, ← hkn, ← hrc, ← hce, show (!decide (y.c.kind = 0)) = kz from hkz.symm]
     subst hA
     cases a1 <;> cases kn <;> cases rc <;> cases kz <;> cases ce <;> rfl
    obtain ⟨a2, t10⟩ : ∃ t, A.cmp .eql ya 2 = t := ⟨_, rfl⟩
    have ha2 : a2 = decide (y.a = 2) := by rw [← t10, hya]; subst hA; rfl
    obtain ⟨kg, t11⟩ : ∃ t, A.cmp .geq kk 0 = t := ⟨_, rfl⟩
    have hkg : kg = decide (0 ≤ kk) := by rw [← t11]; subst hA; rfl
    cbv at t3 t4 t5 t6 t7 t8 t9 t10 t11
    cbv
    repeat first
     | (simp only [t3, t4, t5, t6, t7, t8, t9, t10, t11, t2, rya, ryb, rc0, rc1, rc2, rc3, rc4, rc5, rc6, rr0, rr1, rr2, rr3, rr4, rk0, rk1, is00, is11, is10, is01, qq]; cbv)
     | refine an_Hn10 ?_
    cases cb
    case true =>
     cbv
     repeat first
      | (simp only [t3, t4, t5, t6, t7, t8, t9, t10, t11, t2, rya, ryb, rc0, rc1, rc2, rc3, rc4, rc5, rc6, rr0, rr1, rr2, rr3, rr4, rk0, rk1, is00, is11, is10, is01, qq]; cbv)
      | refine an_Hn10 ?_
     replace hc : c = (l.length : Int) := hc
     replace hlt : i < c := hlt
     have hstE : evStep i out y = some (out ++ [evNew i y]) := by unfold evStep; rw [hcb]; rfl
     have hok2 := hok.step i0 (hevp y hyx) hstE
     have hrun2 := hstep hstE
     have hnw : newN i y = [.d (.sc (.int .i64 i)), .d (.sc (.int .i64 (-1))), .d (.sc (.int .i64 ck)), .d (.sc (.int .i64 ccl)), .d (.sc (.int .i64 csq)), .d (.sc (.string x1)), .d (.sc (.string x2)), .d (.sc (.string x3)), .d (.sc (.string x4)), .d (.sc (.int .i64 0)), .d (.sc (.bool false)), .d (.sc (.string none8)), .d (.sc (.int .i64 0)), .d (.sc (.slice none 0 0))] := by unfold newN; rw [← hyc]
     subst hA hR
     have wk : IntKind.wrap .i64 (i + 1) = i + 1 := wrap_i64 (by unfold r64; omega)
     have ho0 : out = [] := List.eq_nil_of_length_eq_zero hn.symm
     subst ho0
     refine ⟨(i + 1, 1, evsC ([] ++ [evNew i y]), 0), ⟨⟨by show 0 ≤ i + 1; omega, by show i + 1 ≤ c; omega⟩, _, rfl, rfl, hok2, hrun2⟩, by show c.toNat - (i + 1).toNat < c.toNat - i.toNat; omega, Told.trans (told_keep (s' := [(0, .d (.slc 14 xs)), (4, outV 1 0 0), (5, .d (.sc (.int .i64 (i + 1))))]) (st' := [⟨68, newN i y, true, 0, true⟩]) [1] rfl ?_ ?_) (told_upst (UpSt.cons (new_up i y) rfl) ?_)⟩
     ·rw [hnw]
      rfl
     ·simp [toldP, getS, A0, wk, pullD, outV, List.idxOf?, List.findIdx?_cons]
     ·exact ⟨.inl (UpD.refl _), .inl (UpD.refl _), .inl (UpD.refl _), trivial⟩
    case false =>
     cbv
     repeat first
      | (simp only [t3, t4, t5, t6, t7, t8, t9, t10, t11, t2, rya, ryb, rc0, rc1, rc2, rc3, rc4, rc5, rc6, rr0, rr1, rr2, rr3, rr4, rk0, rk1, is00, is11, is10, is01, qq]; cbv)
      | refine an_Hn10 ?_
     have ho0 : out = [] := List.eq_nil_of_length_eq_zero hn.symm
     have hkneg : kg = false := by
      rw [hkg, ← hk9, ho0]
      rfl
     subst hkneg
     refine pauseL hX (s' := [(0, .d (.slc 14 xs)), (4, .d (.slc 14 [])), (5, .d (.sc (.int .i64 i))), (6, .d (.sc (.int .i64 kk)))]) (st' := []) (told_upst rfl ⟨.inl (UpD.refl _), .inl (.inr ⟨rfl, 14, rfl⟩), .inl (UpD.refl _), .inl (UpD.refl _), trivial⟩) ?_
     with_reducible refine goL (T := fun _ => tabY [22, 23, 29, 30, 31, 35, 36, 44, 45, 55, 56, 63, 64, 65, 72, 73, 74, 78, 79, 87, 88, 96, 97, 107, 108, 112, 113, 124, 125, 127, 128, 129, 130] []) (H := fun _ => [kn_crightR GFs5]) (tabY_ok _ _) hH follows_mixed hA hX ?_
     cbv
     repeat first
      | (simp only [t3, t4, t5, t6, t7, t8, t9, t10, t11, t2, rya, ryb, rc0, rc1, rc2, rc3, rc4, rc5, rc6, rr0, rr1, rr2, rr3, rr4, rk0, rk1, is00, is11, is10, is01, qq]; cbv)
      | refine an_Hn10 ?_
     cases a2
     case false =>
      cbv
      repeat first
       | (simp only [t3, t4, t5, t6, t7, t8, t9, t10, t11, t2, rya, ryb, rc0, rc1, rc2, rc3, rc4, rc5, rc6, rr0, rr1, rr2, rr3, rr4, rk0, rk1, is00, is11, is10, is01, qq]; cbv)
       | refine an_Hn10 ?_
      have hret : evRet (openX y.b out) y (out.getD (openX y.b out).toNat default) = false := by
       unfold evRet
       rw [← ha2]
       simp
      subst hA hX hW
      have hno : opsM l = none := hstep (o := none) (by unfold evStep; rw [hcb, hret]; rfl)
      rw [hno]
      exact ret_up ⟨_, rfl, _, _, rfl, .inr ⟨rfl, 14, rfl⟩, _, _, rfl, .inl rfl, rfl⟩ rfl
     case true =>
      cbv
      repeat first
       | (simp only [t3, t4, t5, t6, t7, t8, t9, t10, t11, t2, rya, ryb, rc0, rc1, rc2, rc3, rc4, rc5, rc6, rr0, rr1, rr2, rr3, rr4, rk0, rk1, is00, is11, is10, is01, qq]; cbv)
       | refine an_Hn10 ?_
      cbv
      repeat first
       | (simp only [t3, t4, t5, t6, t7, t8, t9, t10, t11, t2, rya, ryb, rc0, rc1, rc2, rc3, rc4, rc5, rc6, rr0, rr1, rr2, rr3, rr4, rk0, rk1, is00, is11, is10, is01, qq]; cbv)
       | refine an_Hn10 ?_
      have hret : evRet (openX y.b out) y (out.getD (openX y.b out).toNat default) = false := by
       unfold evRet
       rw [← hyb, hk9, ← hkg]
       rfl
      subst hA hX hW
      have hno : opsM l = none := hstep (o := none) (by unfold evStep; rw [hcb, hret]; rfl)
      rw [hno]
      exact ret_up ⟨_, rfl, _, _, rfl, .inr ⟨rfl, 14, rfl⟩, _, _, rfl, .inl rfl, rfl⟩ rfl
  ·cbv
   repeat first
    | (simp only [t2, rya, ryb, rc0, rc1, rc2, rc3, rc4, rc5, rc6, rr0, rr1, rr2, rr3, rr4, rk0, rk1, is00, is11, is10, is01, qq]; cbv)
    | refine an_Hn10 ?_
   obtain ⟨m, hm⟩ : ∃ z : Int, z = out.length := ⟨_, rfl⟩
   refine loopL (T := fun _ => tabY [22, 23, 29, 30, 31, 35, 36, 44, 45, 55, 56, 63, 64, 65, 72, 73, 74, 78, 79, 87, 88, 96, 97, 107, 108, 112, 113, 124, 125, 127, 128, 129, 130] [14]) (H := fun _ => [kn_crightR GFs5]) (tabY_ok _ _) hH follows_mixed hA hX (fun x : Int × Int => (0 ≤ x.1 ∧ x.1 ≤ m) ∧ openX yb out = openF yb (out.drop x.1.toNat) x.1 x.2) (fun x => [(0, .d (.slc 14 xs)), (4, outV (n + 1) 0 v), (5, .d (.sc (.int .i64 i))), (6, .d (.sc (.int .i64 x.2))), (7, .d (.sc (.int .i64 x.1)))]) (fun _ => outBR (n + 1) dc v) (fun x => m.toNat - x.1.toNat) (0, -1) ?_ ?_ ?_
   ·exact ⟨⟨Int.le_refl 0, by show (0 : Int) ≤ m; rw [hm]; omega⟩, rfl⟩
   ·exact told_less (by simp [toldP, getS, outV])
   rintro R2 ⟨j, kk⟩ hR2 ⟨⟨j0, j1⟩, hkk⟩
   replace j0 : 0 ≤ j := j0
   replace j1 : j ≤ m := j1
   replace hm : m = (out.length : Int) := hm
   replace hkk : openX yb out = openF yb (out.drop j.toNat) j kk := hkk
   by_cases hlj : j < m
   ·have t3 : A.cmp .lss j (A.int (n + 1)) = true := by subst hA; exact decide_eq_true (by show j < ((n + 1 : Nat) : Int); omega)
    have hjN : j.toNat < out.length := by omega
    obtain ⟨o, ho⟩ : ∃ z, z = out[j.toNat] := ⟨_, rfl⟩
    obtain ⟨p, hp⟩ : ∃ z : Nat, z = A.off 0 j 14 := ⟨_, rfl⟩
    have hpv : p = j.toNat * 14 := by rw [hp]; subst hA; show 0 + j.toNat * 14 = _; omega
    have hdl : dc.length = out.length * 14 := by rw [hdc]; exact evsC_len out
    have hget : ∀ m, m < 14 → dc[p + m]? = o.cells[m]? := fun m hm => by rw [hpv, hdc, ho]; exact evsC_get hjN m hm
    have g1 : dc[p + 1]? = some (.d (.sc (.int .i64 o.b))) := hget 1 (by omega)
    have g3 : dc[p + 2 + 1]? = some (.d (.sc (.int .i64 o.c.client))) := hget 3 (by omega)
    have hinb2 : A.inb j (A.int (n + 1)) := by subst hA; exact ⟨j0, by show j < ((n + 1 : Nat) : Int); omega⟩
    obtain ⟨ob, hob⟩ : ∃ z, z = o.b := ⟨_, rfl⟩
    obtain ⟨oc, hoc⟩ : ∃ z, z = o.c.client := ⟨_, rfl⟩
    rw [← hob] at g1
    rw [← hoc] at g3
    have e1 : A.gi dc (A.pl p 1) = ob := by subst hA; simp only [A0, g1]; try rfl
    have e3 : A.gi dc (A.pl (A.pl p 2) 1) = oc := by subst hA; simp only [A0, g3]; try rfl
    have hone : ∀ (q : Nat) (d : DV), dc[q]? = some d → A.has dc q 1 [d] := fun q d h => by
     subst hA
     obtain ⟨h1, h2⟩ := List.getElem?_eq_some_iff.1 h
     refine ⟨rfl, by omega, ?_⟩
     rw [List.drop_eq_getElem_cons h1, h2]
     rfl
    have h1 : A.has dc (A.pl p 1) 1 [.d (.sc (.int .i64 ob))] := by have h9 := hone (p + 1) _ g1; subst hA; exact h9
    have h3 : A.has dc (A.pl (A.pl p 2) 1) 1 [.d (.sc (.int .i64 oc))] := by have h9 := hone (p + 2 + 1) _ g3; subst hA; exact h9
    obtain ⟨lb, t4⟩ : ∃ t, A.cmp .lss ob 0 = t := ⟨_, rfl⟩
    obtain ⟨eb, t5⟩ : ∃ t, A.cmp .eql oc yb = t := ⟨_, rfl⟩
    obtain ⟨op, t6⟩ : ∃ t, A.cond lb eb false = t := ⟨_, rfl⟩
    have hop : op = opnB yb o := by
     rw [← t6, ← t4, ← t5, hob, hoc]
     subst hA
     show (bif decide (o.b < 0) then decide (o.c.client = yb) else false) = _
     unfold opnB
     cases decide (o.b < 0) <;> rfl
    have hdo : out.drop j.toNat = o :: out.drop (j + 1).toNat := by rw [ho, show (j + 1).toNat = j.toNat + 1 by omega]; exact List.drop_eq_getElem_cons hjN
    rw [hdo, openF, ← hop] at hkk
    clear hone hget
    cbv at t3 hp hinb2 e1 e3 h1 h3 t4 t5 t6
    cbv
    repeat first
     | (simp only [t3, ← hp, e1, e3, t4, t5, t6, t2, rya, ryb, rc0, rc1, rc2, rc3, rc4, rc5, rc6, rr0, rr1, rr2, rr3, rr4, rk0, rk1, is00, is11, is10, is01, qq]; cbv)
     | refine an_Hn10 ?_
    cases op
    all_goals
     cbv
     repeat first
      | (simp only [t3, ← hp, e1, e3, t4, t5, t6, t2, rya, ryb, rc0, rc1, rc2, rc3, rc4, rc5, rc6, rr0, rr1, rr2, rr3, rr4, rk0, rk1, is00, is11, is10, is01, qq]; cbv)
      | refine an_Hn10 ?_
    case false =>
     subst hA hR2
     replace hol : (out.length : Int) ≤ i := hol
     replace hm : m = (out.length : Int) := hm
     replace hc : c = (l.length : Int) := hc
     replace hlj : j < m := hlj
     have wk : IntKind.wrap .i64 (j + 1) = j + 1 := wrap_i64 (by unfold r64; omega)
     refine ⟨(j + 1, kk), ⟨⟨by show 0 ≤ j + 1; omega, by show j + 1 ≤ m; omega⟩, hkk⟩, by show m.toNat - (j + 1).toNat < m.toNat - j.toNat; omega, told_less (by simp [toldP, getS, A0, wk, outV])⟩
    case true =>
     subst hA hR2
     replace hol : (out.length : Int) ≤ i := hol
     replace hm : m = (out.length : Int) := hm
     replace hc : c = (l.length : Int) := hc
     replace hlj : j < m := hlj
     have wk : IntKind.wrap .i64 (j + 1) = j + 1 := wrap_i64 (by unfold r64; omega)
     refine ⟨(j + 1, j), ⟨⟨by show 0 ≤ j + 1; omega, by show j + 1 ≤ m; omega⟩, hkk⟩, by show m.toNat - (j + 1).toNat < m.toNat - j.toNat; omega, told_less (by simp [toldP, getS, A0, wk, outV])⟩
   ·have t3 : A.cmp .lss j (A.int (n + 1)) = false := by subst hA; exact decide_eq_false (by show ¬ j < ((n + 1 : Nat) : Int); omega)
    have hk9 : openX yb out = kk := by rw [hkk, List.drop_eq_nil_of_le (by omega)]; rfl
    obtain ⟨a1, t4⟩ : ∃ t, A.cmp .eql ya 1 = t := ⟨_, rfl⟩
    have ha1 : a1 = decide (y.a = 1) := by rw [← t4, hya]; subst hA; rfl
    obtain ⟨kn, t5⟩ : ∃ t, A.cmp .lss kk 0 = t := ⟨_, rfl⟩
    have hkn : kn = decide (kk < 0) := by rw [← t5]; subst hA; rfl
    obtain ⟨rc, t6⟩ : ∃ t, GFs5.crightR ⟨ck, ccl, csq, x1, x2, x3, x4⟩ = t := ⟨_, rfl⟩
    have hrc : rc = rightC y.c := by rw [← t6, ← hyc]; subst hFs5; exact rightR_eq _
    obtain ⟨kz, t7⟩ : ∃ t, A.cmp .neq ck 0 = t := ⟨_, rfl⟩
    have hkz : kz = !decide (y.c.kind = 0) := by rw [← t7, ← hyc]; subst hA; rfl
    obtain ⟨ce, t8⟩ : ∃ t, A.cmp .eql ccl yb = t := ⟨_, rfl⟩
    have hce : ce = decide (y.c.client = y.b) := by rw [← t8, ← hyc, hyb]; subst hA; rfl
    obtain ⟨cb, t9⟩ : ∃ t, A.cond (A.cond (A.cond (A.cond a1 kn false) rc false) kz false) ce false = t := ⟨_, rfl⟩
    have hcb : evCall (openX y.b out) y = cb := by
     rw [← hyb, hk9, ← t9]
     unfold evCall
     rw [← ha1, ← hkn, ← hrc, ← hce, show (!decide (y.c.kind = 0)) = kz from hkz.symm]
     subst hA
     cases a1 <;> cases kn <;> cases rc <;> cases kz <;> cases ce <;> rfl
    obtain ⟨a2, t10⟩ : ∃ t, A.cmp .eql ya 2 = t := ⟨_, rfl⟩
    have ha2 : a2 = decide (y.a = 2) := by rw [← t10, hya]; subst hA; rfl
    obtain ⟨kg, t11⟩ : ∃ t, A.cmp .geq kk 0 = t := ⟨_, rfl⟩
    have hkg : kg = decide (0 ≤ kk) := by rw [← t11]; subst hA; rfl
    cbv at t3 t4 t5 t6 t7 t8 t9 t10 t11
    cbv
    repeat first
     | (simp only [t3, t4, t5, t6, t7, t8, t9, t10, t11, t2, rya, ryb, rc0, rc1, rc2, rc3, rc4, rc5, rc6, rr0, rr1, rr2, rr3, rr4, rk0, rk1, is00, is11, is10, is01, qq]; cbv)
     | refine an_Hn10 ?_
    cases cb
    case true =>
     have hfull : A.full dc (n + 1) 14 := by subst hA; show dc.length = (n + 1) * 14; rw [hdc, evsC_len, ← hn]
     have hisl : A.isl (n + 1) 1 168 := by subst hA; replace hc : c = (l.length : Int) := hc; have := hok.len; exact ⟨by omega, by omega⟩
     cbv at hfull hisl
     cbv
     repeat first
      | (simp only [t3, t4, t5, t6, t7, t8, t9, t10, t11, t2, rya, ryb, rc0, rc1, rc2, rc3, rc4, rc5, rc6, rr0, rr1, rr2, rr3, rr4, rk0, rk1, is00, is11, is10, is01, qq]; cbv)
      | refine an_Hn10 ?_
     replace hc : c = (l.length : Int) := hc
     replace hlt : i < c := hlt
     have hstE : evStep i out y = some (out ++ [evNew i y]) := by unfold evStep; rw [hcb]; rfl
     have hok2 := hok.step i0 (hevp y hyx) hstE
     have hrun2 := hstep hstE
     have hnw : newN i y = [.d (.sc (.int .i64 i)), .d (.sc (.int .i64 (-1))), .d (.sc (.int .i64 ck)), .d (.sc (.int .i64 ccl)), .d (.sc (.int .i64 csq)), .d (.sc (.string x1)), .d (.sc (.string x2)), .d (.sc (.string x3)), .d (.sc (.string x4)), .d (.sc (.int .i64 0)), .d (.sc (.bool false)), .d (.sc (.string none8)), .d (.sc (.int .i64 0)), .d (.sc (.slice none 0 0))] := by unfold newN; rw [← hyc]
     subst hA hR
     have wk : IntKind.wrap .i64 (i + 1) = i + 1 := wrap_i64 (by unfold r64; omega)
     refine ⟨(i + 1, n + 2, evsC (out ++ [evNew i y]), v + 1), ⟨⟨by show 0 ≤ i + 1; omega, by show i + 1 ≤ c; omega⟩, _, ?_, rfl, hok2, hrun2⟩, by show c.toNat - (i + 1).toNat < c.toNat - i.toNat; omega, Told.trans (told_keep (s' := [(0, .d (.slc 14 xs)), (4, outV (n + 2) 0 (v + 1)), (5, .d (.sc (.int .i64 (i + 1))))]) (st' := [⟨68, evsC out ++ newN i y, true, v + 1, true⟩]) [0] rfl ?_ ?_) (told_upst (UpSt.cons (st' := []) (ds := evsC (out ++ [evNew i y])) (by rw [evsC_app]; exact upl_app (UpL.refl' _) (new_up i y)) rfl) ?_)⟩
     ·show n + 2 = (out ++ [evNew i y]).length
      rw [List.length_append, ← hn]
      rfl
     ·rw [hnw, hdc]
      simp only [A0]
      show [(⟨68, evsC out ++ [.d (.sc (.int .i64 i)), .d (.sc (.int .i64 (-1))), .d (.sc (.int .i64 ck)), .d (.sc (.int .i64 ccl)), .d (.sc (.int .i64 csq)), .d (.sc (.string x1)), .d (.sc (.string x2)), .d (.sc (.string x3)), .d (.sc (.string x4)), .d (.sc (.int .i64 0)), .d (.sc (.bool false)), .d (.sc (.string none8)), .d (.sc (.int .i64 0)), .d (.sc (.slice none 0 0))], true, v + 1, true⟩ : Box)] = [⟨68, pullL [0] (evsC out ++ [.d (.sc (.int .i64 i)), .d (.sc (.int .i64 (-1))), .d (.sc (.int .i64 ck)), .d (.sc (.int .i64 ccl)), .d (.sc (.int .i64 csq)), .d (.sc (.string x1)), .d (.sc (.string x2)), .d (.sc (.string x3)), .d (.sc (.string x4)), .d (.sc (.int .i64 0)), .d (.sc (.bool false)), .d (.sc (.string none8)), .d (.sc (.int .i64 0)), .d (.sc (.slice none 0 0))]), true, v + 1, true⟩]
      rw [pullL_eq, List.map_append, ← pullL_eq, evsC_pull]
      rfl
     ·simp [toldP, getS, A0, wk, pullD, outV, List.idxOf?, List.findIdx?_cons]
     ·exact ⟨.inl (UpD.refl _), .inl (UpD.refl _), .inl (UpD.refl _), trivial⟩
    case false =>
     cbv
     repeat first
      | (simp only [t3, t4, t5, t6, t7, t8, t9, t10, t11, t2, rya, ryb, rc0, rc1, rc2, rc3, rc4, rc5, rc6, rr0, rr1, rr2, rr3, rr4, rk0, rk1, is00, is11, is10, is01, qq]; cbv)
      | refine an_Hn10 ?_
     with_reducible refine goL (T := fun _ => tabY [22, 23, 29, 30, 31, 35, 36, 44, 45, 55, 56, 63, 64, 65, 72, 73, 74, 78, 79, 87, 88, 96, 97, 107, 108, 112, 113, 124, 125, 127, 128, 129, 130] []) (H := fun _ => [kn_crightR GFs5]) (tabY_ok _ _) hH follows_mixed hA hX ?_
     cbv
     repeat first
      | (simp only [t3, t4, t5, t6, t7, t8, t9, t10, t11, t2, rya, ryb, rc0, rc1, rc2, rc3, rc4, rc5, rc6, rr0, rr1, rr2, rr3, rr4, rk0, rk1, is00, is11, is10, is01, qq]; cbv)
      | refine an_Hn10 ?_
     cases a2
     case false =>
      cbv
      repeat first
       | (simp only [t3, t4, t5, t6, t7, t8, t9, t10, t11, t2, rya, ryb, rc0, rc1, rc2, rc3, rc4, rc5, rc6, rr0, rr1, rr2, rr3, rr4, rk0, rk1, is00, is11, is10, is01, qq]; cbv)
       | refine an_Hn10 ?_
      have hret : evRet (openX y.b out) y (out.getD (openX y.b out).toNat default) = false := by
       unfold evRet
       rw [← ha2]
       simp
      subst hA hX hW
      have hno : opsM l = none := hstep (o := none) (by unfold evStep; rw [hcb, hret]; rfl)
      rw [hno]
      exact ret_up ⟨_, rfl, _, _, rfl, .inr ⟨rfl, 14, rfl⟩, _, _, rfl, .inl rfl, rfl⟩ rfl
     case true =>
      cbv
      repeat first
       | (simp only [t3, t4, t5, t6, t7, t8, t9, t10, t11, t2, rya, ryb, rc0, rc1, rc2, rc3, rc4, rc5, rc6, rr0, rr1, rr2, rr3, rr4, rk0, rk1, is00, is11, is10, is01, qq]; cbv)
       | refine an_Hn10 ?_
      cases kg
      case false =>
       cbv
       repeat first
        | (simp only [t3, t4, t5, t6, t7, t8, t9, t10, t11, t2, rya, ryb, rc0, rc1, rc2, rc3, rc4, rc5, rc6, rr0, rr1, rr2, rr3, rr4, rk0, rk1, is00, is11, is10, is01, qq]; cbv)
        | refine an_Hn10 ?_
       have hret : evRet (openX y.b out) y (out.getD (openX y.b out).toNat default) = false := by
        unfold evRet
        rw [← hyb, hk9, ← hkg]
        rfl
       subst hA hX hW
       have hno : opsM l = none := hstep (o := none) (by unfold evStep; rw [hcb, hret]; rfl)
       rw [hno]
       exact ret_up ⟨_, rfl, _, _, rfl, .inr ⟨rfl, 14, rfl⟩, _, _, rfl, .inl rfl, rfl⟩ rfl
      case true =>
       have hk0 : 0 ≤ kk := of_decide_eq_true hkg.symm
       have hk1 : kk < out.length := by rw [← hk9]; exact openX_lt (by rw [hk9]; exact hk0)
       have hjN : kk.toNat < out.length := by omega
       obtain ⟨o, ho⟩ : ∃ z, z = out[kk.toNat] := ⟨_, rfl⟩
       obtain ⟨p, hp⟩ : ∃ z : Nat, z = A.off 0 kk 14 := ⟨_, rfl⟩
       have hpv : p = kk.toNat * 14 := by rw [hp]; subst hA; show 0 + kk.toNat * 14 = _; omega
       have hdl : dc.length = out.length * 14 := by rw [hdc]; exact evsC_len out
       have hget : ∀ m, m < 14 → dc[p + m]? = o.cells[m]? := fun m hm => by rw [hpv, hdc, ho]; exact evsC_get hjN m hm
       obtain ⟨occ, hoc⟩ : ∃ z, z = o.c := ⟨_, rfl⟩
       have hocl : o.cells = [.d (.sc (.int .i64 o.a)), .d (.sc (.int .i64 o.b)), .d (.sc (.int .i64 occ.kind)), .d (.sc (.int .i64 occ.client)), .d (.sc (.int .i64 occ.seq)), .d (.sc (.string occ.key)), .d (.sc (.string occ.fin)), .d (.sc (.string occ.old)), .d (.sc (.string occ.val)), .d (.sc (.int .i64 o.r.why)), .d (.sc (.bool o.r.found)), .d (.sc (.string o.r.value)), .d (.sc (.int .i64 o.r.version)), .d (.slc 3 o.r.pairs)] := by rw [hoc]; rfl
       rw [hocl] at hget
       obtain ⟨ok, ocl, osq, z1, z2, z3, z4⟩ := occ
       have g2 := hget 2 (by omega)
       have g3 := hget 3 (by omega)
       have g4 := hget 4 (by omega)
       have g5 := hget 5 (by omega)
       have g6 := hget 6 (by omega)
       have g7 := hget 7 (by omega)
       have g8 := hget 8 (by omega)
       have o0 : A.gi dc (A.pl p 2) = ok := by subst hA; simp only [A0, show dc[p + 2]? = _ from g2]; try rfl
       have o1 : A.gi dc (A.pl (A.pl p 2) 1) = ocl := by subst hA; simp only [A0, show dc[p + 2 + 1]? = _ from g3]; try rfl
       have o2 : A.gi dc (A.pl (A.pl p 2) 2) = osq := by subst hA; simp only [A0, show dc[p + 2 + 2]? = _ from g4]; try rfl
       have o3 : A.gs dc (A.pl (A.pl p 2) 3) = z1 := by subst hA; simp only [A0, show dc[p + 2 + 3]? = _ from g5]; try rfl
       have o4 : A.gs dc (A.pl (A.pl p 2) 4) = z2 := by subst hA; simp only [A0, show dc[p + 2 + 4]? = _ from g6]; try rfl
       have o5 : A.gs dc (A.pl (A.pl p 2) 5) = z3 := by subst hA; simp only [A0, show dc[p + 2 + 5]? = _ from g7]; try rfl
       have o6 : A.gs dc (A.pl (A.pl p 2) 6) = z4 := by subst hA; simp only [A0, show dc[p + 2 + 6]? = _ from g8]; try rfl
       have hh5 : A.has dc (A.pl p 2) 7 [.d (.sc (.int .i64 ok)), .d (.sc (.int .i64 ocl)), .d (.sc (.int .i64 osq)), .d (.sc (.string z1)), .d (.sc (.string z2)), .d (.sc (.string z3)), .d (.sc (.string z4))] := by
        subst hA
        refine ⟨rfl, by show p + 2 + 7 ≤ dc.length; omega, ?_⟩
        have e5 : dc.drop (p + 2) = (o.cells.drop 2) ++ evsC (out.drop (kk.toNat + 1)) := by
         rw [← List.drop_drop, hpv, hdc, evsC_row out kk.toNat hjN, ho]
         rfl
        show (dc.drop (p + 2)).take 7 = _
        rw [e5, hocl]
        rfl
       have hinb2 : A.inb kk (A.int (n + 1)) := by subst hA; exact ⟨hk0, by show kk < ((n + 1 : Nat) : Int); omega⟩
       obtain ⟨eq, t12⟩ : ∃ t, A.and (A.cmp .eql ck ok) (A.and (A.cmp .eql ccl ocl) (A.and (A.cmp .eql csq osq) (A.and (A.scmp .eql x1 z1) (A.and (A.scmp .eql x2 z2) (A.and (A.scmp .eql x3 z3) (A.and (A.scmp .eql x4 z4) (true))))))) = t := ⟨_, rfl⟩
       have heq : eq = decide (o.c = y.c) := by
        rw [← t12, ← hoc, ← hyc, show decide ((⟨ok, ocl, osq, z1, z2, z3, z4⟩ : Cmd) = ⟨ck, ccl, csq, x1, x2, x3, x4⟩) = decide ((⟨ck, ccl, csq, x1, x2, x3, x4⟩ : Cmd) = ⟨ok, ocl, osq, z1, z2, z3, z4⟩) from decide_eq_decide.2 ⟨Eq.symm, Eq.symm⟩, ← cmd_eq]
        subst hA
        rfl
       have hog : out.getD (openX y.b out).toNat default = o := by rw [← hyb, hk9, List.getD_eq_getElem?_getD, List.getElem?_eq_getElem hjN, ho]; rfl
       cbv at hp o0 o1 o2 o3 o4 o5 o6 hh5 hinb2 t12
       cbv
       repeat first
        | (simp only [o0, o1, o2, o3, o4, o5, o6, ← hp, t12, t3, t4, t5, t6, t7, t8, t9, t10, t11, t2, rya, ryb, rc0, rc1, rc2, rc3, rc4, rc5, rc6, rr0, rr1, rr2, rr3, rr4, rk0, rk1, is00, is11, is10, is01, qq]; cbv)
        | refine an_Hn10 ?_
       cases eq
       case false =>
        cbv
        repeat first
         | (simp only [t3, t4, t5, t6, t7, t8, t9, t10, t11, t2, rya, ryb, rc0, rc1, rc2, rc3, rc4, rc5, rc6, rr0, rr1, rr2, rr3, rr4, rk0, rk1, is00, is11, is10, is01, qq]; cbv)
         | refine an_Hn10 ?_
        have hret : evRet (openX y.b out) y (out.getD (openX y.b out).toNat default) = false := by
         unfold evRet
         rw [hog, ← hyb, hk9, ← hkg, ← ha2, ← heq]
         rfl
        subst hA hX hW
        have hno : opsM l = none := hstep (o := none) (by unfold evStep; rw [hcb, hret]; rfl)
        rw [hno]
        exact ret_up ⟨_, rfl, _, _, rfl, .inr ⟨rfl, 14, rfl⟩, _, _, rfl, .inl rfl, rfl⟩ rfl
       case true =>
        obtain ⟨P, hP⟩ : ∃ z, z = evsC (out.take kk.toNat) := ⟨_, rfl⟩
        obtain ⟨S, hS⟩ : ∃ z, z = evsC (out.drop (kk.toNat + 1)) := ⟨_, rfl⟩
        have hPl : p = P.length := by rw [hP, evsC_len, List.length_take, hpv, Nat.min_eq_left (by omega)]
        have hdc2 : dc = P ++ (o.cells ++ S) := by rw [hdc, evsC_split hjN, hP, hS, ho]
        obtain ⟨D1, hD1⟩ : ∃ z, z = P ++ (splice o.cells 1 [.d (.sc (.int .i64 i))] ++ S) := ⟨_, rfl⟩
        have hs1 : splice dc (p + 1) [.d (.sc (.int .i64 i))] = D1 := by rw [hD1, hdc2, hPl]; exact splice_mid P o.cells S _ 1 (show 1 + 1 ≤ 14 by omega)
        obtain ⟨D2, hD2⟩ : ∃ z, z = P ++ ((evBack i y o).cells ++ S) := ⟨_, rfl⟩
        have hs2 : splice D1 (p + 9) [.d (.sc (.int .i64 rw)), .d (.sc (.bool rf)), .d (.sc (.string rv)), .d (.sc (.int .i64 rn)), .d (.slc 3 rp)] = D2 := by
         rw [hD2, hD1, hPl]
         have e9 : (evBack i y o).cells = splice (splice o.cells 1 [.d (.sc (.int .i64 i))]) 9 [.d (.sc (.int .i64 rw)), .d (.sc (.bool rf)), .d (.sc (.string rv)), .d (.sc (.int .i64 rn)), .d (.slc 3 rp)] := by
          show (⟨o.a, i, o.c, y.r⟩ : Ev).cells = _
          rw [← hyrp]
          rfl
         rw [e9]
         exact splice_mid P (splice o.cells 1 [.d (.sc (.int .i64 i))]) S _ 9 (show 9 + 5 ≤ 14 by omega)
        have hl1 : D1.length = dc.length := by rw [hD1, hdc2, List.length_append, List.length_append, List.length_append, List.length_append]; rfl
        have hD2s : D2 = evsC (out.set kk.toNat (evBack i y o)) := by rw [hD2, evsC_set hjN, hP, hS]
        have q1 : A.spl dc (A.pl p 1) [.d (.sc (.int .i64 i))] = D1 := by subst hA; exact hs1
        have q2 : A.spl D1 (A.pl p 9) [.d (.sc (.int .i64 rw)), .d (.sc (.bool rf)), .d (.sc (.string rv)), .d (.sc (.int .i64 rn)), .d (.slc 3 rp)] = D2 := by subst hA; exact hs2
        have y1 : A.fits dc (A.pl p 1) 1 := by subst hA; show p + 1 + 1 ≤ dc.length; omega
        have y2 : A.fits D1 (A.pl p 9) 5 := by subst hA; show p + 9 + 5 ≤ D1.length; omega
        cbv at q1 q2 y1 y2
        cbv
        repeat first
         | (simp only [q1, q2, o0, o1, o2, o3, o4, o5, o6, ← hp, t12, t3, t4, t5, t6, t7, t8, t9, t10, t11, t2, rya, ryb, rc0, rc1, rc2, rc3, rc4, rc5, rc6, rr0, rr1, rr2, rr3, rr4, rk0, rk1, is00, is11, is10, is01, qq]; cbv)
         | refine an_Hn10 ?_
        have hstE : evStep i out y = some (out.set kk.toNat (evBack i y o)) := by
         have hret : evRet (openX y.b out) y (out.getD (openX y.b out).toNat default) = true := by
          unfold evRet
          rw [hog, ← hyb, hk9, ← hkg, ← ha2, ← heq]
          rfl
         unfold evStep
         rw [hcb, hret, hog, ← hyb, hk9]
         rfl
        have hok2 := hok.step i0 (hevp y hyx) hstE
        have hrun2 := hstep hstE
        replace hc : c = (l.length : Int) := hc
        replace hlt : i < c := hlt
        subst hA hR
        have wk : IntKind.wrap .i64 (i + 1) = i + 1 := wrap_i64 (by unfold r64; omega)
        refine ⟨(i + 1, n + 1, evsC (out.set kk.toNat (evBack i y o)), v), ⟨⟨by show 0 ≤ i + 1; omega, by show i + 1 ≤ c; omega⟩, _, by rw [List.length_set]; exact hn, rfl, hok2, hrun2⟩, by show c.toNat - (i + 1).toNat < c.toNat - i.toNat; omega, told_keep [0] rfl ?_ ?_⟩
        ·rw [hD2s]
         show [(⟨68, evsC (out.set kk.toNat (evBack i y o)), true, v, true⟩ : Box)] = [⟨68, pullL [0] (evsC (out.set kk.toNat (evBack i y o))), true, v, true⟩]
         rw [evsC_pull]
        ·simp [toldP, getS, A0, wk, pullD, outV, List.idxOf?, List.findIdx?_cons]
 ·have t2 : A.cmp .lss i (A.len xs) = false := by subst hA; exact decide_eq_false (by show ¬ i < (xs.length : Int); omega)
  have hres : opsM l = some out := by
   show opsF l 0 [] = _
   rw [hrun, List.drop_eq_nil_of_le (by omega)]
   rfl
  cbv at t2
  rcases n with _ | n
  ·have ho0 : out = [] := List.eq_nil_of_length_eq_zero hn.symm
   subst ho0
   cbv
   repeat first
    | (simp only [t2, qq]; cbv)
    | refine an_Hn10 ?_
   subst hA hX hW
   rw [hres]
   exact ret_up ⟨_, rfl, _, _, rfl, .inr ⟨rfl, 14, rfl⟩, _, _, rfl, .inl rfl, rfl⟩ rfl
  ·cbv
   repeat first
    | (simp only [t2, qq]; cbv)
    | refine an_Hn10 ?_
   subst hA hX hW
   rw [hres]
   exact ret_slice2 (xs := evsX out) (bx := ⟨_, dc, true, v, true⟩) rfl rfl rfl (by rw [evsX_len]; exact hn) (by rw [hdc]; exact evsC_rows out) (evsX_sz out) rfl
theorem v_hopsR (xs : List (List PD)) (h : isEv xs) : FnV Try.prog 27 [.d (.slc 14 xs)] (.tup [.d (.slc 14 (opsR xs).1), .d (.sc (.bool (opsR xs).2))]) := by
 obtain ⟨l, hxs, hl, h2⟩ := h
 have hw := w_opsR xs l hxs hl ⟨l, hxs, hl, h2⟩
 have e : (.tup [.d (.slc 14 (opsR xs).1), .d (.sc (.bool (opsR xs).2))] : DV) = (match opsM l with | none => .tup [.d (.slc 14 []), .d (.sc (.bool false))] | some o => .tup [.d (.slc 14 (evsX o)), .d (.sc (.bool true))]) := by
  unfold opsR
  rw [hxs, evsOf_X]
  cases opsM l <;> rfl
 rw [e]
 exact hw
structure FsHs where
 hopsR : List (List PD) → List (List PD) × Bool
 isEv : List (List PD) → Prop
noncomputable def FsHs0 : FsHs where
 hopsR := opsR
 isEv := isEv
def kn_hopsR (F : FsHs) : FuncId × (List DV → RV) := (27, fun args => match args with
 | [.d (.slc 14 xs)] => some ([F.isEv xs], .tup [.d (.slc 14 ((F.hopsR xs)).1), boolD (((F.hopsR xs)).2)])
 | [.d (.sc (.slice none 0 0))] => some ([F.isEv []], .tup [.d (.slc 14 ((F.hopsR [])).1), boolD (((F.hopsR [])).2)])
 | _ => none)
theorem ok_hopsR (args : List DV) (cs : List Prop) (r : DV) (h : (kn_hopsR FsHs0).2 args = some (cs, r)) (hc : allP cs True) : FnV Try.prog 27 args r ∧ closedL 0 args = true := by
 unfold kn_hopsR at h
 simp only at h
 split at h
 ·cases h; exact ⟨v_hopsR _ hc.1, rfl⟩
 ·cases h; exact ⟨FnP.nils (v_hopsR [] hc.1) ⟨.inr ⟨rfl, _, rfl⟩, trivial⟩, rfl⟩
 ·cases h
end Go.Proofs.Ytadnpgkddgbhkaa
