/- Histories: the program's Fits, walked. No condition. -/
import Derived.Test.YtadnpgkddgbhkaaZX26
namespace Go.Proofs.Ytadnpgkddgbhkaa
open Go.RowKit Go.Maps
set_option linter.all false
set_option maxHeartbeats 8000000
def numsX (ns : List Int) : List (List PD) := ns.map fun n => [.sc (.int .i64 n)]
def isNums (xs : List (List PD)) : Prop := ∃ ns, xs = numsX ns ∧ ns.length ≤ 1048576 ∧ ∀ n ∈ ns, r64 n
theorem nrow {xs : List (List PD)} {ns : List Int} (hxs : xs = numsX ns) {i : Int} (h0 : 0 ≤ i) (h1 : i < ns.length) : xs.getD i.toNat [] = [.sc (.int .i64 (ns[i.toNat]'(by omega)))] := by
 subst hxs
 have : i.toNat < ns.length := by omega
 simp [numsX, List.getD_eq_getElem?_getD, this]
theorem numsX_length (ns : List Int) : (numsX ns).length = ns.length := by simp [numsX]
def numsD (ns : List Int) : List DV := ns.map fun n => .d (.sc (.int .i64 n))
theorem nums_gi {last : List Int} {k : Nat} {n : Int} (h : last[k]? = some n) : A0.gi (numsD last) k = n := by
 simp only [A0, numsD, List.getElem?_map, h]
 rfl
theorem nums_has {last : List Int} {k : Nat} {n : Int} (h : last[k]? = some n) : A0.has (numsD last) k 1 [.d (.sc (.int .i64 n))] := by
 obtain ⟨hk, hn⟩ := List.getElem?_eq_some_iff.1 h
 refine ⟨rfl, by simp [numsD]; omega, ?_⟩
 have : k < (numsD last).length := by simp [numsD]; exact hk
 rw [List.drop_eq_getElem_cons this]
 simp [numsD, hn]
theorem nums_spl {last : List Int} {k : Nat} (h : k < last.length) (n : Int) : splice (numsD last) k [.d (.sc (.int .i64 n))] = numsD (last.set k n) := by
 have h2 : k < (numsD last).length := by simp [numsD]; exact h
 apply List.ext_getElem?
 intro j
 rw [show numsD (last.set k n) = (numsD last).set k (.d (.sc (.int .i64 n))) by simp [numsD, List.map_set]]
 rw [splice, List.length_singleton, List.set_eq_take_append_cons_drop, if_pos h2]
 simp
theorem nums_pull (κ : List Nat) (l : List Int) : pullL κ (numsD l) = numsD l := by
 rw [pullL_eq]
 simp [numsD, pullD]
noncomputable def ranF (o : List Ev) : List Int → Int → List Int → List DV → Option (List Int)
 | [], _, at_, _ => some at_
 | k :: r, i, at_, s => bif (decide (k < 0) || decide ((o.length : Int) ≤ k) || decide (at_.getD k.toNat 0 > 0)) then none
   else bif decide (0 ≤ (o.getD k.toNat default).b) && !repliesX (applyS s (o.getD k.toNat default).c).2 (o.getD k.toNat default).r then none
   else ranF o r (i + 1) (at_.set k.toNat (i + 1)) (applyS s (o.getD k.toNat default).c).1
def clB (ak : Int) (e b : Ev) (am : Int) : Bool := decide (ak > 0) && ((decide (0 ≤ b.b) && decide (b.b < e.a)) && decide (am > ak))
def chk1 (o : List Ev) (at_ : List Int) (ak : Int) (e : Ev) : List Ev → Int → Bool
 | [], _ => true
 | b :: l, m => !clB ak e b (at_.getD m.toNat 0) && chk1 o at_ ak e l (m + 1)
def chkF (o : List Ev) (at_ : List Int) : List Ev → Int → Bool
 | [], _ => true
 | e :: l, k => !(decide (0 ≤ e.b) && decide (at_.getD k.toNat 0 = 0)) && (chk1 o at_ (at_.getD k.toNat 0) e o 0 && chkF o at_ l (k + 1))
noncomputable def fitsM (l : List Ev) (r : List Int) : Bool := match opsM l with
 | none => false
 | some o => match ranF o r 0 (List.replicate o.length 0) (cellsS [] (List.replicate 8 ⟨0, zeroRep⟩)) with
   | none => false
   | some at_ => chkF o at_ o 0
theorem an_Hi110 {p q : Prop} (hq : q) (hp : p := by subst hA hX hFsHp hFsS5 hFsHa hFsHo; clear hH hB; first | exact trivial | exact rfl | assumption | (simp [A0]; done) | (intro q; simpa [A0] using q) | (intro _; trivial) | (show _ = true; kernel_rfl)) : p ∧ q := ⟨hp, hq⟩
def numsOf (ks : List (List PD)) : List Int := ks.map fun r => match r with
 | [.sc (.int _ n)] => n
 | _ => 0
theorem numsOf_X : ∀ ns : List Int, numsOf (numsX ns) = ns
 | [] => rfl
 | n :: ns => by show n :: numsOf (numsX ns) = _; rw [numsOf_X ns]
noncomputable def fitsR (xs ks : List (List PD)) : Bool := fitsM (evsOf xs) (numsOf ks)
set_option maxRecDepth 100000 in
theorem v_fits (xs : List (List PD)) (ks : List (List PD)) (hev : isEv xs) (hks : isNums ks) : FnV Try.prog 24 [.d (.slc 14 xs), .d (.slc 1 ks)] (.d (.sc (.bool (fitsR xs ks)))) := by
 obtain ⟨GFsHp, hFsHp⟩ : ∃ F, F = FsHp0 := ⟨_, rfl⟩
 obtain ⟨GFsS5, hFsS5⟩ : ∃ F, F = FsS50 := ⟨_, rfl⟩
 obtain ⟨GFsHa, hFsHa⟩ : ∃ F, F = FsHa0 := ⟨_, rfl⟩
 obtain ⟨GFsHo, hFsHo⟩ : ∃ F, F = FsHo0 := ⟨_, rfl⟩
 have hH : SoundK Try.prog [kn_hops GFsHp, kn_apply GFsS5, kn_hsame GFsHa, kn_ahead GFsHo] := by subst hFsHp hFsS5 hFsHa hFsHo; exact orK_ok ok_hops (orK_ok ok_apply (orK_ok ok_hsame (orK_ok ok_ahead noK_ok)))
 have hB : SoundB Try.prog [] := by subst hFsHp hFsS5 hFsHa hFsHo; exact noB_ok
 refine FnD_cbv (T := fun _ => tabY [31, 44, 52, 57, 58, 65, 66, 73, 74, 85, 93, 102, 106, 117, 121, 1008, 1054, 1061] [13]) (H := fun _ => [kn_hops GFsHp, kn_apply GFsS5, kn_hsame GFsHa, kn_ahead GFsHo]) (tabY_ok _ _) hH follows_mixed Try.func24 rfl Try.ntmps24 (by simp) fun A X W hA hX hW => ?_
 cbv
 have q000 : A.cond false false false = false := by subst hA; rfl
 have q001 : A.cond false false true = true := by subst hA; rfl
 have q010 : A.cond false true false = false := by subst hA; rfl
 have q011 : A.cond false true true = true := by subst hA; rfl
 have q100 : A.cond true false false = false := by subst hA; rfl
 have q101 : A.cond true false true = false := by subst hA; rfl
 have q110 : A.cond true true false = true := by subst hA; rfl
 have q111 : A.cond true true true = true := by subst hA; rfl
 have f3 : A.not true = false := by subst hA; rfl
 have f4 : A.not false = true := by subst hA; rfl
 cbv at f3 f4 q000 q001 q010 q011 q100 q101 q110 q111
 have qq := And.intro q000 (And.intro q001 (And.intro q010 (And.intro q011 (And.intro q100 (And.intro q101 (And.intro q110 (And.intro q111 (And.intro f3 f4))))))))
 obtain ⟨l, hxs, hl, hle⟩ := hev
 have hev : isEv xs := ⟨l, hxs, hl, hle⟩
 obtain ⟨ns, hns, hnl, hnr⟩ := hks
 have hevp : ∀ e ∈ l, isP e.r.pairs := evP hxs hev
 have hop : GFsHp.hops xs = opsR xs := by subst hFsHp; rfl
 have hE : GFsHp.isEv xs := by subst hFsHp; exact hev
 obtain ⟨zs, q, hzq⟩ : ∃ zs q, opsR xs = (zs, q) := ⟨_, _, rfl⟩
 rw [hzq] at hop
 cbv at hop hE
 repeat first
  | (simp only [hop, qq]; cbv)
  | refine an_Hi110 ?_
 have hl0 : evsOf xs = l := by rw [hxs, evsOf_X]
 have hcase : (q = false ∧ opsM l = none) ∨ (q = true ∧ ∃ o, opsM l = some o ∧ zs = evsX o) := by
  unfold opsR at hzq
  rw [hl0] at hzq
  cases h : opsM l with
  | none =>
    rw [h] at hzq
    simp only [Prod.mk.injEq] at hzq
    exact .inl ⟨hzq.2.symm, rfl⟩
  | some o =>
    rw [h] at hzq
    simp only [Prod.mk.injEq] at hzq
    exact .inr ⟨hzq.2.symm, o, rfl, hzq.1.symm⟩
 rcases hcase with ⟨rfl, ho⟩ | ⟨rfl, o, ho, hzo⟩
 ·cbv
  repeat first
   | (simp only [qq]; cbv)
   | refine an_Hi110 ?_
  subst hA hX hW
  have hf : fitsR xs ks = false := by unfold fitsR fitsM; rw [hl0, ho]
  rw [hf]
  exact ret_v rfl rfl
 ·cbv
  repeat first
   | (simp only [qq]; cbv)
   | refine an_Hi110 ?_
  have hok := opsM_ok hl hevp ho
  have hol : o.length ≤ 1048576 := by have := hok.len; omega
  have hzl : zs.length = o.length := by rw [hzo, evsX_len]
  obtain ⟨z, hz⟩ : ∃ z, z = cellsS [] (List.replicate 8 ⟨0, zeroRep⟩) := ⟨_, rfl⟩
  obtain ⟨m, hm⟩ : ∃ m : Nat, m = o.length := ⟨_, rfl⟩
  obtain ⟨r, hr⟩ : ∃ r : Int, r = ns.length := ⟨_, rfl⟩
  refine And.intro (by subst hA; show (0 : Int) ≤ (zs.length : Int) ∧ (zs.length : Int) ≤ (zs.length : Int) ∧ (zs.length : Int) ≤ 281474976710656 ∧ 8 * (zs.length : Int) ≤ 281474976710656 ∧ (zs.length : Int) * 1 ≤ 9223372036854775807; omega) ?_
  refine loopL (T := fun _ => tabY [31, 44, 52, 57, 58, 65, 66, 73, 74, 85, 93, 102, 106, 117, 121, 1008, 1054, 1061] [13]) (H := fun _ => [kn_hops GFsHp, kn_apply GFsS5, kn_hsame GFsHa, kn_ahead GFsHo]) (tabY_ok _ _) hH follows_mixed hA hX (fun x : Int × List DV × List DV => (0 ≤ x.1 ∧ x.1 ≤ r) ∧ ∃ ats, x.2.1 = numsD ats ∧ ats.length = o.length ∧ stOk x.1 x.2.2 ∧ ranF o ns 0 (List.replicate o.length 0) z = ranF o (ns.drop x.1.toNat) x.1 ats x.2.2) (fun x => [(5, .d (.slc 14 zs)), (7, .view 1 0 0 0 m), (8, .ref 1 0 0), (26, .d (.slc 1 ks)), (27, .d (.sc (.int .i64 r))), (28, .d (.sc (.int .i64 x.1)))]) (fun x => [⟨3, x.2.1, false, 0, true⟩, ⟨32, x.2.2, false, 0, true⟩]) (fun x => r.toNat - x.1.toNat) (0, numsD (List.replicate o.length 0), z) ?_ ?_ ?_
  ·replace hr : r = (ns.length : Int) := hr
   exact ⟨⟨Int.le_refl 0, by show 0 ≤ r; omega⟩, _, rfl, List.length_replicate, ⟨[], _, hz, zero_st⟩, rfl⟩
  ·subst hA
   have f1 : A0.rep (A0.len zs) [.d (.sc (.int .i64 0))] = numsD (List.replicate o.length 0) := by
    simp [A0, hzl, numsD]
   have f2 : A0.ext (A0.len zs) (A0.len zs) = false := by simp [A0]
   refine Told.trans (told_eqM (s' := [(5, .d (.slc 14 zs)), (7, .view 1 0 0 0 m), (8, .ref 1 0 0), (26, .d (.slc 1 ks)), (27, .d (.sc (.int .i64 r))), (28, .d (.sc (.int .i64 0)))]) (st' := [⟨3, numsD (List.replicate o.length 0), false, 0, true⟩, ⟨32, Zn49, false, 0, true⟩]) ?_ ?_) (told_upst (UpSt.cons (UpL.refl' _) (UpSt.cons (by rw [hz]; exact upL_upCs Zn49) rfl)) ⟨.inl (UpD.refl _), .inl (UpD.refl _), .inl (UpD.refl _), .inl (UpD.refl _), .inl (UpD.refl _), .inl (UpD.refl _), trivial⟩)
   ·simp only [f1, f2]
    rfl
   ·replace hr : r = (ns.length : Int) := hr
    have hksl : ks.length = ns.length := by rw [hns]; exact numsX_length ns
    simp [toldP, getS, A0, hzl, hm, hr, hksl]
  rintro R ⟨i, cs, s⟩ hR ⟨⟨i0, i1⟩, ats, hcs, has, hs, hrun⟩
  replace hcs : cs = numsD ats := hcs
  replace i0 : 0 ≤ i := i0
  replace i1 : i ≤ r := i1
  replace has : ats.length = o.length := has
  replace hs : stOk i s := hs
  replace hrun : ranF o ns 0 (List.replicate o.length 0) z = ranF o (ns.drop i.toNat) i ats s := hrun
  by_cases hlt : i < r
  ·have t2 : A.cmp .lss i r = true := by subst hA; exact decide_eq_true hlt
   replace hr : r = (ns.length : Int) := hr
   have hin : i.toNat < ns.length := by omega
   obtain ⟨kk, hkk⟩ : ∃ z, z = ns[i.toNat] := ⟨_, rfl⟩
   have hrow : ks.getD i.toNat [] = [.sc (.int .i64 kk)] := by rw [hkk]; exact nrow hns i0 (by omega)
   have hksl : ks.length = ns.length := by rw [hns]; exact numsX_length ns
   have hdr : ns.drop i.toNat = kk :: ns.drop (i + 1).toNat := by rw [List.drop_eq_getElem_cons hin, hkk, show (i + 1).toNat = i.toNat + 1 by omega]
   have hkr : r64 kk := by rw [hkk]; exact hnr _ (List.getElem_mem _)
   have e1 : A.gi (A.lift (A.row ks i)) 0 = kk := by subst hA; simp only [A0, hrow]; try rfl
   have hh1 : A.has (A.lift (A.row ks i)) 0 1 [.d (.sc (.int .i64 kk))] := by subst hA; simp only [A0, hrow]; first | done | exact ⟨rfl, Nat.le_refl _, rfl⟩
   have hnk : A.nn i := by subst hA; exact i0
   have hinb : A.inb i (A.len ks) := by subst hA; exact ⟨i0, by show i < (ks.length : Int); omega⟩
   obtain ⟨a1, t3⟩ : ∃ t, A.cmp .lss kk 0 = t := ⟨_, rfl⟩
   have ha1 : a1 = decide (kk < 0) := by rw [← t3]; subst hA; rfl
   obtain ⟨b1, t4⟩ : ∃ t, A.cmp .geq kk (A.len zs) = t := ⟨_, rfl⟩
   have hb1 : b1 = decide ((o.length : Int) ≤ kk) := by rw [← t4]; subst hA; show decide (kk ≥ (zs.length : Int)) = _; rw [hzl]
   obtain ⟨o1, t5⟩ : ∃ t, A.cond a1 true b1 = t := ⟨_, rfl⟩
   have ho1 : o1 = (decide (kk < 0) || decide ((o.length : Int) ≤ kk)) := by rw [← t5, ← ha1, ← hb1]; subst hA; cases a1 <;> rfl
   obtain ⟨p, hp⟩ : ∃ z : Nat, z = A.off 0 kk 1 := ⟨_, rfl⟩
   have hpv : p = kk.toNat := by rw [hp]; subst hA; show 0 + kk.toNat * 1 = _; omega
   obtain ⟨ak, e2⟩ : ∃ t, A.gi cs p = t := ⟨_, rfl⟩
   obtain ⟨g1, t6⟩ : ∃ t, A.cmp .gtr ak 0 = t := ⟨_, rfl⟩
   have hg1 : g1 = decide (ak > 0) := by rw [← t6]; subst hA; rfl
   have is00 : A.is false false = true := by subst hA; rfl
   have is10 : A.is true false = false := by subst hA; rfl
   cbv at t2 e1 hh1 hnk hinb t3 t4 t5 hp e2 t6 is00 is10
   cbv
   repeat first
    | (simp only [t2, e1, t3, t4, qq]; cbv)
    | refine an_Hi110 ?_
   simp only [t5, ← hp, e2]
   cases o1
   case true =>
    simp only [is00, is10]
    cbv
    repeat first
     | (simp only [t2, e1, t3, t4, t5, ← hp, e2, t6, is00, is10, qq]; cbv)
     | refine an_Hi110 ?_
    subst hA hX hW
    have hf : fitsR xs ks = false := by
     unfold fitsR fitsM
     rw [hl0, ho, hns, numsOf_X]
     simp only []
     rw [← hz, hrun, hdr, ranF, ← ho1]
     rfl
    rw [hf]
    exact ret_keep [] rfl ⟨rfl, rfl, rfl⟩
   case false =>
    have hko : 0 ≤ kk ∧ kk < (o.length : Int) := by
     have h3 : (decide (kk < 0) || decide ((o.length : Int) ≤ kk)) = false := ho1.symm
     rw [Bool.or_eq_false_iff, decide_eq_false_iff_not, decide_eq_false_iff_not] at h3
     exact ⟨Int.not_lt.1 h3.1, Int.not_le.1 h3.2⟩
    have hpl : p < ats.length := by rw [has, hpv]; omega
    have hak : ats[p]? = some ak := by
     rw [← e2, List.getElem?_eq_getElem hpl]
     subst hA
     rw [hcs]
     exact congrArg some (nums_gi (List.getElem?_eq_getElem hpl)).symm
    have hinb2 : A.inb kk (A.int m) := by subst hA; exact ⟨hko.1, by show kk < ((m : Nat) : Int); omega⟩
    have hh2 : A.has cs p 1 [.d (.sc (.int .i64 ak))] := by subst hA; rw [hcs]; exact nums_has hak
    cbv at hinb2 hh2
    simp only [is00, is10]
    cbv
    repeat first
     | (simp only [t2, e1, t3, t4, t5, ← hp, e2, t6, is00, is10, qq]; cbv)
     | refine an_Hi110 ?_
    obtain ⟨y, hy⟩ : ∃ y, y = o[kk.toNat]'(by omega) := ⟨_, rfl⟩
    have hyr : zs.getD kk.toNat [] = y.row := by rw [hy]; exact evrow hzo hko.1 hko.2
    have hyx : y ∈ o := by rw [hy]; exact List.getElem_mem _
    have hyd : o.getD kk.toNat default = y := by rw [hy, List.getD_eq_getElem?_getD, List.getElem?_eq_getElem (by omega)]; rfl
    have hda : ats.getD kk.toNat 0 = ak := by rw [List.getD_eq_getElem?_getD, ← hpv, hak]; rfl
    cases g1
    case true =>
     cbv
     repeat first
      | (simp only [t2, e1, t3, t4, t5, ← hp, e2, t6, is00, is10, qq]; cbv)
      | refine an_Hi110 ?_
     subst hA hX hW
     have hf : fitsR xs ks = false := by
      unfold fitsR fitsM
      rw [hl0, ho, hns, numsOf_X]
      simp only []
      rw [← hz, hrun, hdr, ranF, hda, ← hg1, ← ho1]
      rfl
     rw [hf]
     exact ret_keep [] rfl ⟨rfl, rfl, rfl⟩
    case false =>
     cbv
     repeat first
      | (simp only [t2, e1, t3, t4, t5, ← hp, e2, t6, is00, is10, qq]; cbv)
      | refine an_Hi110 ?_
     obtain ⟨i9, w6⟩ : ∃ t, A.bin .add .i64 i 1 = t := ⟨_, rfl⟩
     have hi9 : i9 = i + 1 := by rw [← w6]; subst hA; exact wrap_i64 (by unfold r64; omega)
     obtain ⟨cs9, hcs9⟩ : ∃ z, z = numsD (ats.set p (i + 1)) := ⟨_, rfl⟩
     have x1 : A.spl cs p [.d (.sc (.int .i64 i9))] = cs9 := by subst hA; rw [hcs9, hi9, hcs]; exact nums_spl hpl _
     have y1 : A.fits cs p 1 := by subst hA; show p + 1 ≤ cs.length; rw [hcs]; simp only [numsD, List.length_map]; omega
     have hsl : s.length = 49 := hs.is.len
     have etk : A.tk s 0 1 49 = s := by
      subst hA
      show (s.drop 0).take (1 * 49) = s
      rw [List.drop_zero, List.take_of_length_le (by omega)]
     have hfv : A.fitv s 0 1 49 := by subst hA; show 0 + 1 * 49 ≤ s.length; omega
     obtain ⟨ap9, hap⟩ : ∃ z, z = applyS s y.c := ⟨_, rfl⟩
     have eap : GFsS5.apply s ⟨A.gi (A.lift (A.cdrop (A.row zs kk) 2)) 0, A.gi (A.lift (A.cdrop (A.row zs kk) 2)) (A.pl 0 1), A.gi (A.lift (A.cdrop (A.row zs kk) 2)) (A.pl 0 2), A.gs (A.lift (A.cdrop (A.row zs kk) 2)) (A.pl 0 3), A.gs (A.lift (A.cdrop (A.row zs kk) 2)) (A.pl 0 4), A.gs (A.lift (A.cdrop (A.row zs kk) 2)) (A.pl 0 5), A.gs (A.lift (A.cdrop (A.row zs kk) 2)) (A.pl 0 6)⟩ = ap9 := by rw [hap]; subst hA hFsS5; simp only [A0, hyr]; rfl
     have hh3 : A.has (A.lift (A.cdrop (A.row zs kk) 2)) 0 7 [.d (.sc (.int .i64 (A.gi (A.lift (A.cdrop (A.row zs kk) 2)) 0))), .d (.sc (.int .i64 (A.gi (A.lift (A.cdrop (A.row zs kk) 2)) (A.pl 0 1)))), .d (.sc (.int .i64 (A.gi (A.lift (A.cdrop (A.row zs kk) 2)) (A.pl 0 2)))), .d (.sc (.string (A.gs (A.lift (A.cdrop (A.row zs kk) 2)) (A.pl 0 3)))), .d (.sc (.string (A.gs (A.lift (A.cdrop (A.row zs kk) 2)) (A.pl 0 4)))), .d (.sc (.string (A.gs (A.lift (A.cdrop (A.row zs kk) 2)) (A.pl 0 5)))), .d (.sc (.string (A.gs (A.lift (A.cdrop (A.row zs kk) 2)) (A.pl 0 6))))] := by subst hA; simp only [A0, hyr]; exact ⟨rfl, by show 0 + 7 ≤ 12; decide, rfl⟩
     have hinb3 : A.inb kk (A.len zs) := by subst hA; exact ⟨hko.1, by show kk < (zs.length : Int); omega⟩
     have e6 : GFsS5.isSt s := by subst hFsS5; exact hs.is
     have hi62 : i ≤ 4611686018427387904 := by omega
     have hs9 := hs.app i0 hi62 y.c
     have hpr9 := hs.rep i0 hi62 y.c
     have hyp : isP y.r.pairs := (hok.ev y hyx).2.2.2.2.2.2
     rw [← hap] at hs9
     obtain ⟨s9, w9, fd9, vl9, vr9, pr9⟩ := ap9
     have h9l : s9.length = 49 := hs9.is.len
     have hp9 : isP pr9 := by have := hpr9; rw [← hap] at this; exact this
     have espl : A.spl s 0 s9 = s9 := by
      subst hA
      show splice s 0 s9 = s9
      simp [splice, hsl, h9l]
     have hful : A.full s9 49 1 := by subst hA; show s9.length = 49 * 1; omega
     have hfs : A.fits s 0 49 := by subst hA; show 0 + 49 ≤ s.length; omega
     obtain ⟨yb, hyb⟩ : ∃ z, z = y.b := ⟨_, rfl⟩
     have e1c : A.gi (A.lift (A.cdrop (A.row zs kk) 1)) 0 = yb := by rw [hyb]; subst hA; simp only [A0, hyr]; rfl
     have hh2b : A.has (A.lift (A.cdrop (A.row zs kk) 1)) 0 1 [.d (.sc (.int .i64 yb))] := by rw [hyb]; subst hA; simp only [A0, hyr]; exact ⟨rfl, by show 0 + 1 ≤ 13; decide, rfl⟩
     obtain ⟨tb, t10⟩ : ∃ t, A.cmp .geq yb 0 = t := ⟨_, rfl⟩
     have htb : tb = decide (0 ≤ y.b) := by rw [← t10, hyb]; subst hA; rfl
     obtain ⟨hb9, hhb⟩ : ∃ z, z = repliesX ⟨w9, fd9, vl9, vr9, pr9⟩ y.r := ⟨_, rfl⟩
     have ehs : GFsHa.hsame ⟨w9, fd9, vl9, vr9, pr9⟩ ⟨A.gi (A.lift (A.cdrop (A.row zs kk) 9)) 0, A.gb (A.lift (A.cdrop (A.row zs kk) 9)) (A.pl 0 1), A.gs (A.lift (A.cdrop (A.row zs kk) 9)) (A.pl 0 2), A.gi (A.lift (A.cdrop (A.row zs kk) 9)) (A.pl 0 3), A.gl (A.lift (A.cdrop (A.row zs kk) 9)) (A.pl 0 4)⟩ = hb9 := by rw [hhb]; subst hA hFsHa; simp only [A0, hyr]; rfl
     have hh4 : A.has (A.lift (A.cdrop (A.row zs kk) 9)) 0 5 [.d (.sc (.int .i64 (A.gi (A.lift (A.cdrop (A.row zs kk) 9)) 0))), .d (.sc (.bool (A.gb (A.lift (A.cdrop (A.row zs kk) 9)) (A.pl 0 1)))), .d (.sc (.string (A.gs (A.lift (A.cdrop (A.row zs kk) 9)) (A.pl 0 2)))), .d (.sc (.int .i64 (A.gi (A.lift (A.cdrop (A.row zs kk) 9)) (A.pl 0 3)))), .d (.slc 3 (A.gl (A.lift (A.cdrop (A.row zs kk) 9)) (A.pl 0 4)))] := by subst hA; simp only [A0, hyr]; exact ⟨rfl, by show 0 + 5 ≤ 5; decide, rfl⟩
     have hp1 : GFsHa.isP pr9 := by subst hFsHa; exact hp9
     have hp2 : GFsHa.isP (A.gl (A.lift (A.cdrop (A.row zs kk) 9)) (A.pl 0 4)) := by
      subst hA hFsHa
      simp only [A0, hyr]
      exact hyp
     cbv at w6 x1 y1 etk hfv eap hh3 hinb3 e6 espl hful hfs e1c hh2b t10 ehs hh4 hp1 hp2
     simp only [w6, x1]
     cbv
     repeat first
      | (simp only [w6, x1, etk, eap, espl, e1c, t10, ehs, is00, is10, qq]; cbv)
      | refine an_Hi110 ?_
     ((with_reducible refine regionU (id := 13) [] [] [0, 50, 50, 50, 50, 50, 50, 50, 50, 50, 50, 50] (T := fun _ => tabY [31, 44, 52, 57, 58, 65, 66, 73, 74, 85, 93, 102, 106, 117, 121, 1008, 1054, 1061] []) (H := fun _ => [kn_hops GFsHp, kn_apply GFsS5, kn_hsame GFsHa, kn_ahead GFsHo]) (B := fun _ => []) (R := fun _ => []) (A := A) (tabY_ok _ _) hH noB_ok noR_ok follows_mixed hA hX (by kernel_rfl) (by kernel_rfl) (by kernel_rfl) (by kernel_rfl) (by kernel_rfl) ?_) <;> cbv)
     repeat first
      | (simp only [w6, x1, etk, eap, espl, e1c, t10, ehs, is00, is10, qq]; cbv)
      | refine an_Hi110 ?_
     have hst : ranF o ns 0 (List.replicate o.length 0) z = bif (tb && !hb9) then none else ranF o (ns.drop (i + 1).toNat) (i + 1) (ats.set p (i + 1)) s9 := by
      rw [hrun, hdr, ranF, hda, ← hg1, ← ho1, hyd, ← htb, ← hap, ← hhb, hpv]
      rfl
     cases tb <;> cases hb9
     case true.false =>
      cbv
      repeat first
       | (simp only [w6, x1, etk, eap, espl, e1c, t10, ehs, is00, is10, qq]; cbv)
       | refine an_Hi110 ?_
      subst hA hX hW
      have hf : fitsR xs ks = false := by
       unfold fitsR fitsM
       rw [hl0, ho, hns, numsOf_X]
       simp only []
       rw [← hz, hst]
       rfl
      rw [hf]
      exact ret_keep [] rfl ⟨rfl, rfl, rfl⟩
     all_goals
      cbv
      repeat first
       | (simp only [w6, x1, etk, eap, espl, e1c, t10, ehs, is00, is10, qq]; cbv)
       | refine an_Hi110 ?_
      subst hA hR
      have wk : IntKind.wrap .i64 (i + 1) = i + 1 := wrap_i64 (by unfold r64; omega)
      refine ⟨(i + 1, cs9, s9), ⟨⟨by show 0 ≤ i + 1; omega, by show i + 1 ≤ r; omega⟩, _, hcs9, by rw [List.length_set]; exact has, hs9, hst⟩, by show r.toNat - (i + 1).toNat < r.toNat - i.toNat; omega, told_keep [0, 1] rfl ?_ ?_⟩
      ·simp [keepSt, pullBox, pullL, pullD, pullL_closed _ _ hs9.is.closed, hcs9, nums_pull]
      ·simp [toldP, getS, A0, wk, hi9, pullD, List.idxOf?, List.findIdx?_cons]
  ·have t2 : A.cmp .lss i r = false := by subst hA; exact decide_eq_false hlt
   have hres : ranF o ns 0 (List.replicate o.length 0) z = some ats := by
    replace hr : r = (ns.length : Int) := hr
    rw [hrun, List.drop_eq_nil_of_le (by omega)]
    rfl
   have hf : fitsR xs ks = chkF o ats o 0 := by
    unfold fitsR fitsM
    rw [hl0, ho, hns, numsOf_X]
    simp only []
    rw [← hz, hres]
   cbv at t2
   cbv
   repeat first
    | (simp only [t2, qq]; cbv)
    | refine an_Hi110 ?_
   refine loopL (T := fun _ => tabY [31, 44, 52, 57, 58, 65, 66, 73, 74, 85, 93, 102, 106, 117, 121, 1008, 1054, 1061] [13]) (H := fun _ => [kn_hops GFsHp, kn_apply GFsS5, kn_hsame GFsHa, kn_ahead GFsHo]) (tabY_ok _ _) hH follows_mixed hA hX (fun k : Int => (0 ≤ k ∧ k ≤ m) ∧ chkF o ats o 0 = chkF o ats (o.drop k.toNat) k) (fun k => [(5, .d (.slc 14 zs)), (7, .view 1 0 0 0 m), (80, .d (.slc 14 zs)), (81, .d (.sc (.int .i64 m))), (82, .d (.sc (.int .i64 k)))]) (fun _ => [⟨3, cs, false, 0, true⟩, ⟨32, s, false, 0, true⟩]) (fun k => m - k.toNat) 0 ?_ ?_ ?_
   ·exact ⟨⟨Int.le_refl 0, by omega⟩, rfl⟩
   ·subst hA
    exact told_less (by simp [toldP, getS, A0, hzl, hm])
   rintro R2 k hR2 ⟨⟨k0, k1⟩, hck⟩
   by_cases hkl : k < m
   ·have t5 : A.cmp .lss k m = true := by subst hA; exact decide_eq_true hkl
    have hko : k < (o.length : Int) := by omega
    obtain ⟨y, hy⟩ : ∃ y, y = o[k.toNat]'(by omega) := ⟨_, rfl⟩
    have hyr : zs.getD k.toNat [] = y.row := by rw [hy]; exact evrow hzo k0 hko
    have hdr : o.drop k.toNat = y :: o.drop (k + 1).toNat := by rw [hy, show (k + 1).toNat = k.toNat + 1 by omega]; exact List.drop_eq_getElem_cons (by omega)
    have hnk : A.nn k := by subst hA; exact k0
    have hinb : A.inb k (A.len zs) := by subst hA; exact ⟨k0, by show k < (zs.length : Int); omega⟩
    have hhas : A.has (A.lift (A.row zs k)) 0 14 [.d (.sc (.int .i64 (A.gi (A.lift (A.row zs k)) 0))), .d (.sc (.int .i64 (A.gi (A.lift (A.row zs k)) (A.pl 0 1)))), .d (.sc (.int .i64 (A.gi (A.lift (A.row zs k)) (A.pl 0 2)))), .d (.sc (.int .i64 (A.gi (A.lift (A.row zs k)) (A.pl 0 3)))), .d (.sc (.int .i64 (A.gi (A.lift (A.row zs k)) (A.pl 0 4)))), .d (.sc (.string (A.gs (A.lift (A.row zs k)) (A.pl 0 5)))), .d (.sc (.string (A.gs (A.lift (A.row zs k)) (A.pl 0 6)))), .d (.sc (.string (A.gs (A.lift (A.row zs k)) (A.pl 0 7)))), .d (.sc (.string (A.gs (A.lift (A.row zs k)) (A.pl 0 8)))), .d (.sc (.int .i64 (A.gi (A.lift (A.row zs k)) (A.pl 0 9)))), .d (.sc (.bool (A.gb (A.lift (A.row zs k)) (A.pl 0 10)))), .d (.sc (.string (A.gs (A.lift (A.row zs k)) (A.pl 0 11)))), .d (.sc (.int .i64 (A.gi (A.lift (A.row zs k)) (A.pl 0 12)))), .d (.slc 3 (A.gl (A.lift (A.row zs k)) (A.pl 0 13)))] := by subst hA; simp only [A0, hyr]; exact ⟨rfl, Nat.le_refl _, rfl⟩
    obtain ⟨yb, hyb⟩ : ∃ z, z = y.b := ⟨_, rfl⟩
    have e1 : A.gi (A.lift (A.row zs k)) (A.pl 0 1) = yb := by rw [hyb]; subst hA; simp only [A0, hyr]; rfl
    obtain ⟨tb, t6⟩ : ∃ t, A.cmp .geq yb 0 = t := ⟨_, rfl⟩
    have htb : tb = decide (0 ≤ y.b) := by rw [← t6, hyb]; subst hA; rfl
    obtain ⟨p, hp⟩ : ∃ z : Nat, z = A.off 0 k 1 := ⟨_, rfl⟩
    have hpv : p = k.toNat := by rw [hp]; subst hA; show 0 + k.toNat * 1 = _; omega
    have hpl : p < ats.length := by rw [has, hpv]; omega
    obtain ⟨ak, e2⟩ : ∃ t, A.gi cs p = t := ⟨_, rfl⟩
    have hak : ats[p]? = some ak := by
     rw [← e2, List.getElem?_eq_getElem hpl]
     subst hA
     rw [hcs]
     exact congrArg some (nums_gi (List.getElem?_eq_getElem hpl)).symm
    have hda : ats.getD k.toNat 0 = ak := by rw [List.getD_eq_getElem?_getD, ← hpv, hak]; rfl
    have hinb2 : A.inb k (A.int m) := by subst hA; exact ⟨k0, by show k < ((m : Nat) : Int); omega⟩
    have hh2 : A.has cs p 1 [.d (.sc (.int .i64 ak))] := by subst hA; rw [hcs]; exact nums_has hak
    obtain ⟨z1, t7⟩ : ∃ t, A.cmp .eql ak 0 = t := ⟨_, rfl⟩
    have hz1 : z1 = decide (ak = 0) := by rw [← t7]; subst hA; rfl
    obtain ⟨ga, t8⟩ : ∃ t, A.cmp .gtr ak 0 = t := ⟨_, rfl⟩
    have hga : ga = decide (ak > 0) := by rw [← t8]; subst hA; rfl
    have is00 : A.is false false = true := by subst hA; rfl
    have is11 : A.is true true = true := by subst hA; rfl
    have is10 : A.is true false = false := by subst hA; rfl
    have is01 : A.is false true = false := by subst hA; rfl
    rw [hdr, chkF, hda, ← htb, ← hz1] at hck
    cbv at t5 hnk hinb hhas e1 t6 hp e2 hinb2 hh2 t7 t8 is00 is11 is10 is01
    simp only [e1] at hhas
    cbv
    repeat first
     | (simp only [t5, e1, t6, ← hp, e2, t7, t8, is00, is11, is10, is01, qq]; cbv)
     | refine an_Hi110 ?_
    cases tb <;> cases z1
    case true.true =>
     try simp only [is00, is11, is10, is01]
     cbv
     repeat first
      | (simp only [t5, e1, t6, ← hp, e2, t7, t8, is00, is11, is10, is01, qq]; cbv)
      | refine an_Hi110 ?_
     subst hA hX hW
     rw [hf, hck]
     exact ret_keep [] rfl ⟨rfl, rfl, rfl⟩
    all_goals
     replace hck : chkF o ats o 0 = (chk1 o ats ak y o 0 && chkF o ats (o.drop (k + 1).toNat) (k + 1)) := hck
     try simp only [is00, is11, is10, is01]
     cbv
     repeat first
      | (simp only [t5, e1, t6, ← hp, e2, t7, t8, is00, is11, is10, is01, qq]; cbv)
      | refine an_Hi110 ?_
     refine loopL (T := fun _ => tabY [31, 44, 52, 57, 58, 65, 66, 73, 74, 85, 93, 102, 106, 117, 121, 1008, 1054, 1061] [13]) (H := fun _ => [kn_hops GFsHp, kn_apply GFsS5, kn_hsame GFsHa, kn_ahead GFsHo]) (tabY_ok _ _) hH follows_mixed hA hX (fun j : Int => (0 ≤ j ∧ j ≤ m) ∧ chk1 o ats ak y o 0 = chk1 o ats ak y (o.drop j.toNat) j) (fun j => [(5, .d (.slc 14 zs)), (7, .view 1 0 0 0 m), (80, .d (.slc 14 zs)), (81, .d (.sc (.int .i64 m))), (82, .d (.sc (.int .i64 k))), (12, .d (.sc (.int .i64 k))), (13, .ref 2 0 0), (97, .d (.slc 14 zs)), (98, .d (.sc (.int .i64 m))), (99, .d (.sc (.int .i64 j)))]) (fun _ => [⟨3, cs, false, 0, true⟩, ⟨32, s, false, 0, true⟩, ⟨67, y.cells, false, 0, true⟩]) (fun j => m - j.toNat) 0 ?_ ?_ ?_
     ·exact ⟨⟨Int.le_refl 0, by omega⟩, rfl⟩
     ·subst hA
      refine told_eqM ?_ ?_
      ·simp only [A0, hyr, hyb]
       rfl
      ·simp [toldP, getS, A0, hzl, hm]
     rintro R3 j hR3 ⟨⟨j0, j1⟩, hcj⟩
     by_cases hjl : j < m
     ·have t15 : A.cmp .lss j m = true := by subst hA; exact decide_eq_true hjl
      have hjo : j < (o.length : Int) := by omega
      obtain ⟨x, hx⟩ : ∃ x, x = o[j.toNat]'(by omega) := ⟨_, rfl⟩
      have hxr : zs.getD j.toNat [] = x.row := by rw [hx]; exact evrow hzo j0 hjo
      have hdj : o.drop j.toNat = x :: o.drop (j + 1).toNat := by rw [hx, show (j + 1).toNat = j.toNat + 1 by omega]; exact List.drop_eq_getElem_cons (by omega)
      have hnj : A.nn j := by subst hA; exact j0
      have hinj : A.inb j (A.len zs) := by subst hA; exact ⟨j0, by show j < (zs.length : Int); omega⟩
      have hhj : A.has (A.lift (A.row zs j)) 0 14 [.d (.sc (.int .i64 (A.gi (A.lift (A.row zs j)) 0))), .d (.sc (.int .i64 (A.gi (A.lift (A.row zs j)) (A.pl 0 1)))), .d (.sc (.int .i64 (A.gi (A.lift (A.row zs j)) (A.pl 0 2)))), .d (.sc (.int .i64 (A.gi (A.lift (A.row zs j)) (A.pl 0 3)))), .d (.sc (.int .i64 (A.gi (A.lift (A.row zs j)) (A.pl 0 4)))), .d (.sc (.string (A.gs (A.lift (A.row zs j)) (A.pl 0 5)))), .d (.sc (.string (A.gs (A.lift (A.row zs j)) (A.pl 0 6)))), .d (.sc (.string (A.gs (A.lift (A.row zs j)) (A.pl 0 7)))), .d (.sc (.string (A.gs (A.lift (A.row zs j)) (A.pl 0 8)))), .d (.sc (.int .i64 (A.gi (A.lift (A.row zs j)) (A.pl 0 9)))), .d (.sc (.bool (A.gb (A.lift (A.row zs j)) (A.pl 0 10)))), .d (.sc (.string (A.gs (A.lift (A.row zs j)) (A.pl 0 11)))), .d (.sc (.int .i64 (A.gi (A.lift (A.row zs j)) (A.pl 0 12)))), .d (.slc 3 (A.gl (A.lift (A.row zs j)) (A.pl 0 13)))] := by subst hA; simp only [A0, hxr]; exact ⟨rfl, Nat.le_refl _, rfl⟩
      obtain ⟨q, hq⟩ : ∃ z : Nat, z = A.off 0 j 1 := ⟨_, rfl⟩
      have hqv : q = j.toNat := by rw [hq]; subst hA; show 0 + j.toNat * 1 = _; omega
      have hql : q < ats.length := by rw [has, hqv]; omega
      obtain ⟨am, e12⟩ : ∃ t, A.gi cs q = t := ⟨_, rfl⟩
      have ham : ats[q]? = some am := by
       rw [← e12, List.getElem?_eq_getElem hql]
       subst hA
       rw [hcs]
       exact congrArg some (nums_gi (List.getElem?_eq_getElem hql)).symm
      have hdm : ats.getD j.toNat 0 = am := by rw [List.getD_eq_getElem?_getD, ← hqv, ham]; rfl
      have hinb3 : A.inb j (A.int m) := by subst hA; exact ⟨j0, by show j < ((m : Nat) : Int); omega⟩
      have hh3 : A.has cs q 1 [.d (.sc (.int .i64 am))] := by subst hA; rw [hcs]; exact nums_has ham
      obtain ⟨gm, t16⟩ : ∃ t, A.cmp .gtr am ak = t := ⟨_, rfl⟩
      have hgm : gm = decide (am > ak) := by rw [← t16]; subst hA; rfl
      obtain ⟨ah, hah⟩ : ∃ t, t = aheadE y x := ⟨_, rfl⟩
      have eah : GFsHo.ahead y.cells [.d (.sc (.int .i64 (A.gi (A.lift (A.row zs j)) 0))), .d (.sc (.int .i64 (A.gi (A.lift (A.row zs j)) (A.pl 0 1)))), .d (.sc (.int .i64 (A.gi (A.lift (A.row zs j)) (A.pl 0 2)))), .d (.sc (.int .i64 (A.gi (A.lift (A.row zs j)) (A.pl 0 3)))), .d (.sc (.int .i64 (A.gi (A.lift (A.row zs j)) (A.pl 0 4)))), .d (.sc (.string (A.gs (A.lift (A.row zs j)) (A.pl 0 5)))), .d (.sc (.string (A.gs (A.lift (A.row zs j)) (A.pl 0 6)))), .d (.sc (.string (A.gs (A.lift (A.row zs j)) (A.pl 0 7)))), .d (.sc (.string (A.gs (A.lift (A.row zs j)) (A.pl 0 8)))), .d (.sc (.int .i64 (A.gi (A.lift (A.row zs j)) (A.pl 0 9)))), .d (.sc (.bool (A.gb (A.lift (A.row zs j)) (A.pl 0 10)))), .d (.sc (.string (A.gs (A.lift (A.row zs j)) (A.pl 0 11)))), .d (.sc (.int .i64 (A.gi (A.lift (A.row zs j)) (A.pl 0 12)))), .d (.slc 3 (A.gl (A.lift (A.row zs j)) (A.pl 0 13)))] = ah := by rw [hah, ← aheadC_E]; subst hA hFsHo; simp only [A0, hxr]; rfl
      have ho1 : GFsHo.isOp y.cells := by subst hFsHo; exact ⟨y, rfl⟩
      have ho2 : GFsHo.isOp [.d (.sc (.int .i64 (A.gi (A.lift (A.row zs j)) 0))), .d (.sc (.int .i64 (A.gi (A.lift (A.row zs j)) (A.pl 0 1)))), .d (.sc (.int .i64 (A.gi (A.lift (A.row zs j)) (A.pl 0 2)))), .d (.sc (.int .i64 (A.gi (A.lift (A.row zs j)) (A.pl 0 3)))), .d (.sc (.int .i64 (A.gi (A.lift (A.row zs j)) (A.pl 0 4)))), .d (.sc (.string (A.gs (A.lift (A.row zs j)) (A.pl 0 5)))), .d (.sc (.string (A.gs (A.lift (A.row zs j)) (A.pl 0 6)))), .d (.sc (.string (A.gs (A.lift (A.row zs j)) (A.pl 0 7)))), .d (.sc (.string (A.gs (A.lift (A.row zs j)) (A.pl 0 8)))), .d (.sc (.int .i64 (A.gi (A.lift (A.row zs j)) (A.pl 0 9)))), .d (.sc (.bool (A.gb (A.lift (A.row zs j)) (A.pl 0 10)))), .d (.sc (.string (A.gs (A.lift (A.row zs j)) (A.pl 0 11)))), .d (.sc (.int .i64 (A.gi (A.lift (A.row zs j)) (A.pl 0 12)))), .d (.slc 3 (A.gl (A.lift (A.row zs j)) (A.pl 0 13)))] := by subst hA hFsHo; exact ⟨x, by simp only [A0, hxr]; rfl⟩
      have hclb : clB ak y x am = (ga && (ah && gm)) := by
       unfold clB
       rw [← hga, ← hgm, hah]
       unfold aheadE
       cases decide (0 ≤ x.b) <;> rfl
      rw [hdj, chk1, hdm, hclb] at hcj
      cbv at t15 hnj hinj hhj hq e12 hinb3 hh3 t16 eah ho1 ho2
      cbv
      repeat first
       | (simp only [t15, ← hp, e2, t8, ← hq, e12, t16, eah, is00, is11, is10, is01, qq]; cbv)
       | refine an_Hi110 ?_
      obtain ⟨fin, t17⟩ : ∃ t, A.cond (A.cond ga ah false) gm false = t := ⟨_, rfl⟩
      have hfin : (ga && (ah && gm)) = fin := by rw [← t17]; subst hA; cases ga <;> cases ah <;> rfl
      rw [hfin] at hcj
      cbv at t17
      simp only [t17]
      cases fin
      case true =>
       cbv
       repeat first
        | (simp only [qq]; cbv)
        | refine an_Hi110 ?_
       subst hA hX hW
       rw [hf, hck, hcj]
       exact ret_keep [] rfl ⟨rfl, rfl, rfl⟩
      case false =>
       cbv
       repeat first
        | (simp only [qq]; cbv)
        | refine an_Hi110 ?_
       subst hA hR3
       have wk : IntKind.wrap .i64 (j + 1) = j + 1 := wrap_i64 (by unfold r64; omega)
       refine ⟨j + 1, ⟨⟨by show 0 ≤ j + 1; omega, by show j + 1 ≤ m; omega⟩, hcj⟩, by show m - (j + 1).toNat < m - j.toNat; omega, told_keep [0, 1, 2] rfl ?_ ?_⟩
       ·simp [keepSt, pullBox, pullL, pullD, pullL_closed _ _ hs.is.closed, hcs, nums_pull, Ev.cells]
       ·simp [toldP, getS, A0, wk, pullD, List.idxOf?, List.findIdx?_cons]
     ·have t15 : A.cmp .lss j m = false := by subst hA; exact decide_eq_false hjl
      have hdj : o.drop j.toNat = [] := List.drop_eq_nil_of_le (by omega)
      rw [hdj] at hcj
      replace hcj : chk1 o ats ak y o 0 = true := hcj
      rw [hcj, Bool.true_and] at hck
      cbv at t15
      cbv
      repeat first
       | (simp only [t15, qq]; cbv)
       | refine an_Hi110 ?_
      subst hA hR2
      have wk : IntKind.wrap .i64 (k + 1) = k + 1 := wrap_i64 (by unfold r64; omega)
      refine ⟨k + 1, ⟨⟨by show 0 ≤ k + 1; omega, by show k + 1 ≤ m; omega⟩, hck⟩, by show m - (k + 1).toNat < m - k.toNat; omega, told_keep [0, 1] rfl ?_ ?_⟩
      ·simp [keepSt, pullBox, pullL, pullD, pullL_closed _ _ hs.is.closed, hcs, nums_pull]
      ·simp [toldP, getS, A0, wk, pullD, List.idxOf?, List.findIdx?_cons]
   ·have t5 : A.cmp .lss k m = false := by subst hA; exact decide_eq_false hkl
    have hdr : o.drop k.toNat = [] := List.drop_eq_nil_of_le (by omega)
    rw [hdr] at hck
    cbv at t5
    cbv
    repeat first
     | (simp only [t5, qq]; cbv)
     | refine an_Hi110 ?_
    subst hA hX hW
    rw [hf, hck]
    exact ret_keep [] rfl ⟨rfl, rfl, rfl⟩
structure FsHf where
 fits : List (List PD) → List (List PD) → Bool
 isEv : List (List PD) → Prop
 isNums : List (List PD) → Prop
noncomputable def FsHf0 : FsHf where
 fits := fitsR
 isEv := isEv
 isNums := isNums
def kn_fits (F : FsHf) : FuncId × (List DV → RV) := (24, fun args => match args with
 | [.d (.slc 14 xs), .d (.slc 1 ks)] => some ([F.isEv xs, F.isNums ks], boolD ((F.fits xs ks)))
 | [.d (.sc (.slice none 0 0)), .d (.slc 1 ks)] => some ([F.isEv [], F.isNums ks], boolD ((F.fits [] ks)))
 | [.d (.slc 14 xs), .d (.sc (.slice none 0 0))] => some ([F.isEv xs, F.isNums []], boolD ((F.fits xs [])))
 | [.d (.sc (.slice none 0 0)), .d (.sc (.slice none 0 0))] => some ([F.isEv [], F.isNums []], boolD ((F.fits [] [])))
 | _ => none)
theorem ok_fits (args : List DV) (cs : List Prop) (r : DV) (h : (kn_fits FsHf0).2 args = some (cs, r)) (hc : allP cs True) : FnV Try.prog 24 args r ∧ closedL 0 args = true := by
 unfold kn_fits at h
 simp only at h
 split at h
 ·cases h; exact ⟨v_fits _ _ hc.1 hc.2.1, rfl⟩
 ·cases h; exact ⟨FnP.nils (v_fits [] _ hc.1 hc.2.1) ⟨.inr ⟨rfl, _, rfl⟩, ⟨.inl rfl, trivial⟩⟩, rfl⟩
 ·cases h; exact ⟨FnP.nils (v_fits _ [] hc.1 hc.2.1) ⟨.inl rfl, ⟨.inr ⟨rfl, _, rfl⟩, trivial⟩⟩, rfl⟩
 ·cases h; exact ⟨FnP.nils (v_fits [] [] hc.1 hc.2.1) ⟨.inr ⟨rfl, _, rfl⟩, ⟨.inr ⟨rfl, _, rfl⟩, trivial⟩⟩, rfl⟩
 ·cases h
end Go.Proofs.Ytadnpgkddgbhkaa
