/- Histories that are made: made, walked. No condition. -/
import Derived.Test.YtadnpgkddgbhkaaZX28
import Derived.Test.YtadnpgkddgbhkaaZX31
import Derived.Test.YtadnpgkddgbhkaaZX22
import Derived.Test.YtadnpgkddgbhkaaZX17
import Derived.Test.YtadnpgkddgbhkaaZX18
namespace Go.Proofs.Ytadnpgkddgbhkaa
open Go.RowKit Go.Maps
set_option linter.all false
set_option maxHeartbeats 8000000
theorem stepPl {P : Program} {N : Nat} {c : Code} {Q : Exit → SL → Store → Prop} {s : SL} {st : Store} {X : Cps} (hX : X = X0 P N) (S2 : SL) (ST2 : Store)
  (h : ∀ R : Exit → SL → Store → Prop, (∀ s' st', Told st.length s' st' S2 ST2 → R .normal s' st') → X.st c R s st) (h2 : Q .normal S2 ST2) : X.st c Q s st := by
 subst hX
 show wpD P N c (lessQ Q) (getS s) st
 have h1 : wpD P N c (lessQ fun e s' st' => match e with | .normal => Told st.length s' st' S2 ST2 | _ => False) (getS s) st := h (fun e s' st' => match e with | .normal => Told st.length s' st' S2 ST2 | _ => False) (fun s' st' ht => ht)
 refine wpD_after (wpD_mono h1 ?_)
 rintro e s' st' ⟨l, hl, hq⟩
 cases e <;> first
  | exact ⟨getS S2, ST2, Tells.trans (Tells.any _ _ _ _ hl) hq, S2, fun _ => .inl rfl, h2⟩
  | exact hq.elim
theorem fzL_nums (b v sz : Nat) (xs : List (List PD)) : ∀ l : List Int, fzL b v sz xs (numsD l) = numsD l
 | [] => rfl
 | a :: l => by show fzD b v sz xs (.d _) :: fzL b v sz xs (numsD l) = _; rw [fzL_nums b v sz xs l]; rfl
theorem numsD_rows (l : List Int) : numsD l = rowsD (numsX l) := by
 induction l with
 | nil => rfl
 | cons a l ih => show _ :: numsD l = _; rw [ih]; rfl
theorem numsX_sz (l : List Int) : ∀ x ∈ numsX l, x.length = 1 := by
 intro x hx
 simp only [numsX, List.mem_map] at hx
 obtain ⟨_, _, rfl⟩ := hx
 rfl
structure MX where
 i : Int
 n : Int
 co : List DV
 cq : List DV
 cc : List DV
 ct : List DV
 s : List DV
 dc : List DV
 dr : List DV
 no : Nat
 nr : Nat
 vo : Nat
 vr : Nat
def MXI (l : List MOp) (x : MX) : Prop := (0 ≤ x.i ∧ x.i ≤ l.length) ∧ ∃ st : MSt, x.n = st.n ∧ x.co = numsD st.opn ∧ x.cq = numsD st.seq ∧ x.cc = flatC cmdC st.cmds ∧ x.ct = flatC repC5 st.told ∧ x.s = st.s ∧ x.dc = evsC st.out ∧ x.dr = numsD st.ord ∧ x.no = st.out.length ∧ x.nr = st.ord.length ∧ MB x.i st ∧ (∀ k, st.opn.getD k 0 < 0 → st.ord ≠ []) ∧ (st.ord ≠ [] → st.out ≠ []) ∧ madeF l mZero = madeF (l.drop x.i.toNat) st
def CTn : List DV := (List.replicate 8 [.d (.sc (.int .i64 0)), .d (.sc (.bool false)), .d (.sc (.string none8)), .d (.sc (.int .i64 0)), .d (.sc (.slice none 0 0))]).flatten
theorem upCTn : upCs CTn = flatC repC5 (List.replicate 8 zeroRep) := rfl
theorem madeR_of {xs : List (List PD)} {l : List MOp} (h : xs = mopsX l) : madeR xs = (evsX (madeF l mZero).out, numsX (madeF l mZero).ord) := by
 unfold madeR madeM
 rw [h, mopsOf_X]
theorem MXI.next {l : List MOp} {i : Int} {st : MSt} {y : MOp} (h0 : 0 ≤ i) (h1 : i < l.length) (hl : l.length ≤ 1048575) (hdr : l.drop i.toNat = y :: l.drop (i + 1).toNat) (hmb : MB i st) (hn : st.n < 12) (hng : ∀ k, st.opn.getD k 0 < 0 → st.ord ≠ []) (hoo : st.ord ≠ [] → st.out ≠ []) (hrun : madeF l mZero = madeF (l.drop i.toNat) st) {x : MX}
  (hx : x.i = i + 1 ∧ x.n = (mstep st y).n ∧ x.co = numsD (mstep st y).opn ∧ x.cq = numsD (mstep st y).seq ∧ x.cc = flatC cmdC (mstep st y).cmds ∧ x.ct = flatC repC5 (mstep st y).told ∧ x.s = (mstep st y).s ∧ x.dc = evsC (mstep st y).out ∧ x.dr = numsD (mstep st y).ord ∧ x.no = (mstep st y).out.length ∧ x.nr = (mstep st y).ord.length) : MXI l x := by
 obtain ⟨e1, e2, e3, e4, e5, e6, e7, e8, e9, e10, e11⟩ := hx
 have hk := mK_lt y
 refine ⟨by rw [e1]; omega, mstep st y, e2, e3, e4, e5, e6, e7, e8, e9, e10, e11, by rw [e1]; exact hmb.step (by omega) hn, ?_, ?_, ?_⟩
 ·unfold mstep
  cases hc1 : decide (st.opn.getD (mK y) 0 = 0)
  ·cases hc2 : decide (0 < st.opn.getD (mK y) 0)
   ·cases y.ret
    ·exact hng
    ·intro k hk2
     have e : (mRet st y).opn.getD k 0 = if k = mK y then 0 else st.opn.getD k 0 := getD_set' (by rw [hmb.lo]; exact hk)
     have hk3 : (mRet st y).opn.getD k 0 < 0 := hk2
     rw [e] at hk3
     split at hk3
     ·omega
     ·exact hng k hk3
   ·intro k hk2
    show st.ord ++ [_] ≠ []
    simp
  ·cases rightC (mCmd st y) && !decide (y.c.kind = 0)
   ·exact hng
   ·intro k hk2
    have e : (mCall st y).opn.getD k 0 = if k = mK y then st.n + 1 else st.opn.getD k 0 := getD_set' (by rw [hmb.lo]; exact hk)
    have hk3 : (mCall st y).opn.getD k 0 < 0 := hk2
    rw [e] at hk3
    have := hmb.n0
    split at hk3
    ·omega
    ·exact hng k hk3
 ·unfold mstep
  cases hc1 : decide (st.opn.getD (mK y) 0 = 0)
  ·cases hc2 : decide (0 < st.opn.getD (mK y) 0)
   ·cases y.ret
    ·exact hoo
    ·intro _
     show st.out ++ [_] ≠ []
     simp
   ·intro _
    show st.out ≠ []
    intro he
    have h3 := hmb.cnt
    rw [he] at h3
    have h4 := hmb.ob (mK y)
    have h5 := of_decide_eq_true hc2
    have h6 : (0 : Int) = st.n := h3
    omega
  ·cases rightC (mCmd st y) && !decide (y.c.kind = 0)
   ·exact hoo
   ·intro _
    show st.out ++ [_] ≠ []
    simp
 ·rw [hrun, hdr, madeF, decide_eq_true hn, e1]
  rfl
theorem an_Hm50 {p q : Prop} (hq : q) (hp : p := by subst hA hX hFsPq hFs5 hFsHz hFsSD; clear hH hB; first | exact trivial | exact rfl | assumption | (simp [A0]; done) | (intro q; simpa [A0] using q) | (intro _; trivial) | (show _ = true; kernel_rfl)) : p ∧ q := ⟨hp, hq⟩
set_option maxRecDepth 100000 in
theorem v_made (xs : List (List PD)) (hms : isMops xs) : FnV Try.prog 25 [.d (.slc 11 xs)] (.tup [.d (.slc 14 (madeR xs).1), .d (.slc 1 (madeR xs).2)]) := by
 obtain ⟨GFsPq, hFsPq⟩ : ∃ F, F = FsPq0 := ⟨_, rfl⟩
 obtain ⟨GFs5, hFs5⟩ : ∃ F, F = Fs50 := ⟨_, rfl⟩
 obtain ⟨GFsHz, hFsHz⟩ : ∃ F, F = FsHz0 := ⟨_, rfl⟩
 obtain ⟨GFsSD, hFsSD⟩ : ∃ F, F = FsSD0 := ⟨_, rfl⟩
 have hH : SoundK Try.prog [kn_within3 GFsPq, kn_cright GFs5, kn_lcallH GFsHz, kn_lbackH GFsHz, kn_applyR GFsSD] := by subst hFsPq hFs5 hFsHz hFsSD; exact orK_ok ok_within3 (orK_ok ok_cright (orK_ok ok_lcallH (orK_ok ok_lbackH (orK_ok ok_applyR noK_ok))))
 have hB : SoundB Try.prog [] := by subst hFsPq hFs5 hFsHz hFsSD; exact noB_ok
 refine FnD_cbv (T := fun _ => tabY [31, 32, 42, 43, 109, 117, 125, 37, 48, 62, 65, 68, 73, 81, 87, 95, 98, 104, 108, 112, 116, 124, 132, 139, 1010, 1015, 1085, 1090, 1093] [15, 23, 24, 30, 31]) (H := fun _ => [kn_within3 GFsPq, kn_cright GFs5, kn_lcallH GFsHz, kn_lbackH GFsHz, kn_applyR GFsSD]) (tabY_ok _ _) hH follows_mixed Try.func25 rfl Try.ntmps25 (by simp) fun A X W hA hX hW => ?_
 cbv
 have q000 : A.cond false false false = false := by subst hA; rfl
 have q001 : A.cond false false true = true := by subst hA; rfl
 have q010 : A.cond false true false = false := by subst hA; rfl
 have q011 : A.cond false true true = true := by subst hA; rfl
 have q100 : A.cond true false false = false := by subst hA; rfl
 have q101 : A.cond true false true = false := by subst hA; rfl
 have q110 : A.cond true true false = true := by subst hA; rfl
 have q111 : A.cond true true true = true := by subst hA; rfl
 have f3 : A.not true = false := by subst hA; rfl
 have f4 : A.not false = true := by subst hA; rfl
 cbv at f3 f4 q000 q001 q010 q011 q100 q101 q110 q111
 have qq := And.intro q000 (And.intro q001 (And.intro q010 (And.intro q011 (And.intro q100 (And.intro q101 (And.intro q110 (And.intro q111 (And.intro f3 f4))))))))
 obtain ⟨l, hxs, hl, hlr⟩ := hms
 have hxl : xs.length = l.length := by rw [hxs, mopsX_len]
 obtain ⟨r, hr⟩ : ∃ r : Int, r = l.length := ⟨_, rfl⟩
 repeat first
  | (simp only [qq]; cbv)
  | refine an_Hm50 ?_
 refine loopL (T := fun _ => tabY [31, 32, 42, 43, 109, 117, 125, 37, 48, 62, 65, 68, 73, 81, 87, 95, 98, 104, 108, 112, 116, 124, 132, 139, 1010, 1015, 1085, 1090, 1093] [15, 23, 24, 30, 31]) (H := fun _ => [kn_within3 GFsPq, kn_cright GFs5, kn_lcallH GFsHz, kn_lbackH GFsHz, kn_applyR GFsSD]) (tabY_ok _ _) hH follows_mixed hA hX (MXI l) (fun x => [(0, .d (.slc 11 xs)), (4, outV x.no 5 x.vo), (5, ordV x.nr 6 x.vr), (6, .ref 0 0 0), (7, .ref 1 0 0), (8, .ref 2 0 0), (9, .ref 3 0 0), (10, .ref 4 0 0), (11, .d (.sc (.int .i64 (x.n)))), (12, .d (.sc (.int .i64 (x.i))))]) (fun x => [⟨77, x.co, false, 0, true⟩, ⟨77, x.cq, false, 0, true⟩, ⟨91, x.cc, false, 0, true⟩, ⟨92, x.ct, false, 0, true⟩, ⟨32, x.s, false, 0, true⟩] ++ (outB2 x.no x.dc x.vo ++ ordB x.nr x.dr x.vr)) (fun x => r.toNat - x.i.toNat) ⟨0, 0, numsD (List.replicate 8 0), numsD (List.replicate 8 0), flatC cmdC (List.replicate 8 .zero), flatC repC5 (List.replicate 8 zeroRep), zSt, [], [], 0, 0, 0, 0⟩ ?_ ?_ ?_
 ·exact ⟨⟨Int.le_refl 0, by show (0 : Int) ≤ l.length; omega⟩, mZero, rfl, rfl, rfl, rfl, rfl, rfl, rfl, rfl, rfl, rfl, mZero_ok, fun k h => absurd h (by rw [show mZero.opn.getD k 0 = 0 from repl_getD 8 k 0]; decide), fun h => absurd rfl h, rfl⟩
 ·subst hA
  refine Told.trans (told_eqM (s' := [(0, .d (.slc 11 xs)), (4, outV 0 5 0), (5, ordV 0 6 0), (6, .ref 0 0 0), (7, .ref 1 0 0), (8, .ref 2 0 0), (9, .ref 3 0 0), (10, .ref 4 0 0), (11, .d (.sc (.int .i64 (0)))), (12, .d (.sc (.int .i64 (0))))]) (st' := [⟨77, numsD (List.replicate 8 0), false, 0, true⟩, ⟨77, numsD (List.replicate 8 0), false, 0, true⟩, ⟨91, flatC cmdC (List.replicate 8 .zero), false, 0, true⟩, ⟨92, CTn, false, 0, true⟩, ⟨32, Zn49, false, 0, true⟩]) rfl (by simp [toldP, getS, outV, ordV])) (told_upst (UpSt.cons (UpL.refl' _) (UpSt.cons (UpL.refl' _) (UpSt.cons (UpL.refl' _) (UpSt.cons (by rw [← upCTn]; exact upL_upCs CTn) (UpSt.cons (upL_upCs Zn49) rfl))))) ⟨.inl (UpD.refl _), .inl (UpD.refl _), .inl (UpD.refl _), .inl (UpD.refl _), .inl (UpD.refl _), .inl (UpD.refl _), .inl (UpD.refl _), .inl (UpD.refl _), .inl (UpD.refl _), .inl (UpD.refl _), trivial⟩)
 rintro R ⟨i, n, co, cq, cc, ct, s, dc, dr, no, nr, vo, vr⟩ hR ⟨⟨i0, i1⟩, st, hn, hco, hcq, hcc, hct, hs, hdc, hdr9, hno, hnr, hmb, hng, hoo, hrun⟩
 replace i0 : 0 ≤ i := i0
 replace i1 : i ≤ l.length := i1
 replace hn : n = st.n := hn
 replace hco : co = numsD st.opn := hco
 replace hcq : cq = numsD st.seq := hcq
 replace hcc : cc = flatC cmdC st.cmds := hcc
 replace hct : ct = flatC repC5 st.told := hct
 replace hs : s = st.s := hs
 replace hdc : dc = evsC st.out := hdc
 replace hdr9 : dr = numsD st.ord := hdr9
 replace hno : no = st.out.length := hno
 replace hnr : nr = st.ord.length := hnr
 replace hmb : MB i st := hmb
 replace hrun : madeF l mZero = madeF (l.drop i.toNat) st := hrun
 have hshape : (no = 0 ∧ nr = 0) ∨ (∃ m, no = m + 1 ∧ nr = 0) ∨ (∃ m q, no = m + 1 ∧ nr = q + 1) := by
  rcases no with _ | m
  ·rcases nr with _ | q
   ·exact .inl ⟨rfl, rfl⟩
   ·exact absurd (List.length_eq_zero_iff.1 hno.symm) (hoo (fun e => by rw [e] at hnr; cases hnr))
  ·rcases nr with _ | q
   ·exact .inr (.inl ⟨m, rfl, rfl⟩)
   ·exact .inr (.inr ⟨m, q, rfl, rfl⟩)
 by_cases hlt : i < r
 ·by_cases hn12 : n < 12
  ·have t2 : A.cmp .lss i (A.len xs) = true := by subst hA; exact decide_eq_true (by show i < (xs.length : Int); omega)
   have t3 : A.cmp .lss n 12 = true := by subst hA; exact decide_eq_true hn12
   cbv at t2 t3
   replace hr : r = (l.length : Int) := hr
   have hin : i.toNat < l.length := by omega
   obtain ⟨y, hy⟩ : ∃ z, z = l[i.toNat] := ⟨_, rfl⟩
   have hrow : xs.getD i.toNat [] = y.row := by rw [hy]; exact mrow hxs i0 (by omega)
   have hdr : l.drop i.toNat = y :: l.drop (i + 1).toNat := by rw [List.drop_eq_getElem_cons hin, hy, show (i + 1).toNat = i.toNat + 1 by omega]
   have hyr : r64 y.cl := by rw [hy]; exact hlr _ (List.getElem_mem _)
   have hk8 := mK_lt y
   have hsi : isSt s := by rw [hs]; obtain ⟨j9, _, _, h9⟩ := hmb.ok; exact h9.is
   obtain ⟨kI, hkI⟩ : ∃ z : Int, z = (mK y : Int) := ⟨_, rfl⟩
   obtain ⟨yc, hyc⟩ : ∃ z, z = y.cl := ⟨_, rfl⟩
   have ek : GFsPq.within3 yc 0 7 = kI := by
    rw [hkI, hyc]
    subst hFsPq
    show 0 + y.cl % (7 - 0 + 1) = ((y.cl % 8).toNat : Int)
    omega
   have k1 : GFsPq.r64 yc := by rw [hyc]; subst hFsPq; exact hyr
   have k2 : GFsPq.span3 0 7 := by subst hFsPq; show (0 : Int) ≤ 7 ∧ _ ∧ _; omega
   have e0 : A.gi (A.lift (A.cdrop (A.row xs i) 0)) 0 = yc := by rw [hyc]; subst hA; simp only [A0, hrow]; rfl
   have hh0 : A.has (A.lift (A.cdrop (A.row xs i) 0)) 0 1 [.d (.sc (.int .i64 yc))] := by rw [hyc]; subst hA; simp only [A0, hrow]; exact ⟨rfl, by show 0 + 1 ≤ 11; decide, rfl⟩
   have hinb : A.inb i (A.len xs) := by subst hA; exact ⟨i0, by show i < (xs.length : Int); omega⟩
   have hinb8 : A.inb kI (A.int 8) := by subst hA; exact ⟨by omega, by show kI < ((8 : Nat) : Int); omega⟩
   have is00 : A.is false false = true := by subst hA; rfl
   have is11 : A.is true true = true := by subst hA; rfl
   have is10 : A.is true false = false := by subst hA; rfl
   have is01 : A.is false true = false := by subst hA; rfl
   have hkb : 0 ≤ kI ∧ kI < 8 := by omega
   obtain ⟨p1, hp1⟩ : ∃ z : Nat, z = A.off 0 kI 1 := ⟨_, rfl⟩
   have hp1v : p1 = mK y := by rw [hp1, hkI]; subst hA; show 0 + ((mK y : Nat) : Int).toNat * 1 = _; omega
   obtain ⟨p5, hp5⟩ : ∃ z : Nat, z = A.off 0 kI 5 := ⟨_, rfl⟩
   have hp5v : p5 = mK y * 5 := by rw [hp5, hkI]; subst hA; show 0 + ((mK y : Nat) : Int).toNat * 5 = _; omega
   obtain ⟨p7, hp7⟩ : ∃ z : Nat, z = A.off 0 kI 7 := ⟨_, rfl⟩
   have hp7v : p7 = mK y * 7 := by rw [hp7, hkI]; subst hA; show 0 + ((mK y : Nat) : Int).toNat * 7 = _; omega
   obtain ⟨oK, hoK⟩ : ∃ z, z = st.opn.getD (mK y) 0 := ⟨_, rfl⟩
   have hoq : st.opn[p1]? = some oK := by
    have h8 : mK y < st.opn.length := by rw [hmb.lo]; exact hk8
    rw [hoK, hp1v, List.getD_eq_getElem?_getD, List.getElem?_eq_getElem h8]
    rfl
   have e1 : A.gi co p1 = oK := by subst hA; rw [hco]; exact nums_gi hoq
   have hh1 : A.has co p1 1 [.d (.sc (.int .i64 oK))] := by subst hA; rw [hco]; exact nums_has hoq
   obtain ⟨b1, t4⟩ : ∃ t, A.cmp .eql oK 0 = t := ⟨_, rfl⟩
   have hb1 : b1 = decide (oK = 0) := by rw [← t4]; subst hA; rfl
   obtain ⟨b2, t5⟩ : ∃ t, A.cmp .gtr oK 0 = t := ⟨_, rfl⟩
   have hb2 : b2 = decide (0 < oK) := by rw [← t5]; subst hA; rfl
   cbv at ek k1 k2 e0 hh0 hinb hinb8 hp1 hp5 hp7 e1 hh1 t4 t5 is00 is11 is10 is01
   rcases hshape with ⟨rfl, rfl⟩ | ⟨m, rfl, rfl⟩ | ⟨m, q, rfl, rfl⟩
   ·cbv
    repeat first
     | (simp only [t2, t3, e0, ek, ← hp1, ← hp5, ← hp7, e1, t4, t5, is00, is11, is10, is01, qq]; cbv)
     | refine an_Hm50 ?_
    cases b1
    case true =>
     cbv
     obtain ⟨ck, hck⟩ : ∃ z, z = y.c.kind := ⟨_, rfl⟩
     have m0 : A.gi (A.lift (A.cdrop (A.row xs i) 2)) 0 = ck := by rw [hck]; subst hA; simp only [A0, hrow]; rfl
     obtain ⟨ccl, hccl⟩ : ∃ z, z = y.c.client := ⟨_, rfl⟩
     have m1 : A.gi (A.lift (A.cdrop (A.row xs i) 2)) (A.pl 0 1) = ccl := by rw [hccl]; subst hA; simp only [A0, hrow]; rfl
     obtain ⟨csq, hcsq⟩ : ∃ z, z = y.c.seq := ⟨_, rfl⟩
     have m2 : A.gi (A.lift (A.cdrop (A.row xs i) 2)) (A.pl 0 2) = csq := by rw [hcsq]; subst hA; simp only [A0, hrow]; rfl
     obtain ⟨x1, hx1⟩ : ∃ z, z = y.c.key := ⟨_, rfl⟩
     have m3 : A.gs (A.lift (A.cdrop (A.row xs i) 2)) (A.pl 0 3) = x1 := by rw [hx1]; subst hA; simp only [A0, hrow]; rfl
     obtain ⟨x2, hx2⟩ : ∃ z, z = y.c.fin := ⟨_, rfl⟩
     have m4 : A.gs (A.lift (A.cdrop (A.row xs i) 2)) (A.pl 0 4) = x2 := by rw [hx2]; subst hA; simp only [A0, hrow]; rfl
     obtain ⟨x3, hx3⟩ : ∃ z, z = y.c.old := ⟨_, rfl⟩
     have m5 : A.gs (A.lift (A.cdrop (A.row xs i) 2)) (A.pl 0 5) = x3 := by rw [hx3]; subst hA; simp only [A0, hrow]; rfl
     obtain ⟨x4, hx4⟩ : ∃ z, z = y.c.val := ⟨_, rfl⟩
     have m6 : A.gs (A.lift (A.cdrop (A.row xs i) 2)) (A.pl 0 6) = x4 := by rw [hx4]; subst hA; simp only [A0, hrow]; rfl
     have hhc : A.has (A.lift (A.cdrop (A.row xs i) 2)) 0 7 [.d (.sc (.int .i64 (ck))), .d (.sc (.int .i64 (ccl))), .d (.sc (.int .i64 (csq))), .d (.sc (.string (x1))), .d (.sc (.string (x2))), .d (.sc (.string (x3))), .d (.sc (.string (x4)))] := by
      subst hA
      simp only [hck, hccl, hcsq, hx1, hx2, hx3, hx4, A0, hrow]
      exact ⟨rfl, by show 0 + 7 ≤ 9; decide, rfl⟩
     obtain ⟨qK, hqK⟩ : ∃ z, z = st.seq.getD (mK y) 0 := ⟨_, rfl⟩
     have hqb := hmb.sb (mK y)
     rw [← hqK] at hqb
     have hn12b := hmb.n12
     have hqq : st.seq[p1]? = some qK := by
      have h8 : mK y < st.seq.length := by rw [hmb.ls]; exact hk8
      rw [hqK, hp1v, List.getD_eq_getElem?_getD, List.getElem?_eq_getElem h8]
      rfl
     have e3 : A.gi cq p1 = qK := by subst hA; rw [hcq]; exact nums_gi hqq
     have hh3 : A.has cq p1 1 [.d (.sc (.int .i64 qK))] := by subst hA; rw [hcq]; exact nums_has hqq
     obtain ⟨k9, w1⟩ : ∃ t, A.bin .add .i64 kI 1 = t := ⟨_, rfl⟩
     have hk9 : k9 = kI + 1 := by rw [← w1]; subst hA; exact wrap_i64 (by unfold r64; omega)
     obtain ⟨q9, w2⟩ : ∃ t, A.bin .add .i64 qK 1 = t := ⟨_, rfl⟩
     have hq9 : q9 = qK + 1 := by rw [← w2]; subst hA; exact wrap_i64 (by unfold r64; omega)
     obtain ⟨rr, t6⟩ : ∃ t, GFs5.cright ⟨ck, k9, q9, x1, x2, x3, x4⟩ = t := ⟨_, rfl⟩
     have hrr : rr = rightC (mCmd st y) := by
      rw [← t6, hk9, hq9, hkI, hqK, hck, hx1, hx2, hx3, hx4]
      subst hFs5
      rfl
     obtain ⟨z0, t7⟩ : ∃ t, A.cmp .eql ck 0 = t := ⟨_, rfl⟩
     have hz0 : z0 = decide (y.c.kind = 0) := by rw [← t7, hck]; subst hA; rfl
     obtain ⟨bad, t8⟩ : ∃ t, A.cond (A.not rr) true z0 = t := ⟨_, rfl⟩
     have hbad : (rightC (mCmd st y) && !decide (y.c.kind = 0)) = !bad := by rw [← t8, ← hrr, ← hz0]; subst hA; cases rr <;> cases z0 <;> rfl
     cbv at hhc e3 hh3 w1 w2 t6 t7 t8 m0 m1 m2 m3 m4 m5 m6
     repeat first
      | (simp only [e3, w1, w2, t6, t7, t8, m0, m1, m2, m3, m4, m5, m6, t2, t3, e0, ek, ← hp1, ← hp5, ← hp7, e1, t4, t5, is00, is11, is10, is01, qq]; cbv)
      | refine an_Hm50 ?_
     refine regionL [] [] (T := fun _ => tabY [31, 32, 42, 43, 109, 117, 125, 37, 48, 62, 65, 68, 73, 81, 87, 95, 98, 104, 108, 112, 116, 124, 132, 139, 1010, 1015, 1085, 1090, 1093] []) (H := fun _ => [kn_within3 GFsPq, kn_cright GFs5, kn_lcallH GFsHz, kn_lbackH GFsHz, kn_applyR GFsSD]) (B := fun _ => []) (R := fun _ => []) (A := A) (tabY_ok _ _) hH noB_ok noR_ok follows_mixed hA hX (by kernel_rfl) (by kernel_rfl) (by kernel_rfl) ?_
     cbv
     repeat first
      | (simp only [e3, w1, w2, t6, t7, t8, m0, m1, m2, m3, m4, m5, m6, t2, t3, e0, ek, ← hp1, ← hp5, ← hp7, e1, t4, t5, is00, is11, is10, is01, qq]; cbv)
      | refine an_Hm50 ?_
     try simp only [t8]
     cases bad
     case true =>
      cbv
      repeat first
       | (simp only [e3, w1, w2, t6, t7, t8, m0, m1, m2, m3, m4, m5, m6, t2, t3, e0, ek, ← hp1, ← hp5, ← hp7, e1, t4, t5, is00, is11, is10, is01, qq]; cbv)
       | refine an_Hm50 ?_
      have hms : mstep st y = st := by
       unfold mstep
       rw [← hoK, ← hb1, hbad]
       rfl
      subst hA hR
      have wk : IntKind.wrap .i64 (i + 1) = i + 1 := wrap_i64 (by unfold r64; omega)
      replace hlt : i < r := hlt
      replace hr : r = (l.length : Int) := hr
      refine ⟨⟨i + 1, n, co, cq, cc, ct, s, dc, dr, 0, 0, vo, vr⟩, MXI.next i0 (by omega) hl hdr hmb (by omega) hng hoo hrun ⟨rfl, by rw [hms]; exact ⟨hn, hco, hcq, hcc, hct, hs, hdc, hdr9, hno, hnr⟩⟩, by show r.toNat - (i + 1).toNat < r.toNat - i.toNat; omega, told_keep [0, 1, 2, 3, 4] rfl ?_ ?_⟩
      ·simp [keepSt, pullBox, pullL, pullD, outB2, ordB, pullL_closed _ _ hsi.closed, hco, hcq, hcc, hct, hdc, hdr9, nums_pull, cmdsC_pull, repsC_pull, evsC_pull]
      ·simp [toldP, getS, A0, wk, pullD, outV, ordV, List.idxOf?, List.findIdx?_cons]
     case false =>
      cbv
      obtain ⟨n9, w3⟩ : ∃ t, A.bin .add .i64 n 1 = t := ⟨_, rfl⟩
      have hn9 : n9 = st.n + 1 := by rw [← w3, hn]; subst hA; have := hmb.n0; have := hmb.n12; exact wrap_i64 (by unfold r64; omega)
      obtain ⟨cq9, hcq9⟩ : ∃ z, z = numsD (st.seq.set (mK y) (st.seq.getD (mK y) 0 + 1)) := ⟨_, rfl⟩
      have x11 : A.spl cq p1 [.d (.sc (.int .i64 q9))] = cq9 := by subst hA; rw [hcq9, hcq, hq9, hqK, hp1v]; exact nums_spl (by rw [hmb.ls]; exact hk8) _
      have y11 : A.fits cq p1 1 := by subst hA; show p1 + 1 ≤ cq.length; rw [hcq, hp1v]; simp only [numsD, List.length_map, hmb.ls]; omega
      obtain ⟨co9, hco9⟩ : ∃ z, z = numsD (st.opn.set (mK y) (st.n + 1)) := ⟨_, rfl⟩
      have x12 : A.spl co p1 [.d (.sc (.int .i64 n9))] = co9 := by subst hA; rw [hco9, hco, hn9, hp1v]; exact nums_spl (by rw [hmb.lo]; exact hk8) _
      have y12 : A.fits co p1 1 := by subst hA; show p1 + 1 ≤ co.length; rw [hco, hp1v]; simp only [numsD, List.length_map, hmb.lo]; omega
      obtain ⟨cc9, hcc9⟩ : ∃ z, z = flatC cmdC (st.cmds.set (mK y) (mCmd st y)) := ⟨_, rfl⟩
      have x13 : A.spl cc p7 [.d (.sc (.int .i64 (ck))), .d (.sc (.int .i64 (k9))), .d (.sc (.int .i64 (q9))), .d (.sc (.string (x1))), .d (.sc (.string (x2))), .d (.sc (.string (x3))), .d (.sc (.string (x4)))] = cc9 := by
       subst hA
       rw [hcc9, hcc, hp7v, hk9, hq9, hkI, hqK, hck, hx1, hx2, hx3, hx4]
       exact flatC_spl cmdC_len (by rw [hmb.lc]; exact hk8) (mCmd st y)
      have y13 : A.fits cc p7 7 := by subst hA; show p7 + 7 ≤ cc.length; rw [hcc, hp7v, flatC_len cmdC_len, hmb.lc]; omega
      obtain ⟨h9, t9⟩ : ∃ t, GFsHz.lcallH ⟨ck, k9, q9, x1, x2, x3, x4⟩ = t := ⟨_, rfl⟩
      have hh9 : h9 = (evC (mCmd st y)).op := by
       rw [← t9, hk9, hq9, hkI, hqK, hck, hx1, hx2, hx3, hx4]
       subst hFsHz
       rfl
      rcases h9 with ⟨a1, a2, a3, a4, a5, a6, a7, a8, a9, a10, a11, a12, a13, a14⟩
      obtain ⟨dc9, hdc9⟩ : ∃ z, z = evsC (st.out ++ [evC (mCmd st y)]) := ⟨_, rfl⟩
      have hrw9 : [.d (.sc (.int .i64 a1)), .d (.sc (.int .i64 a2)), .d (.sc (.int .i64 a3)), .d (.sc (.int .i64 a4)), .d (.sc (.int .i64 a5)), .d (.sc (.string a6)), .d (.sc (.string a7)), .d (.sc (.string a8)), .d (.sc (.string a9)), .d (.sc (.int .i64 a10)), .d (.sc (.bool a11)), .d (.sc (.string a12)), .d (.sc (.int .i64 a13)), .d (.slc 3 a14)] = (evC (mCmd st y)).cells := by
       have := congrArg HOp.D hh9
       rw [Ev.op_D] at this
       exact DV.agg.inj this
      have x14 : A.full [.d (.sc (.int .i64 a1)), .d (.sc (.int .i64 a2)), .d (.sc (.int .i64 a3)), .d (.sc (.int .i64 a4)), .d (.sc (.int .i64 a5)), .d (.sc (.string a6)), .d (.sc (.string a7)), .d (.sc (.string a8)), .d (.sc (.string a9)), .d (.sc (.int .i64 a10)), .d (.sc (.bool a11)), .d (.sc (.string a12)), .d (.sc (.int .i64 a13)), .d (.slc 3 a14)] 1 14 := by subst hA; rfl
      have hout0 : st.out = [] := List.length_eq_zero_iff.1 hno.symm
      have h0c : evsC (st.out ++ [evC (mCmd st y)]) = [.d (.sc (.int .i64 a1)), .d (.sc (.int .i64 a2)), .d (.sc (.int .i64 a3)), .d (.sc (.int .i64 a4)), .d (.sc (.int .i64 a5)), .d (.sc (.string a6)), .d (.sc (.string a7)), .d (.sc (.string a8)), .d (.sc (.string a9)), .d (.sc (.int .i64 a10)), .d (.sc (.bool a11)), .d (.sc (.string a12)), .d (.sc (.int .i64 a13)), .d (.slc 3 a14)] := by rw [hrw9, evsC_app, hout0]; rfl
      cbv at w3 x11 y11 x12 y12 x13 y13 t9 x14
      repeat first
       | (simp only [w3, x11, x12, x13, x14, t9, e3, w1, w2, t6, t7, t8, m0, m1, m2, m3, m4, m5, m6, t2, t3, e0, ek, ← hp1, ← hp5, ← hp7, e1, t4, t5, is00, is11, is10, is01, qq]; cbv)
       | refine an_Hm50 ?_
      have hms : mstep st y = mCall st y := by
       unfold mstep
       rw [← hoK, ← hb1, hbad]
       rfl
      subst hA hR
      have wk : IntKind.wrap .i64 (i + 1) = i + 1 := wrap_i64 (by unfold r64; omega)
      replace hlt : i < r := hlt
      replace hr : r = (l.length : Int) := hr
      refine ⟨⟨i + 1, n9, co9, cq9, cc9, ct, s, dc9, dr, 1, 0, 0, vr⟩, MXI.next i0 (by omega) hl hdr hmb (by omega) hng hoo hrun ⟨rfl, by rw [hms]; exact ⟨hn9, hco9, hcq9, hcc9, hct, hs, hdc9, hdr9, by show _ = (st.out ++ [_]).length; rw [List.length_append, ← hno]; rfl, hnr⟩⟩, by show r.toNat - (i + 1).toNat < r.toNat - i.toNat; omega, told_keep [0, 1, 2, 3, 4, 7] rfl ?_ ?_⟩
      ·simp [keepSt, pullBox, pullL, pullD, outB2, ordB, A0, hcq9, hco9, hcc9, hdc9, h0c, pullL_closed _ _ hsi.closed, hco, hcq, hcc, hct, hdc, hdr9, nums_pull, cmdsC_pull, repsC_pull, evsC_pull]
      ·simp [toldP, getS, A0, wk, pullD, outV, ordV, List.idxOf?, List.findIdx?_cons]
    case false =>
     exfalso
     have h1 := hmb.ob (mK y)
     have h2 : ¬ oK = 0 := of_decide_eq_false hb1.symm
     have h3 := hmb.cnt
     have hout0 : st.out = [] := List.length_eq_zero_iff.1 hno.symm
     have hord0 : st.ord = [] := List.length_eq_zero_iff.1 hnr.symm
     rw [hout0] at h3
     have h3 : (0 : Int) = st.n := h3
     rw [← hoK] at h1
     exact hng (mK y) (by rw [← hoK]; omega) hord0
   ·cbv
    repeat first
     | (simp only [t2, t3, e0, ek, ← hp1, ← hp5, ← hp7, e1, t4, t5, is00, is11, is10, is01, qq]; cbv)
     | refine an_Hm50 ?_
    cases b1
    case true =>
     cbv
     obtain ⟨ck, hck⟩ : ∃ z, z = y.c.kind := ⟨_, rfl⟩
     have m0 : A.gi (A.lift (A.cdrop (A.row xs i) 2)) 0 = ck := by rw [hck]; subst hA; simp only [A0, hrow]; rfl
     obtain ⟨ccl, hccl⟩ : ∃ z, z = y.c.client := ⟨_, rfl⟩
     have m1 : A.gi (A.lift (A.cdrop (A.row xs i) 2)) (A.pl 0 1) = ccl := by rw [hccl]; subst hA; simp only [A0, hrow]; rfl
     obtain ⟨csq, hcsq⟩ : ∃ z, z = y.c.seq := ⟨_, rfl⟩
     have m2 : A.gi (A.lift (A.cdrop (A.row xs i) 2)) (A.pl 0 2) = csq := by rw [hcsq]; subst hA; simp only [A0, hrow]; rfl
     obtain ⟨x1, hx1⟩ : ∃ z, z = y.c.key := ⟨_, rfl⟩
     have m3 : A.gs (A.lift (A.cdrop (A.row xs i) 2)) (A.pl 0 3) = x1 := by rw [hx1]; subst hA; simp only [A0, hrow]; rfl
     obtain ⟨x2, hx2⟩ : ∃ z, z = y.c.fin := ⟨_, rfl⟩
     have m4 : A.gs (A.lift (A.cdrop (A.row xs i) 2)) (A.pl 0 4) = x2 := by rw [hx2]; subst hA; simp only [A0, hrow]; rfl
     obtain ⟨x3, hx3⟩ : ∃ z, z = y.c.old := ⟨_, rfl⟩
     have m5 : A.gs (A.lift (A.cdrop (A.row xs i) 2)) (A.pl 0 5) = x3 := by rw [hx3]; subst hA; simp only [A0, hrow]; rfl
     obtain ⟨x4, hx4⟩ : ∃ z, z = y.c.val := ⟨_, rfl⟩
     have m6 : A.gs (A.lift (A.cdrop (A.row xs i) 2)) (A.pl 0 6) = x4 := by rw [hx4]; subst hA; simp only [A0, hrow]; rfl
     have hhc : A.has (A.lift (A.cdrop (A.row xs i) 2)) 0 7 [.d (.sc (.int .i64 (ck))), .d (.sc (.int .i64 (ccl))), .d (.sc (.int .i64 (csq))), .d (.sc (.string (x1))), .d (.sc (.string (x2))), .d (.sc (.string (x3))), .d (.sc (.string (x4)))] := by
      subst hA
      simp only [hck, hccl, hcsq, hx1, hx2, hx3, hx4, A0, hrow]
      exact ⟨rfl, by show 0 + 7 ≤ 9; decide, rfl⟩
     obtain ⟨qK, hqK⟩ : ∃ z, z = st.seq.getD (mK y) 0 := ⟨_, rfl⟩
     have hqb := hmb.sb (mK y)
     rw [← hqK] at hqb
     have hn12b := hmb.n12
     have hqq : st.seq[p1]? = some qK := by
      have h8 : mK y < st.seq.length := by rw [hmb.ls]; exact hk8
      rw [hqK, hp1v, List.getD_eq_getElem?_getD, List.getElem?_eq_getElem h8]
      rfl
     have e3 : A.gi cq p1 = qK := by subst hA; rw [hcq]; exact nums_gi hqq
     have hh3 : A.has cq p1 1 [.d (.sc (.int .i64 qK))] := by subst hA; rw [hcq]; exact nums_has hqq
     obtain ⟨k9, w1⟩ : ∃ t, A.bin .add .i64 kI 1 = t := ⟨_, rfl⟩
     have hk9 : k9 = kI + 1 := by rw [← w1]; subst hA; exact wrap_i64 (by unfold r64; omega)
     obtain ⟨q9, w2⟩ : ∃ t, A.bin .add .i64 qK 1 = t := ⟨_, rfl⟩
     have hq9 : q9 = qK + 1 := by rw [← w2]; subst hA; exact wrap_i64 (by unfold r64; omega)
     obtain ⟨rr, t6⟩ : ∃ t, GFs5.cright ⟨ck, k9, q9, x1, x2, x3, x4⟩ = t := ⟨_, rfl⟩
     have hrr : rr = rightC (mCmd st y) := by
      rw [← t6, hk9, hq9, hkI, hqK, hck, hx1, hx2, hx3, hx4]
      subst hFs5
      rfl
     obtain ⟨z0, t7⟩ : ∃ t, A.cmp .eql ck 0 = t := ⟨_, rfl⟩
     have hz0 : z0 = decide (y.c.kind = 0) := by rw [← t7, hck]; subst hA; rfl
     obtain ⟨bad, t8⟩ : ∃ t, A.cond (A.not rr) true z0 = t := ⟨_, rfl⟩
     have hbad : (rightC (mCmd st y) && !decide (y.c.kind = 0)) = !bad := by rw [← t8, ← hrr, ← hz0]; subst hA; cases rr <;> cases z0 <;> rfl
     cbv at hhc e3 hh3 w1 w2 t6 t7 t8 m0 m1 m2 m3 m4 m5 m6
     repeat first
      | (simp only [e3, w1, w2, t6, t7, t8, m0, m1, m2, m3, m4, m5, m6, t2, t3, e0, ek, ← hp1, ← hp5, ← hp7, e1, t4, t5, is00, is11, is10, is01, qq]; cbv)
      | refine an_Hm50 ?_
     refine regionL [] [] (T := fun _ => tabY [31, 32, 42, 43, 109, 117, 125, 37, 48, 62, 65, 68, 73, 81, 87, 95, 98, 104, 108, 112, 116, 124, 132, 139, 1010, 1015, 1085, 1090, 1093] []) (H := fun _ => [kn_within3 GFsPq, kn_cright GFs5, kn_lcallH GFsHz, kn_lbackH GFsHz, kn_applyR GFsSD]) (B := fun _ => []) (R := fun _ => []) (A := A) (tabY_ok _ _) hH noB_ok noR_ok follows_mixed hA hX (by kernel_rfl) (by kernel_rfl) (by kernel_rfl) ?_
     cbv
     repeat first
      | (simp only [e3, w1, w2, t6, t7, t8, m0, m1, m2, m3, m4, m5, m6, t2, t3, e0, ek, ← hp1, ← hp5, ← hp7, e1, t4, t5, is00, is11, is10, is01, qq]; cbv)
      | refine an_Hm50 ?_
     try simp only [t8]
     cases bad
     case true =>
      cbv
      repeat first
       | (simp only [e3, w1, w2, t6, t7, t8, m0, m1, m2, m3, m4, m5, m6, t2, t3, e0, ek, ← hp1, ← hp5, ← hp7, e1, t4, t5, is00, is11, is10, is01, qq]; cbv)
       | refine an_Hm50 ?_
      have hms : mstep st y = st := by
       unfold mstep
       rw [← hoK, ← hb1, hbad]
       rfl
      subst hA hR
      have wk : IntKind.wrap .i64 (i + 1) = i + 1 := wrap_i64 (by unfold r64; omega)
      replace hlt : i < r := hlt
      replace hr : r = (l.length : Int) := hr
      refine ⟨⟨i + 1, n, co, cq, cc, ct, s, dc, dr, m + 1, 0, vo, vr⟩, MXI.next i0 (by omega) hl hdr hmb (by omega) hng hoo hrun ⟨rfl, by rw [hms]; exact ⟨hn, hco, hcq, hcc, hct, hs, hdc, hdr9, hno, hnr⟩⟩, by show r.toNat - (i + 1).toNat < r.toNat - i.toNat; omega, told_keep [0, 1, 2, 3, 4, 5] rfl ?_ ?_⟩
      ·simp [keepSt, pullBox, pullL, pullD, outB2, ordB, pullL_closed _ _ hsi.closed, hco, hcq, hcc, hct, hdc, hdr9, nums_pull, cmdsC_pull, repsC_pull, evsC_pull]
      ·simp [toldP, getS, A0, wk, pullD, outV, ordV, List.idxOf?, List.findIdx?_cons]
     case false =>
      cbv
      obtain ⟨n9, w3⟩ : ∃ t, A.bin .add .i64 n 1 = t := ⟨_, rfl⟩
      have hn9 : n9 = st.n + 1 := by rw [← w3, hn]; subst hA; have := hmb.n0; have := hmb.n12; exact wrap_i64 (by unfold r64; omega)
      obtain ⟨cq9, hcq9⟩ : ∃ z, z = numsD (st.seq.set (mK y) (st.seq.getD (mK y) 0 + 1)) := ⟨_, rfl⟩
      have x11 : A.spl cq p1 [.d (.sc (.int .i64 q9))] = cq9 := by subst hA; rw [hcq9, hcq, hq9, hqK, hp1v]; exact nums_spl (by rw [hmb.ls]; exact hk8) _
      have y11 : A.fits cq p1 1 := by subst hA; show p1 + 1 ≤ cq.length; rw [hcq, hp1v]; simp only [numsD, List.length_map, hmb.ls]; omega
      obtain ⟨co9, hco9⟩ : ∃ z, z = numsD (st.opn.set (mK y) (st.n + 1)) := ⟨_, rfl⟩
      have x12 : A.spl co p1 [.d (.sc (.int .i64 n9))] = co9 := by subst hA; rw [hco9, hco, hn9, hp1v]; exact nums_spl (by rw [hmb.lo]; exact hk8) _
      have y12 : A.fits co p1 1 := by subst hA; show p1 + 1 ≤ co.length; rw [hco, hp1v]; simp only [numsD, List.length_map, hmb.lo]; omega
      obtain ⟨cc9, hcc9⟩ : ∃ z, z = flatC cmdC (st.cmds.set (mK y) (mCmd st y)) := ⟨_, rfl⟩
      have x13 : A.spl cc p7 [.d (.sc (.int .i64 (ck))), .d (.sc (.int .i64 (k9))), .d (.sc (.int .i64 (q9))), .d (.sc (.string (x1))), .d (.sc (.string (x2))), .d (.sc (.string (x3))), .d (.sc (.string (x4)))] = cc9 := by
       subst hA
       rw [hcc9, hcc, hp7v, hk9, hq9, hkI, hqK, hck, hx1, hx2, hx3, hx4]
       exact flatC_spl cmdC_len (by rw [hmb.lc]; exact hk8) (mCmd st y)
      have y13 : A.fits cc p7 7 := by subst hA; show p7 + 7 ≤ cc.length; rw [hcc, hp7v, flatC_len cmdC_len, hmb.lc]; omega
      obtain ⟨h9, t9⟩ : ∃ t, GFsHz.lcallH ⟨ck, k9, q9, x1, x2, x3, x4⟩ = t := ⟨_, rfl⟩
      have hh9 : h9 = (evC (mCmd st y)).op := by
       rw [← t9, hk9, hq9, hkI, hqK, hck, hx1, hx2, hx3, hx4]
       subst hFsHz
       rfl
      rcases h9 with ⟨a1, a2, a3, a4, a5, a6, a7, a8, a9, a10, a11, a12, a13, a14⟩
      have hfull : A.full dc (m + 1) 14 := by subst hA; show dc.length = (m + 1) * 14; rw [hdc, evsC_len, ← hno]
      have hisl : A.isl (m + 1) 1 168 := by subst hA; have := hmb.len; exact ⟨by omega, by omega⟩
      obtain ⟨dc9, hdc9⟩ : ∃ z, z = evsC (st.out ++ [evC (mCmd st y)]) := ⟨_, rfl⟩
      have hrw9 : [.d (.sc (.int .i64 a1)), .d (.sc (.int .i64 a2)), .d (.sc (.int .i64 a3)), .d (.sc (.int .i64 a4)), .d (.sc (.int .i64 a5)), .d (.sc (.string a6)), .d (.sc (.string a7)), .d (.sc (.string a8)), .d (.sc (.string a9)), .d (.sc (.int .i64 a10)), .d (.sc (.bool a11)), .d (.sc (.string a12)), .d (.sc (.int .i64 a13)), .d (.slc 3 a14)] = (evC (mCmd st y)).cells := by
       have := congrArg HOp.D hh9
       rw [Ev.op_D] at this
       exact DV.agg.inj this
      have x14 : A.app dc (A.tk [.d (.sc (.int .i64 a1)), .d (.sc (.int .i64 a2)), .d (.sc (.int .i64 a3)), .d (.sc (.int .i64 a4)), .d (.sc (.int .i64 a5)), .d (.sc (.string a6)), .d (.sc (.string a7)), .d (.sc (.string a8)), .d (.sc (.string a9)), .d (.sc (.int .i64 a10)), .d (.sc (.bool a11)), .d (.sc (.string a12)), .d (.sc (.int .i64 a13)), .d (.slc 3 a14)] 0 1 14) = dc9 := by subst hA; rw [hdc9, evsC_app, ← hrw9, hdc]; rfl
      cbv at w3 x11 y11 x12 y12 x13 y13 t9 hfull hisl x14
      repeat first
       | (simp only [w3, x11, x12, x13, x14, t9, e3, w1, w2, t6, t7, t8, m0, m1, m2, m3, m4, m5, m6, t2, t3, e0, ek, ← hp1, ← hp5, ← hp7, e1, t4, t5, is00, is11, is10, is01, qq]; cbv)
       | refine an_Hm50 ?_
      have hms : mstep st y = mCall st y := by
       unfold mstep
       rw [← hoK, ← hb1, hbad]
       rfl
      subst hA hR
      have wk : IntKind.wrap .i64 (i + 1) = i + 1 := wrap_i64 (by unfold r64; omega)
      replace hlt : i < r := hlt
      replace hr : r = (l.length : Int) := hr
      refine ⟨⟨i + 1, n9, co9, cq9, cc9, ct, s, dc9, dr, m + 2, 0, vo + 1, vr⟩, MXI.next i0 (by omega) hl hdr hmb (by omega) hng hoo hrun ⟨rfl, by rw [hms]; exact ⟨hn9, hco9, hcq9, hcc9, hct, hs, hdc9, hdr9, by show _ = (st.out ++ [_]).length; rw [List.length_append, ← hno]; rfl, hnr⟩⟩, by show r.toNat - (i + 1).toNat < r.toNat - i.toNat; omega, told_keep [0, 1, 2, 3, 4, 5] rfl ?_ ?_⟩
      ·simp [keepSt, pullBox, pullL, pullD, outB2, ordB, A0, hcq9, hco9, hcc9, hdc9, pullL_closed _ _ hsi.closed, hco, hcq, hcc, hct, hdc, hdr9, nums_pull, cmdsC_pull, repsC_pull, evsC_pull]
      ·simp [toldP, getS, A0, wk, pullD, outV, ordV, List.idxOf?, List.findIdx?_cons]
    case false =>
     cbv
     repeat first
      | (simp only [t2, t3, e0, ek, ← hp1, ← hp5, ← hp7, e1, t4, t5, is00, is11, is10, is01, qq]; cbv)
      | refine an_Hm50 ?_
     cases b2
     case true =>
      cbv
      have h8c : mK y < st.cmds.length := by rw [hmb.lc]; exact hk8
      obtain ⟨kc, hkc⟩ : ∃ z, z = st.cmds.getD (mK y) .zero := ⟨_, rfl⟩
      have hkc2 : st.cmds[mK y] = kc := by rw [hkc, List.getD_eq_getElem?_getD, List.getElem?_eq_getElem h8c]; rfl
      have gcc : ∀ j, j < 7 → cc[p7 + j]? = (cmdC kc)[j]? := fun j hj => by rw [hcc, hp7v, flatC_get cmdC_len h8c hj, hkc2]
      have hc7 : A.has cc p7 7 (cmdC kc) := by
       subst hA
       refine ⟨rfl, by show p7 + 7 ≤ cc.length; rw [hcc, hp7v, flatC_len cmdC_len, hmb.lc]; omega, ?_⟩
       rw [hcc, hp7v, flatC_take cmdC_len h8c, hkc2]
      have gc0 := gcc 0 (by omega)
      have gc1 := gcc 1 (by omega)
      have gc2 := gcc 2 (by omega)
      have gc3 := gcc 3 (by omega)
      have gc4 := gcc 4 (by omega)
      have gc5 := gcc 5 (by omega)
      have gc6 := gcc 6 (by omega)
      obtain ⟨v1, v2, v3, v4, v5, v6, v7⟩ := kc
      have c0 : A.gi cc p7 = v1 := by subst hA; show A0.gi cc p7 = v1; simp only [A0, show cc[p7]? = _ from gc0]; rfl
      have c1 : A.gi cc (A.pl p7 1) = v2 := by subst hA; simp only [A0, gc1]; rfl
      have c2 : A.gi cc (A.pl p7 2) = v3 := by subst hA; simp only [A0, gc2]; rfl
      have c3 : A.gs cc (A.pl p7 3) = v4 := by subst hA; simp only [A0, gc3]; rfl
      have c4 : A.gs cc (A.pl p7 4) = v5 := by subst hA; simp only [A0, gc4]; rfl
      have c5 : A.gs cc (A.pl p7 5) = v6 := by subst hA; simp only [A0, gc5]; rfl
      have c6 : A.gs cc (A.pl p7 6) = v7 := by subst hA; simp only [A0, gc6]; rfl
      have hc7 : A.has cc p7 7 [.d (.sc (.int .i64 (v1))), .d (.sc (.int .i64 (v2))), .d (.sc (.int .i64 (v3))), .d (.sc (.string (v4))), .d (.sc (.string (v5))), .d (.sc (.string (v6))), .d (.sc (.string (v7)))] := hc7
      cbv at c0 c1 c2 c3 c4 c5 c6 hc7
      have hsl : s.length = 49 := hsi.len
      have etk : A.tk s 0 1 49 = s := by
       subst hA
       show (s.drop 0).take (1 * 49) = s
       rw [List.drop_zero, List.take_of_length_le (by omega)]
      have hfv : A.fitv s 0 1 49 := by subst hA; show 0 + 1 * 49 ≤ s.length; omega
      obtain ⟨ap9, hap⟩ : ∃ z, z = applyS s ⟨v1, v2, v3, v4, v5, v6, v7⟩ := ⟨_, rfl⟩
      have eap : GFsSD.applyR s ⟨v1, v2, v3, v4, v5, v6, v7⟩ = ap9 := by rw [hap]; subst hFsSD; rfl
      have e6 : GFsSD.isSt s := by subst hFsSD; exact hsi
      obtain ⟨j9, j90, j91, j92⟩ := hmb.ok
      rw [← hs] at j92
      have hi62 : j9 ≤ 4611686018427387904 := by omega
      have hs9 := j92.app j90 hi62 ⟨v1, v2, v3, v4, v5, v6, v7⟩
      have hpr9 := j92.rep j90 hi62 ⟨v1, v2, v3, v4, v5, v6, v7⟩
      rw [← hap] at hs9 hpr9
      obtain ⟨s9, w9, fd9, vl9, vr9, pr9⟩ := ap9
      replace hs9 : isSt s9 := hs9.is
      replace hpr9 : isP pr9 := hpr9
      have h9l : s9.length = 49 := hs9.len
      have espl : ∀ Z : List DV, Z.length = 49 → A.spl Z 0 s9 = s9 := fun Z hZ => by
       subst hA
       show splice Z 0 s9 = s9
       simp [splice, hZ, h9l]
      have es9 : A.spl s 0 s9 = s9 := by
       subst hA
       show splice s 0 s9 = s9
       simp [splice, hsl, h9l]
      have hful : A.full s9 49 1 := by subst hA; show s9.length = 49 * 1; omega
      have hfs : A.fits s 0 49 := by subst hA; show 0 + 49 ≤ s.length; omega
      have etk9 : A.tk s9 0 1 49 = s9 := by
       subst hA
       show (s9.drop 0).take (1 * 49) = s9
       rw [List.drop_zero, List.take_of_length_le (by omega)]
      have hfv9 : A.fitv s9 0 1 49 := by subst hA; show 0 + 1 * 49 ≤ s9.length; omega
      obtain ⟨ct9, hct9⟩ : ∃ z, z = flatC repC5 (st.told.set (mK y) ⟨w9, fd9, vl9, vr9, pr9⟩) := ⟨_, rfl⟩
      have x15 : A.spl ct p5 [.d (.sc (.int .i64 w9)), .d (.sc (.bool fd9)), .d (.sc (.string vl9)), .d (.sc (.int .i64 vr9)), .d (.slc 3 pr9)] = ct9 := by
       subst hA
       rw [hct9, hct, hp5v]
       exact flatC_spl repC5_len (by rw [hmb.lt]; exact hk8) ⟨w9, fd9, vl9, vr9, pr9⟩
      have y15 : A.fits ct p5 5 := by subst hA; show p5 + 5 ≤ ct.length; rw [hct, hp5v, flatC_len repC5_len, hmb.lt]; omega
      obtain ⟨o9, w4⟩ : ∃ t, A.bin .sub .i64 oK 1 = t := ⟨_, rfl⟩
      have hob := hmb.ob (mK y)
      rw [← hoK] at hob
      have hn12b := hmb.n12
      have ho9 : o9 = oK - 1 := by rw [← w4]; subst hA; exact wrap_i64 (by unfold r64; omega)
      obtain ⟨co9, hco9⟩ : ∃ z, z = numsD (st.opn.set (mK y) (-1)) := ⟨_, rfl⟩
      have x12 : A.spl co p1 [.d (.sc (.int .i64 (-1)))] = co9 := by subst hA; rw [hco9, hco, hp1v]; exact nums_spl (by rw [hmb.lo]; exact hk8) _
      have y12 : A.fits co p1 1 := by subst hA; show p1 + 1 ≤ co.length; rw [hco, hp1v]; simp only [numsD, List.length_map, hmb.lo]; omega
      obtain ⟨dr9, hdr99⟩ : ∃ z, z = numsD (st.ord ++ [oK - 1]) := ⟨_, rfl⟩
      have hord0 : st.ord = [] := List.length_eq_zero_iff.1 hnr.symm
      have h0d : numsD (st.ord ++ [oK - 1]) = [.d (.sc (.int .i64 o9))] := by rw [hord0, ho9]; rfl
      cbv at etk hfv eap e6 es9 hful hfs etk9 hfv9 x15 y15 w4 x12 y12
      repeat first
       | (simp only [etk, eap, es9, etk9, x15, w4, x12, t5, c0, c1, c2, c3, c4, c5, c6, t2, t3, e0, ek, ← hp1, ← hp5, ← hp7, e1, t4, t5, is00, is11, is10, is01, qq]; cbv)
       | refine an_Hm50 ?_
      refine stepPl hX [(0, .d (.slc 11 xs)), (4, .view 14 5 vo 0 (m + 1)), (5, .d (.sc (.slice none 0 0))), (6, .ref 0 0 0), (7, .ref 1 0 0), (8, .ref 2 0 0), (9, .ref 3 0 0), (10, .ref 4 0 0), (11, .d (.sc (.int .i64 (n)))), (12, .d (.sc (.int .i64 (i)))), (13, .d (.sc (.int .i64 kI))), (15, .ref 6 0 0), (16, .ref 7 0 0)] ([⟨77, co, false, 0, true⟩, ⟨77, cq, false, 0, true⟩, ⟨91, cc, false, 0, true⟩, ⟨92, ct, false, 0, true⟩, ⟨32, s, false, 0, true⟩, ⟨50, dc, true, vo, true⟩] ++ [⟨32, s9, false, 0, true⟩, ⟨27, [.d (.sc (.int .i64 w9)), .d (.sc (.bool fd9)), .d (.sc (.string vl9)), .d (.sc (.int .i64 vr9)), .d (.slc 3 pr9)], false, 0, true⟩]) (fun R9 hR9 => ?_) ?_
      ·refine regionS [] (.node 8 9 (.leaf [0, 1, 2, 3, 4, 5, 6, 7, 8, 9, 10, 11] []) (.leaf [0, 1, 2, 3, 4, 5, 6, 7, 9, 8, 10, 11] [])) (T := fun _ => tabY [31, 32, 42, 43, 109, 117, 125, 37, 48, 62, 65, 68, 73, 81, 87, 95, 98, 104, 108, 112, 116, 124, 132, 139, 1010, 1015, 1085, 1090, 1093] []) (H := fun _ => [kn_within3 GFsPq, kn_cright GFs5, kn_lcallH GFsHz, kn_lbackH GFsHz, kn_applyR GFsSD]) (B := fun _ => []) (R := fun _ => []) (A := A) (tabY_ok _ _) hH noB_ok noR_ok follows_mixed hA hX ?_
       refine ⟨by decide, ⟨by decide, by kernel_rfl, by kernel_rfl, by kernel_rfl, ?_⟩, ⟨by decide, by kernel_rfl, by kernel_rfl, by kernel_rfl, ?_⟩⟩
       ·cbv
        repeat first
         | (simp only [etk, eap, es9, etk9, x15, w4, x12, t5, c0, c1, c2, c3, c4, c5, c6, t2, t3, e0, ek, ← hp1, ← hp5, ← hp7, e1, t4, t5, is00, is11, is10, is01, qq]; cbv)
         | refine an_Hm50 ?_
        refine hR9 _ _ ?_
        exact told_eqM (congrArg (fun z : List DV => (([⟨77, co, false, 0, true⟩, ⟨77, cq, false, 0, true⟩, ⟨91, cc, false, 0, true⟩, ⟨92, ct, false, 0, true⟩, ⟨32, s, false, 0, true⟩, ⟨50, dc, true, vo, true⟩] ++ [⟨32, z, false, 0, true⟩, ⟨27, [.d (.sc (.int .i64 w9)), .d (.sc (.bool fd9)), .d (.sc (.string vl9)), .d (.sc (.int .i64 vr9)), .d (.slc 3 pr9)], false, 0, true⟩]) : Store)) (espl _ rfl)) (by simp [toldP, getS])
       ·cbv
        repeat first
         | (simp only [etk, eap, es9, etk9, x15, w4, x12, t5, c0, c1, c2, c3, c4, c5, c6, t2, t3, e0, ek, ← hp1, ← hp5, ← hp7, e1, t4, t5, is00, is11, is10, is01, qq]; cbv)
         | refine an_Hm50 ?_
        refine hR9 _ _ ?_
        refine Told.trans (s' := [(0, .d (.slc 11 xs)), (4, .view 14 5 vo 0 (m + 1)), (5, .d (.sc (.slice none 0 0))), (6, .ref 0 0 0), (7, .ref 1 0 0), (8, .ref 2 0 0), (9, .ref 3 0 0), (10, .ref 4 0 0), (11, .d (.sc (.int .i64 (n)))), (12, .d (.sc (.int .i64 (i)))), (13, .d (.sc (.int .i64 kI))), (15, .ref 7 0 0), (16, .ref 6 0 0)]) (st' := ([⟨77, co, false, 0, true⟩, ⟨77, cq, false, 0, true⟩, ⟨91, cc, false, 0, true⟩, ⟨92, ct, false, 0, true⟩, ⟨32, s, false, 0, true⟩, ⟨50, dc, true, vo, true⟩] ++ [⟨27, [.d (.sc (.int .i64 w9)), .d (.sc (.bool fd9)), .d (.sc (.string vl9)), .d (.sc (.int .i64 vr9)), .d (.slc 3 pr9)], false, 0, true⟩, ⟨32, s9, false, 0, true⟩] : Store)) (told_eqM (congrArg (fun z : List DV => (([⟨77, co, false, 0, true⟩, ⟨77, cq, false, 0, true⟩, ⟨91, cc, false, 0, true⟩, ⟨92, ct, false, 0, true⟩, ⟨32, s, false, 0, true⟩, ⟨50, dc, true, vo, true⟩] ++ [⟨27, [.d (.sc (.int .i64 w9)), .d (.sc (.bool fd9)), .d (.sc (.string vl9)), .d (.sc (.int .i64 vr9)), .d (.slc 3 pr9)], false, 0, true⟩, ⟨32, z, false, 0, true⟩]) : Store)) (espl _ rfl)) (by simp [toldP, getS])) ?_
        refine told_keep [0, 1, 2, 3, 4, 5, 7, 6] rfl ?_ ?_
        ·simp [keepSt, pullBox, pullL, pullD, pullL_closed _ _ hsi.closed, pullL_closed _ _ hs9.closed, hco, hcq, hcc, hct, hdc, hdr9, nums_pull, cmdsC_pull, repsC_pull, evsC_pull]
        ·simp [toldP, getS, pullD, List.idxOf?, List.findIdx?_cons]
      ·cbv
       repeat first
        | (simp only [etk, eap, es9, etk9, x15, w4, x12, t5, c0, c1, c2, c3, c4, c5, c6, t2, t3, e0, ek, ← hp1, ← hp5, ← hp7, e1, t4, t5, is00, is11, is10, is01, qq]; cbv)
        | refine an_Hm50 ?_
       refine regionL [] [] (T := fun _ => tabY [31, 32, 42, 43, 109, 117, 125, 37, 48, 62, 65, 68, 73, 81, 87, 95, 98, 104, 108, 112, 116, 124, 132, 139, 1010, 1015, 1085, 1090, 1093] []) (H := fun _ => [kn_within3 GFsPq, kn_cright GFs5, kn_lcallH GFsHz, kn_lbackH GFsHz, kn_applyR GFsSD]) (B := fun _ => []) (R := fun _ => []) (A := A) (tabY_ok _ _) hH noB_ok noR_ok follows_mixed hA hX (by kernel_rfl) (by kernel_rfl) (by kernel_rfl) ?_
       cbv
       repeat first
        | (simp only [etk, eap, es9, etk9, x15, w4, x12, t5, c0, c1, c2, c3, c4, c5, c6, t2, t3, e0, ek, ← hp1, ← hp5, ← hp7, e1, t4, t5, is00, is11, is10, is01, qq]; cbv)
        | refine an_Hm50 ?_
       have hms : mstep st y = mDo st y := by
        unfold mstep
        rw [← hoK, ← hb1, ← hb2]
        rfl
       subst hA hR
       have wk : IntKind.wrap .i64 (i + 1) = i + 1 := wrap_i64 (by unfold r64; omega)
       replace hlt : i < r := hlt
       replace hr : r = (l.length : Int) := hr
       refine ⟨⟨i + 1, n, co9, cq, cc, ct9, s9, dc, dr9, m + 1, 1, vo, 0⟩, MXI.next i0 (by omega) hl hdr hmb (by omega) hng hoo hrun ⟨rfl, by rw [hms]; exact ⟨hn, hco9, hcq, hcc, by rw [hct9]; show _ = flatC repC5 (st.told.set (mK y) (applyS st.s (st.cmds.getD (mK y) .zero)).2); rw [← hkc, ← hs, ← hap], by show s9 = (applyS st.s (st.cmds.getD (mK y) .zero)).1; rw [← hkc, ← hs, ← hap], hdc, by rw [hdr99, hoK]; rfl, hno, by show _ = (st.ord ++ [_]).length; rw [List.length_append, ← hnr]; rfl⟩⟩, by show r.toNat - (i + 1).toNat < r.toNat - i.toNat; omega, told_keep [0, 1, 2, 3, 4, 5, 9] rfl ?_ ?_⟩
       ·simp [keepSt, pullBox, pullL, pullD, outB2, ordB, A0, hco9, hct9, hdr99, pullL_closed _ _ hs9.closed, h0d, pullL_closed _ _ hsi.closed, hco, hcq, hcc, hct, hdc, hdr9, nums_pull, cmdsC_pull, repsC_pull, evsC_pull]
       ·simp [toldP, getS, A0, wk, pullD, outV, ordV, List.idxOf?, List.findIdx?_cons]
     case false =>
      exfalso
      have h2 : ¬ oK = 0 := of_decide_eq_false hb1.symm
      have h4 : ¬ 0 < oK := of_decide_eq_false hb2.symm
      have hord0 : st.ord = [] := List.length_eq_zero_iff.1 hnr.symm
      exact hng (mK y) (by rw [← hoK]; omega) hord0
   ·cbv
    repeat first
     | (simp only [t2, t3, e0, ek, ← hp1, ← hp5, ← hp7, e1, t4, t5, is00, is11, is10, is01, qq]; cbv)
     | refine an_Hm50 ?_
    cases b1
    case true =>
     cbv
     obtain ⟨ck, hck⟩ : ∃ z, z = y.c.kind := ⟨_, rfl⟩
     have m0 : A.gi (A.lift (A.cdrop (A.row xs i) 2)) 0 = ck := by rw [hck]; subst hA; simp only [A0, hrow]; rfl
     obtain ⟨ccl, hccl⟩ : ∃ z, z = y.c.client := ⟨_, rfl⟩
     have m1 : A.gi (A.lift (A.cdrop (A.row xs i) 2)) (A.pl 0 1) = ccl := by rw [hccl]; subst hA; simp only [A0, hrow]; rfl
     obtain ⟨csq, hcsq⟩ : ∃ z, z = y.c.seq := ⟨_, rfl⟩
     have m2 : A.gi (A.lift (A.cdrop (A.row xs i) 2)) (A.pl 0 2) = csq := by rw [hcsq]; subst hA; simp only [A0, hrow]; rfl
     obtain ⟨x1, hx1⟩ : ∃ z, z = y.c.key := ⟨_, rfl⟩
     have m3 : A.gs (A.lift (A.cdrop (A.row xs i) 2)) (A.pl 0 3) = x1 := by rw [hx1]; subst hA; simp only [A0, hrow]; rfl
     obtain ⟨x2, hx2⟩ : ∃ z, z = y.c.fin := ⟨_, rfl⟩
     have m4 : A.gs (A.lift (A.cdrop (A.row xs i) 2)) (A.pl 0 4) = x2 := by rw [hx2]; subst hA; simp only [A0, hrow]; rfl
     obtain ⟨x3, hx3⟩ : ∃ z, z = y.c.old := ⟨_, rfl⟩
     have m5 : A.gs (A.lift (A.cdrop (A.row xs i) 2)) (A.pl 0 5) = x3 := by rw [hx3]; subst hA; simp only [A0, hrow]; rfl
     obtain ⟨x4, hx4⟩ : ∃ z, z = y.c.val := ⟨_, rfl⟩
     have m6 : A.gs (A.lift (A.cdrop (A.row xs i) 2)) (A.pl 0 6) = x4 := by rw [hx4]; subst hA; simp only [A0, hrow]; rfl
     have hhc : A.has (A.lift (A.cdrop (A.row xs i) 2)) 0 7 [.d (.sc (.int .i64 (ck))), .d (.sc (.int .i64 (ccl))), .d (.sc (.int .i64 (csq))), .d (.sc (.string (x1))), .d (.sc (.string (x2))), .d (.sc (.string (x3))), .d (.sc (.string (x4)))] := by
      subst hA
      simp only [hck, hccl, hcsq, hx1, hx2, hx3, hx4, A0, hrow]
      exact ⟨rfl, by show 0 + 7 ≤ 9; decide, rfl⟩
     obtain ⟨qK, hqK⟩ : ∃ z, z = st.seq.getD (mK y) 0 := ⟨_, rfl⟩
     have hqb := hmb.sb (mK y)
     rw [← hqK] at hqb
     have hn12b := hmb.n12
     have hqq : st.seq[p1]? = some qK := by
      have h8 : mK y < st.seq.length := by rw [hmb.ls]; exact hk8
      rw [hqK, hp1v, List.getD_eq_getElem?_getD, List.getElem?_eq_getElem h8]
      rfl
     have e3 : A.gi cq p1 = qK := by subst hA; rw [hcq]; exact nums_gi hqq
     have hh3 : A.has cq p1 1 [.d (.sc (.int .i64 qK))] := by subst hA; rw [hcq]; exact nums_has hqq
     obtain ⟨k9, w1⟩ : ∃ t, A.bin .add .i64 kI 1 = t := ⟨_, rfl⟩
     have hk9 : k9 = kI + 1 := by rw [← w1]; subst hA; exact wrap_i64 (by unfold r64; omega)
     obtain ⟨q9, w2⟩ : ∃ t, A.bin .add .i64 qK 1 = t := ⟨_, rfl⟩
     have hq9 : q9 = qK + 1 := by rw [← w2]; subst hA; exact wrap_i64 (by unfold r64; omega)
     obtain ⟨rr, t6⟩ : ∃ t, GFs5.cright ⟨ck, k9, q9, x1, x2, x3, x4⟩ = t := ⟨_, rfl⟩
     have hrr : rr = rightC (mCmd st y) := by
      rw [← t6, hk9, hq9, hkI, hqK, hck, hx1, hx2, hx3, hx4]
      subst hFs5
      rfl
     obtain ⟨z0, t7⟩ : ∃ t, A.cmp .eql ck 0 = t := ⟨_, rfl⟩
     have hz0 : z0 = decide (y.c.kind = 0) := by rw [← t7, hck]; subst hA; rfl
     obtain ⟨bad, t8⟩ : ∃ t, A.cond (A.not rr) true z0 = t := ⟨_, rfl⟩
     have hbad : (rightC (mCmd st y) && !decide (y.c.kind = 0)) = !bad := by rw [← t8, ← hrr, ← hz0]; subst hA; cases rr <;> cases z0 <;> rfl
     cbv at hhc e3 hh3 w1 w2 t6 t7 t8 m0 m1 m2 m3 m4 m5 m6
     repeat first
      | (simp only [e3, w1, w2, t6, t7, t8, m0, m1, m2, m3, m4, m5, m6, t2, t3, e0, ek, ← hp1, ← hp5, ← hp7, e1, t4, t5, is00, is11, is10, is01, qq]; cbv)
      | refine an_Hm50 ?_
     refine regionL [] [] (T := fun _ => tabY [31, 32, 42, 43, 109, 117, 125, 37, 48, 62, 65, 68, 73, 81, 87, 95, 98, 104, 108, 112, 116, 124, 132, 139, 1010, 1015, 1085, 1090, 1093] []) (H := fun _ => [kn_within3 GFsPq, kn_cright GFs5, kn_lcallH GFsHz, kn_lbackH GFsHz, kn_applyR GFsSD]) (B := fun _ => []) (R := fun _ => []) (A := A) (tabY_ok _ _) hH noB_ok noR_ok follows_mixed hA hX (by kernel_rfl) (by kernel_rfl) (by kernel_rfl) ?_
     cbv
     repeat first
      | (simp only [e3, w1, w2, t6, t7, t8, m0, m1, m2, m3, m4, m5, m6, t2, t3, e0, ek, ← hp1, ← hp5, ← hp7, e1, t4, t5, is00, is11, is10, is01, qq]; cbv)
      | refine an_Hm50 ?_
     try simp only [t8]
     cases bad
     case true =>
      cbv
      repeat first
       | (simp only [e3, w1, w2, t6, t7, t8, m0, m1, m2, m3, m4, m5, m6, t2, t3, e0, ek, ← hp1, ← hp5, ← hp7, e1, t4, t5, is00, is11, is10, is01, qq]; cbv)
       | refine an_Hm50 ?_
      have hms : mstep st y = st := by
       unfold mstep
       rw [← hoK, ← hb1, hbad]
       rfl
      subst hA hR
      have wk : IntKind.wrap .i64 (i + 1) = i + 1 := wrap_i64 (by unfold r64; omega)
      replace hlt : i < r := hlt
      replace hr : r = (l.length : Int) := hr
      refine ⟨⟨i + 1, n, co, cq, cc, ct, s, dc, dr, m + 1, q + 1, vo, vr⟩, MXI.next i0 (by omega) hl hdr hmb (by omega) hng hoo hrun ⟨rfl, by rw [hms]; exact ⟨hn, hco, hcq, hcc, hct, hs, hdc, hdr9, hno, hnr⟩⟩, by show r.toNat - (i + 1).toNat < r.toNat - i.toNat; omega, told_keep [0, 1, 2, 3, 4, 5, 6] rfl ?_ ?_⟩
      ·simp [keepSt, pullBox, pullL, pullD, outB2, ordB, pullL_closed _ _ hsi.closed, hco, hcq, hcc, hct, hdc, hdr9, nums_pull, cmdsC_pull, repsC_pull, evsC_pull]
      ·simp [toldP, getS, A0, wk, pullD, outV, ordV, List.idxOf?, List.findIdx?_cons]
     case false =>
      cbv
      obtain ⟨n9, w3⟩ : ∃ t, A.bin .add .i64 n 1 = t := ⟨_, rfl⟩
      have hn9 : n9 = st.n + 1 := by rw [← w3, hn]; subst hA; have := hmb.n0; have := hmb.n12; exact wrap_i64 (by unfold r64; omega)
      obtain ⟨cq9, hcq9⟩ : ∃ z, z = numsD (st.seq.set (mK y) (st.seq.getD (mK y) 0 + 1)) := ⟨_, rfl⟩
      have x11 : A.spl cq p1 [.d (.sc (.int .i64 q9))] = cq9 := by subst hA; rw [hcq9, hcq, hq9, hqK, hp1v]; exact nums_spl (by rw [hmb.ls]; exact hk8) _
      have y11 : A.fits cq p1 1 := by subst hA; show p1 + 1 ≤ cq.length; rw [hcq, hp1v]; simp only [numsD, List.length_map, hmb.ls]; omega
      obtain ⟨co9, hco9⟩ : ∃ z, z = numsD (st.opn.set (mK y) (st.n + 1)) := ⟨_, rfl⟩
      have x12 : A.spl co p1 [.d (.sc (.int .i64 n9))] = co9 := by subst hA; rw [hco9, hco, hn9, hp1v]; exact nums_spl (by rw [hmb.lo]; exact hk8) _
      have y12 : A.fits co p1 1 := by subst hA; show p1 + 1 ≤ co.length; rw [hco, hp1v]; simp only [numsD, List.length_map, hmb.lo]; omega
      obtain ⟨cc9, hcc9⟩ : ∃ z, z = flatC cmdC (st.cmds.set (mK y) (mCmd st y)) := ⟨_, rfl⟩
      have x13 : A.spl cc p7 [.d (.sc (.int .i64 (ck))), .d (.sc (.int .i64 (k9))), .d (.sc (.int .i64 (q9))), .d (.sc (.string (x1))), .d (.sc (.string (x2))), .d (.sc (.string (x3))), .d (.sc (.string (x4)))] = cc9 := by
       subst hA
       rw [hcc9, hcc, hp7v, hk9, hq9, hkI, hqK, hck, hx1, hx2, hx3, hx4]
       exact flatC_spl cmdC_len (by rw [hmb.lc]; exact hk8) (mCmd st y)
      have y13 : A.fits cc p7 7 := by subst hA; show p7 + 7 ≤ cc.length; rw [hcc, hp7v, flatC_len cmdC_len, hmb.lc]; omega
      obtain ⟨h9, t9⟩ : ∃ t, GFsHz.lcallH ⟨ck, k9, q9, x1, x2, x3, x4⟩ = t := ⟨_, rfl⟩
      have hh9 : h9 = (evC (mCmd st y)).op := by
       rw [← t9, hk9, hq9, hkI, hqK, hck, hx1, hx2, hx3, hx4]
       subst hFsHz
       rfl
      rcases h9 with ⟨a1, a2, a3, a4, a5, a6, a7, a8, a9, a10, a11, a12, a13, a14⟩
      have hfull : A.full dc (m + 1) 14 := by subst hA; show dc.length = (m + 1) * 14; rw [hdc, evsC_len, ← hno]
      have hisl : A.isl (m + 1) 1 168 := by subst hA; have := hmb.len; exact ⟨by omega, by omega⟩
      obtain ⟨dc9, hdc9⟩ : ∃ z, z = evsC (st.out ++ [evC (mCmd st y)]) := ⟨_, rfl⟩
      have hrw9 : [.d (.sc (.int .i64 a1)), .d (.sc (.int .i64 a2)), .d (.sc (.int .i64 a3)), .d (.sc (.int .i64 a4)), .d (.sc (.int .i64 a5)), .d (.sc (.string a6)), .d (.sc (.string a7)), .d (.sc (.string a8)), .d (.sc (.string a9)), .d (.sc (.int .i64 a10)), .d (.sc (.bool a11)), .d (.sc (.string a12)), .d (.sc (.int .i64 a13)), .d (.slc 3 a14)] = (evC (mCmd st y)).cells := by
       have := congrArg HOp.D hh9
       rw [Ev.op_D] at this
       exact DV.agg.inj this
      have x14 : A.app dc (A.tk [.d (.sc (.int .i64 a1)), .d (.sc (.int .i64 a2)), .d (.sc (.int .i64 a3)), .d (.sc (.int .i64 a4)), .d (.sc (.int .i64 a5)), .d (.sc (.string a6)), .d (.sc (.string a7)), .d (.sc (.string a8)), .d (.sc (.string a9)), .d (.sc (.int .i64 a10)), .d (.sc (.bool a11)), .d (.sc (.string a12)), .d (.sc (.int .i64 a13)), .d (.slc 3 a14)] 0 1 14) = dc9 := by subst hA; rw [hdc9, evsC_app, ← hrw9, hdc]; rfl
      cbv at w3 x11 y11 x12 y12 x13 y13 t9 hfull hisl x14
      repeat first
       | (simp only [w3, x11, x12, x13, x14, t9, e3, w1, w2, t6, t7, t8, m0, m1, m2, m3, m4, m5, m6, t2, t3, e0, ek, ← hp1, ← hp5, ← hp7, e1, t4, t5, is00, is11, is10, is01, qq]; cbv)
       | refine an_Hm50 ?_
      have hms : mstep st y = mCall st y := by
       unfold mstep
       rw [← hoK, ← hb1, hbad]
       rfl
      subst hA hR
      have wk : IntKind.wrap .i64 (i + 1) = i + 1 := wrap_i64 (by unfold r64; omega)
      replace hlt : i < r := hlt
      replace hr : r = (l.length : Int) := hr
      refine ⟨⟨i + 1, n9, co9, cq9, cc9, ct, s, dc9, dr, m + 2, q + 1, vo + 1, vr⟩, MXI.next i0 (by omega) hl hdr hmb (by omega) hng hoo hrun ⟨rfl, by rw [hms]; exact ⟨hn9, hco9, hcq9, hcc9, hct, hs, hdc9, hdr9, by show _ = (st.out ++ [_]).length; rw [List.length_append, ← hno]; rfl, hnr⟩⟩, by show r.toNat - (i + 1).toNat < r.toNat - i.toNat; omega, told_keep [0, 1, 2, 3, 4, 5, 6] rfl ?_ ?_⟩
      ·simp [keepSt, pullBox, pullL, pullD, outB2, ordB, A0, hcq9, hco9, hcc9, hdc9, pullL_closed _ _ hsi.closed, hco, hcq, hcc, hct, hdc, hdr9, nums_pull, cmdsC_pull, repsC_pull, evsC_pull]
      ·simp [toldP, getS, A0, wk, pullD, outV, ordV, List.idxOf?, List.findIdx?_cons]
    case false =>
     cbv
     repeat first
      | (simp only [t2, t3, e0, ek, ← hp1, ← hp5, ← hp7, e1, t4, t5, is00, is11, is10, is01, qq]; cbv)
      | refine an_Hm50 ?_
     cases b2
     case true =>
      cbv
      have h8c : mK y < st.cmds.length := by rw [hmb.lc]; exact hk8
      obtain ⟨kc, hkc⟩ : ∃ z, z = st.cmds.getD (mK y) .zero := ⟨_, rfl⟩
      have hkc2 : st.cmds[mK y] = kc := by rw [hkc, List.getD_eq_getElem?_getD, List.getElem?_eq_getElem h8c]; rfl
      have gcc : ∀ j, j < 7 → cc[p7 + j]? = (cmdC kc)[j]? := fun j hj => by rw [hcc, hp7v, flatC_get cmdC_len h8c hj, hkc2]
      have hc7 : A.has cc p7 7 (cmdC kc) := by
       subst hA
       refine ⟨rfl, by show p7 + 7 ≤ cc.length; rw [hcc, hp7v, flatC_len cmdC_len, hmb.lc]; omega, ?_⟩
       rw [hcc, hp7v, flatC_take cmdC_len h8c, hkc2]
      have gc0 := gcc 0 (by omega)
      have gc1 := gcc 1 (by omega)
      have gc2 := gcc 2 (by omega)
      have gc3 := gcc 3 (by omega)
      have gc4 := gcc 4 (by omega)
      have gc5 := gcc 5 (by omega)
      have gc6 := gcc 6 (by omega)
      obtain ⟨v1, v2, v3, v4, v5, v6, v7⟩ := kc
      have c0 : A.gi cc p7 = v1 := by subst hA; show A0.gi cc p7 = v1; simp only [A0, show cc[p7]? = _ from gc0]; rfl
      have c1 : A.gi cc (A.pl p7 1) = v2 := by subst hA; simp only [A0, gc1]; rfl
      have c2 : A.gi cc (A.pl p7 2) = v3 := by subst hA; simp only [A0, gc2]; rfl
      have c3 : A.gs cc (A.pl p7 3) = v4 := by subst hA; simp only [A0, gc3]; rfl
      have c4 : A.gs cc (A.pl p7 4) = v5 := by subst hA; simp only [A0, gc4]; rfl
      have c5 : A.gs cc (A.pl p7 5) = v6 := by subst hA; simp only [A0, gc5]; rfl
      have c6 : A.gs cc (A.pl p7 6) = v7 := by subst hA; simp only [A0, gc6]; rfl
      have hc7 : A.has cc p7 7 [.d (.sc (.int .i64 (v1))), .d (.sc (.int .i64 (v2))), .d (.sc (.int .i64 (v3))), .d (.sc (.string (v4))), .d (.sc (.string (v5))), .d (.sc (.string (v6))), .d (.sc (.string (v7)))] := hc7
      cbv at c0 c1 c2 c3 c4 c5 c6 hc7
      have hsl : s.length = 49 := hsi.len
      have etk : A.tk s 0 1 49 = s := by
       subst hA
       show (s.drop 0).take (1 * 49) = s
       rw [List.drop_zero, List.take_of_length_le (by omega)]
      have hfv : A.fitv s 0 1 49 := by subst hA; show 0 + 1 * 49 ≤ s.length; omega
      obtain ⟨ap9, hap⟩ : ∃ z, z = applyS s ⟨v1, v2, v3, v4, v5, v6, v7⟩ := ⟨_, rfl⟩
      have eap : GFsSD.applyR s ⟨v1, v2, v3, v4, v5, v6, v7⟩ = ap9 := by rw [hap]; subst hFsSD; rfl
      have e6 : GFsSD.isSt s := by subst hFsSD; exact hsi
      obtain ⟨j9, j90, j91, j92⟩ := hmb.ok
      rw [← hs] at j92
      have hi62 : j9 ≤ 4611686018427387904 := by omega
      have hs9 := j92.app j90 hi62 ⟨v1, v2, v3, v4, v5, v6, v7⟩
      have hpr9 := j92.rep j90 hi62 ⟨v1, v2, v3, v4, v5, v6, v7⟩
      rw [← hap] at hs9 hpr9
      obtain ⟨s9, w9, fd9, vl9, vr9, pr9⟩ := ap9
      replace hs9 : isSt s9 := hs9.is
      replace hpr9 : isP pr9 := hpr9
      have h9l : s9.length = 49 := hs9.len
      have espl : ∀ Z : List DV, Z.length = 49 → A.spl Z 0 s9 = s9 := fun Z hZ => by
       subst hA
       show splice Z 0 s9 = s9
       simp [splice, hZ, h9l]
      have es9 : A.spl s 0 s9 = s9 := by
       subst hA
       show splice s 0 s9 = s9
       simp [splice, hsl, h9l]
      have hful : A.full s9 49 1 := by subst hA; show s9.length = 49 * 1; omega
      have hfs : A.fits s 0 49 := by subst hA; show 0 + 49 ≤ s.length; omega
      have etk9 : A.tk s9 0 1 49 = s9 := by
       subst hA
       show (s9.drop 0).take (1 * 49) = s9
       rw [List.drop_zero, List.take_of_length_le (by omega)]
      have hfv9 : A.fitv s9 0 1 49 := by subst hA; show 0 + 1 * 49 ≤ s9.length; omega
      obtain ⟨ct9, hct9⟩ : ∃ z, z = flatC repC5 (st.told.set (mK y) ⟨w9, fd9, vl9, vr9, pr9⟩) := ⟨_, rfl⟩
      have x15 : A.spl ct p5 [.d (.sc (.int .i64 w9)), .d (.sc (.bool fd9)), .d (.sc (.string vl9)), .d (.sc (.int .i64 vr9)), .d (.slc 3 pr9)] = ct9 := by
       subst hA
       rw [hct9, hct, hp5v]
       exact flatC_spl repC5_len (by rw [hmb.lt]; exact hk8) ⟨w9, fd9, vl9, vr9, pr9⟩
      have y15 : A.fits ct p5 5 := by subst hA; show p5 + 5 ≤ ct.length; rw [hct, hp5v, flatC_len repC5_len, hmb.lt]; omega
      obtain ⟨o9, w4⟩ : ∃ t, A.bin .sub .i64 oK 1 = t := ⟨_, rfl⟩
      have hob := hmb.ob (mK y)
      rw [← hoK] at hob
      have hn12b := hmb.n12
      have ho9 : o9 = oK - 1 := by rw [← w4]; subst hA; exact wrap_i64 (by unfold r64; omega)
      obtain ⟨co9, hco9⟩ : ∃ z, z = numsD (st.opn.set (mK y) (-1)) := ⟨_, rfl⟩
      have x12 : A.spl co p1 [.d (.sc (.int .i64 (-1)))] = co9 := by subst hA; rw [hco9, hco, hp1v]; exact nums_spl (by rw [hmb.lo]; exact hk8) _
      have y12 : A.fits co p1 1 := by subst hA; show p1 + 1 ≤ co.length; rw [hco, hp1v]; simp only [numsD, List.length_map, hmb.lo]; omega
      obtain ⟨dr9, hdr99⟩ : ∃ z, z = numsD (st.ord ++ [oK - 1]) := ⟨_, rfl⟩
      have hfull2 : A.full dr (q + 1) 1 := by subst hA; show dr.length = (q + 1) * 1; rw [hdr9]; simp only [numsD, List.length_map]; omega
      have hisl2 : A.isl (q + 1) 1 8 := by subst hA; have := hmb.oln; exact ⟨by omega, by omega⟩
      have x16 : A.app dr (A.tk [.d (.sc (.int .i64 o9))] 0 1 1) = dr9 := by subst hA; rw [hdr99, ho9, hdr9]; simp [A0, numsD]
      cbv at etk hfv eap e6 es9 hful hfs etk9 hfv9 x15 y15 w4 x12 y12 hfull2 hisl2 x16
      repeat first
       | (simp only [etk, eap, es9, etk9, x15, w4, x12, t5, x16, c0, c1, c2, c3, c4, c5, c6, t2, t3, e0, ek, ← hp1, ← hp5, ← hp7, e1, t4, t5, is00, is11, is10, is01, qq]; cbv)
       | refine an_Hm50 ?_
      refine stepPl hX [(0, .d (.slc 11 xs)), (4, .view 14 5 vo 0 (m + 1)), (5, .view 1 6 vr 0 (q + 1)), (6, .ref 0 0 0), (7, .ref 1 0 0), (8, .ref 2 0 0), (9, .ref 3 0 0), (10, .ref 4 0 0), (11, .d (.sc (.int .i64 (n)))), (12, .d (.sc (.int .i64 (i)))), (13, .d (.sc (.int .i64 kI))), (15, .ref 7 0 0), (16, .ref 8 0 0)] ([⟨77, co, false, 0, true⟩, ⟨77, cq, false, 0, true⟩, ⟨91, cc, false, 0, true⟩, ⟨92, ct, false, 0, true⟩, ⟨32, s, false, 0, true⟩, ⟨50, dc, true, vo, true⟩, ⟨3, dr, true, vr, true⟩] ++ [⟨32, s9, false, 0, true⟩, ⟨27, [.d (.sc (.int .i64 w9)), .d (.sc (.bool fd9)), .d (.sc (.string vl9)), .d (.sc (.int .i64 vr9)), .d (.slc 3 pr9)], false, 0, true⟩]) (fun R9 hR9 => ?_) ?_
      ·refine regionS [] (.node 8 9 (.leaf [0, 1, 2, 3, 4, 5, 6, 7, 8, 9, 10, 11] []) (.leaf [0, 1, 2, 3, 4, 5, 6, 7, 9, 8, 10, 11] [])) (T := fun _ => tabY [31, 32, 42, 43, 109, 117, 125, 37, 48, 62, 65, 68, 73, 81, 87, 95, 98, 104, 108, 112, 116, 124, 132, 139, 1010, 1015, 1085, 1090, 1093] []) (H := fun _ => [kn_within3 GFsPq, kn_cright GFs5, kn_lcallH GFsHz, kn_lbackH GFsHz, kn_applyR GFsSD]) (B := fun _ => []) (R := fun _ => []) (A := A) (tabY_ok _ _) hH noB_ok noR_ok follows_mixed hA hX ?_
       refine ⟨by decide, ⟨by decide, by kernel_rfl, by kernel_rfl, by kernel_rfl, ?_⟩, ⟨by decide, by kernel_rfl, by kernel_rfl, by kernel_rfl, ?_⟩⟩
       ·cbv
        repeat first
         | (simp only [etk, eap, es9, etk9, x15, w4, x12, t5, x16, c0, c1, c2, c3, c4, c5, c6, t2, t3, e0, ek, ← hp1, ← hp5, ← hp7, e1, t4, t5, is00, is11, is10, is01, qq]; cbv)
         | refine an_Hm50 ?_
        refine hR9 _ _ ?_
        exact told_eqM (congrArg (fun z : List DV => (([⟨77, co, false, 0, true⟩, ⟨77, cq, false, 0, true⟩, ⟨91, cc, false, 0, true⟩, ⟨92, ct, false, 0, true⟩, ⟨32, s, false, 0, true⟩, ⟨50, dc, true, vo, true⟩, ⟨3, dr, true, vr, true⟩] ++ [⟨32, z, false, 0, true⟩, ⟨27, [.d (.sc (.int .i64 w9)), .d (.sc (.bool fd9)), .d (.sc (.string vl9)), .d (.sc (.int .i64 vr9)), .d (.slc 3 pr9)], false, 0, true⟩]) : Store)) (espl _ rfl)) (by simp [toldP, getS])
       ·cbv
        repeat first
         | (simp only [etk, eap, es9, etk9, x15, w4, x12, t5, x16, c0, c1, c2, c3, c4, c5, c6, t2, t3, e0, ek, ← hp1, ← hp5, ← hp7, e1, t4, t5, is00, is11, is10, is01, qq]; cbv)
         | refine an_Hm50 ?_
        refine hR9 _ _ ?_
        refine Told.trans (s' := [(0, .d (.slc 11 xs)), (4, .view 14 5 vo 0 (m + 1)), (5, .view 1 6 vr 0 (q + 1)), (6, .ref 0 0 0), (7, .ref 1 0 0), (8, .ref 2 0 0), (9, .ref 3 0 0), (10, .ref 4 0 0), (11, .d (.sc (.int .i64 (n)))), (12, .d (.sc (.int .i64 (i)))), (13, .d (.sc (.int .i64 kI))), (15, .ref 8 0 0), (16, .ref 7 0 0)]) (st' := ([⟨77, co, false, 0, true⟩, ⟨77, cq, false, 0, true⟩, ⟨91, cc, false, 0, true⟩, ⟨92, ct, false, 0, true⟩, ⟨32, s, false, 0, true⟩, ⟨50, dc, true, vo, true⟩, ⟨3, dr, true, vr, true⟩] ++ [⟨27, [.d (.sc (.int .i64 w9)), .d (.sc (.bool fd9)), .d (.sc (.string vl9)), .d (.sc (.int .i64 vr9)), .d (.slc 3 pr9)], false, 0, true⟩, ⟨32, s9, false, 0, true⟩] : Store)) (told_eqM (congrArg (fun z : List DV => (([⟨77, co, false, 0, true⟩, ⟨77, cq, false, 0, true⟩, ⟨91, cc, false, 0, true⟩, ⟨92, ct, false, 0, true⟩, ⟨32, s, false, 0, true⟩, ⟨50, dc, true, vo, true⟩, ⟨3, dr, true, vr, true⟩] ++ [⟨27, [.d (.sc (.int .i64 w9)), .d (.sc (.bool fd9)), .d (.sc (.string vl9)), .d (.sc (.int .i64 vr9)), .d (.slc 3 pr9)], false, 0, true⟩, ⟨32, z, false, 0, true⟩]) : Store)) (espl _ rfl)) (by simp [toldP, getS])) ?_
        refine told_keep [0, 1, 2, 3, 4, 5, 6, 8, 7] rfl ?_ ?_
        ·simp [keepSt, pullBox, pullL, pullD, pullL_closed _ _ hsi.closed, pullL_closed _ _ hs9.closed, hco, hcq, hcc, hct, hdc, hdr9, nums_pull, cmdsC_pull, repsC_pull, evsC_pull]
        ·simp [toldP, getS, pullD, List.idxOf?, List.findIdx?_cons]
      ·cbv
       repeat first
        | (simp only [etk, eap, es9, etk9, x15, w4, x12, t5, x16, c0, c1, c2, c3, c4, c5, c6, t2, t3, e0, ek, ← hp1, ← hp5, ← hp7, e1, t4, t5, is00, is11, is10, is01, qq]; cbv)
        | refine an_Hm50 ?_
       refine regionL [] [] (T := fun _ => tabY [31, 32, 42, 43, 109, 117, 125, 37, 48, 62, 65, 68, 73, 81, 87, 95, 98, 104, 108, 112, 116, 124, 132, 139, 1010, 1015, 1085, 1090, 1093] []) (H := fun _ => [kn_within3 GFsPq, kn_cright GFs5, kn_lcallH GFsHz, kn_lbackH GFsHz, kn_applyR GFsSD]) (B := fun _ => []) (R := fun _ => []) (A := A) (tabY_ok _ _) hH noB_ok noR_ok follows_mixed hA hX (by kernel_rfl) (by kernel_rfl) (by kernel_rfl) ?_
       cbv
       repeat first
        | (simp only [etk, eap, es9, etk9, x15, w4, x12, t5, x16, c0, c1, c2, c3, c4, c5, c6, t2, t3, e0, ek, ← hp1, ← hp5, ← hp7, e1, t4, t5, is00, is11, is10, is01, qq]; cbv)
        | refine an_Hm50 ?_
       have hms : mstep st y = mDo st y := by
        unfold mstep
        rw [← hoK, ← hb1, ← hb2]
        rfl
       subst hA hR
       have wk : IntKind.wrap .i64 (i + 1) = i + 1 := wrap_i64 (by unfold r64; omega)
       replace hlt : i < r := hlt
       replace hr : r = (l.length : Int) := hr
       refine ⟨⟨i + 1, n, co9, cq, cc, ct9, s9, dc, dr9, m + 1, q + 2, vo, vr + 1⟩, MXI.next i0 (by omega) hl hdr hmb (by omega) hng hoo hrun ⟨rfl, by rw [hms]; exact ⟨hn, hco9, hcq, hcc, by rw [hct9]; show _ = flatC repC5 (st.told.set (mK y) (applyS st.s (st.cmds.getD (mK y) .zero)).2); rw [← hkc, ← hs, ← hap], by show s9 = (applyS st.s (st.cmds.getD (mK y) .zero)).1; rw [← hkc, ← hs, ← hap], hdc, by rw [hdr99, hoK]; rfl, hno, by show _ = (st.ord ++ [_]).length; rw [List.length_append, ← hnr]; rfl⟩⟩, by show r.toNat - (i + 1).toNat < r.toNat - i.toNat; omega, told_keep [0, 1, 2, 3, 4, 5, 6] rfl ?_ ?_⟩
       ·simp [keepSt, pullBox, pullL, pullD, outB2, ordB, A0, hco9, hct9, hdr99, pullL_closed _ _ hs9.closed, pullL_closed _ _ hsi.closed, hco, hcq, hcc, hct, hdc, hdr9, nums_pull, cmdsC_pull, repsC_pull, evsC_pull]
       ·simp [toldP, getS, A0, wk, pullD, outV, ordV, List.idxOf?, List.findIdx?_cons]
     case false =>
      cbv
      have h8c : mK y < st.cmds.length := by rw [hmb.lc]; exact hk8
      obtain ⟨kc, hkc⟩ : ∃ z, z = st.cmds.getD (mK y) .zero := ⟨_, rfl⟩
      have hkc2 : st.cmds[mK y] = kc := by rw [hkc, List.getD_eq_getElem?_getD, List.getElem?_eq_getElem h8c]; rfl
      have gcc : ∀ j, j < 7 → cc[p7 + j]? = (cmdC kc)[j]? := fun j hj => by rw [hcc, hp7v, flatC_get cmdC_len h8c hj, hkc2]
      have hc7 : A.has cc p7 7 (cmdC kc) := by
       subst hA
       refine ⟨rfl, by show p7 + 7 ≤ cc.length; rw [hcc, hp7v, flatC_len cmdC_len, hmb.lc]; omega, ?_⟩
       rw [hcc, hp7v, flatC_take cmdC_len h8c, hkc2]
      have gc0 := gcc 0 (by omega)
      have gc1 := gcc 1 (by omega)
      have gc2 := gcc 2 (by omega)
      have gc3 := gcc 3 (by omega)
      have gc4 := gcc 4 (by omega)
      have gc5 := gcc 5 (by omega)
      have gc6 := gcc 6 (by omega)
      obtain ⟨v1, v2, v3, v4, v5, v6, v7⟩ := kc
      have c0 : A.gi cc p7 = v1 := by subst hA; show A0.gi cc p7 = v1; simp only [A0, show cc[p7]? = _ from gc0]; rfl
      have c1 : A.gi cc (A.pl p7 1) = v2 := by subst hA; simp only [A0, gc1]; rfl
      have c2 : A.gi cc (A.pl p7 2) = v3 := by subst hA; simp only [A0, gc2]; rfl
      have c3 : A.gs cc (A.pl p7 3) = v4 := by subst hA; simp only [A0, gc3]; rfl
      have c4 : A.gs cc (A.pl p7 4) = v5 := by subst hA; simp only [A0, gc4]; rfl
      have c5 : A.gs cc (A.pl p7 5) = v6 := by subst hA; simp only [A0, gc5]; rfl
      have c6 : A.gs cc (A.pl p7 6) = v7 := by subst hA; simp only [A0, gc6]; rfl
      have hc7 : A.has cc p7 7 [.d (.sc (.int .i64 (v1))), .d (.sc (.int .i64 (v2))), .d (.sc (.int .i64 (v3))), .d (.sc (.string (v4))), .d (.sc (.string (v5))), .d (.sc (.string (v6))), .d (.sc (.string (v7)))] := hc7
      cbv at c0 c1 c2 c3 c4 c5 c6 hc7
      obtain ⟨yr, hyr2⟩ : ∃ z, z = y.ret := ⟨_, rfl⟩
      have e7 : A.gb (A.lift (A.cdrop (A.row xs i) 9)) 0 = yr := by rw [hyr2]; subst hA; simp only [A0, hrow]; rfl
      have hh7 : A.has (A.lift (A.cdrop (A.row xs i) 9)) 0 1 [.d (.sc (.bool yr))] := by rw [hyr2]; subst hA; simp only [A0, hrow]; exact ⟨rfl, by show 0 + 1 ≤ 2; decide, rfl⟩
      obtain ⟨yl, hyl2⟩ : ∃ z, z = y.lie := ⟨_, rfl⟩
      have e8 : A.gb (A.lift (A.cdrop (A.row xs i) 10)) 0 = yl := by rw [hyl2]; subst hA; simp only [A0, hrow]; rfl
      have hh8 : A.has (A.lift (A.cdrop (A.row xs i) 10)) 0 1 [.d (.sc (.bool yl))] := by rw [hyl2]; subst hA; simp only [A0, hrow]; exact ⟨rfl, by show 0 + 1 ≤ 1; decide, rfl⟩
      obtain ⟨yw, hyw2⟩ : ∃ z, z = y.wait := ⟨_, rfl⟩
      have e10 : A.gi (A.lift (A.cdrop (A.row xs i) 1)) 0 = yw := by rw [hyw2]; subst hA; simp only [A0, hrow]; rfl
      have hh10 : A.has (A.lift (A.cdrop (A.row xs i) 1)) 0 1 [.d (.sc (.int .i64 yw))] := by rw [hyw2]; subst hA; simp only [A0, hrow]; exact ⟨rfl, by show 0 + 1 ≤ 10; decide, rfl⟩
      have h8t : mK y < st.told.length := by rw [hmb.lt]; exact hk8
      have hrc2 : st.told[mK y] = st.told.getD (mK y) zeroRep := by rw [List.getD_eq_getElem?_getD, List.getElem?_eq_getElem h8t]; rfl
      have hmr : mRep st y = ⟨(st.told.getD (mK y) zeroRep).why, (st.told.getD (mK y) zeroRep).found, (st.told.getD (mK y) zeroRep).value, lieV y (st.told.getD (mK y) zeroRep).version, (st.told.getD (mK y) zeroRep).pairs⟩ := rfl
      obtain ⟨rc, hrc⟩ : ∃ z, z = st.told.getD (mK y) zeroRep := ⟨_, rfl⟩
      rw [← hrc] at hrc2 hmr
      have gct : ∀ j, j < 5 → ct[p5 + j]? = (repC5 rc)[j]? := fun j hj => by rw [hct, hp5v, flatC_get repC5_len h8t hj, hrc2]
      have hr5 : A.has ct p5 5 (repC5 rc) := by
       subst hA
       refine ⟨rfl, by show p5 + 5 ≤ ct.length; rw [hct, hp5v, flatC_len repC5_len, hmb.lt]; omega, ?_⟩
       rw [hct, hp5v, flatC_take repC5_len h8t, hrc2]
      have gr0 := gct 0 (by omega)
      have gr1 := gct 1 (by omega)
      have gr2 := gct 2 (by omega)
      have gr3 := gct 3 (by omega)
      have gr4 := gct 4 (by omega)
      have hrcp : isP rc.pairs := by rw [hrc]; exact hmb.told _
      obtain ⟨u1, u2, u3, u4, u5⟩ := rc
      have d0 : A.gi ct p5 = u1 := by subst hA; show A0.gi ct p5 = u1; simp only [A0, show ct[p5]? = _ from gr0]; rfl
      have d1 : A.gb ct (A.pl p5 1) = u2 := by subst hA; simp only [A0, gr1]; rfl
      have d2 : A.gs ct (A.pl p5 2) = u3 := by subst hA; simp only [A0, gr2]; rfl
      have d3 : A.gi ct (A.pl p5 3) = u4 := by subst hA; simp only [A0, gr3]; rfl
      have d4 : A.gl ct (A.pl p5 4) = u5 := by subst hA; simp only [A0, gr4]; rfl
      have hr5 : A.has ct p5 5 [.d (.sc (.int .i64 u1)), .d (.sc (.bool u2)), .d (.sc (.string u3)), .d (.sc (.int .i64 u4)), .d (.slc 3 u5)] := hr5
      obtain ⟨g1, w5⟩ : ∃ t, A.bin .add .i64 u4 1 = t := ⟨_, rfl⟩
      obtain ⟨g2, w6⟩ : ∃ t, A.bin .and .i64 yw 1 = t := ⟨_, rfl⟩
      obtain ⟨u9, w7⟩ : ∃ t, A.bin .add .i64 g1 g2 = t := ⟨_, rfl⟩
      have hu9 : lieV y u4 = bif yl then u9 else u4 := by
       unfold lieV
       rw [← hyl2, ← w7, ← w6, ← w5, hyw2]
       subst hA
       rfl
      obtain ⟨co9, hco9⟩ : ∃ z, z = numsD (st.opn.set (mK y) 0) := ⟨_, rfl⟩
      have x12 : A.spl co p1 [.d (.sc (.int .i64 0))] = co9 := by subst hA; rw [hco9, hco, hp1v]; exact nums_spl (by rw [hmb.lo]; exact hk8) _
      have y12 : A.fits co p1 1 := by subst hA; show p1 + 1 ≤ co.length; rw [hco, hp1v]; simp only [numsD, List.length_map, hmb.lo]; omega
      have hfull : A.full dc (m + 1) 14 := by subst hA; show dc.length = (m + 1) * 14; rw [hdc, evsC_len, ← hno]
      have hisl : A.isl (m + 1) 1 168 := by subst hA; have := hmb.len; exact ⟨by omega, by omega⟩
      have hpr1 : GFsHz.isP u5 := by subst hFsHz; exact hrcp
      cbv at e7 hh7 e8 hh8 e10 hh10 d0 d1 d2 d3 d4 hr5 w5 w6 w7 x12 y12 hfull hisl hpr1
      repeat first
       | (simp only [e7, e8, e10, w5, w6, w7, x12, t5, d0, d1, d2, d3, d4, c0, c1, c2, c3, c4, c5, c6, t2, t3, e0, ek, ← hp1, ← hp5, ← hp7, e1, t4, t5, is00, is11, is10, is01, qq]; cbv)
       | refine an_Hm50 ?_
      cases yr
      case false =>
       cbv
       repeat first
        | (simp only [e7, e8, e10, w5, w6, w7, x12, t5, d0, d1, d2, d3, d4, c0, c1, c2, c3, c4, c5, c6, t2, t3, e0, ek, ← hp1, ← hp5, ← hp7, e1, t4, t5, is00, is11, is10, is01, qq]; cbv)
        | refine an_Hm50 ?_
       have hms : mstep st y = st := by
        unfold mstep
        rw [← hoK, ← hb1, ← hb2, ← hyr2]
        rfl
       subst hA hR
       have wk : IntKind.wrap .i64 (i + 1) = i + 1 := wrap_i64 (by unfold r64; omega)
       replace hlt : i < r := hlt
       replace hr : r = (l.length : Int) := hr
       refine ⟨⟨i + 1, n, co, cq, cc, ct, s, dc, dr, m + 1, q + 1, vo, vr⟩, MXI.next i0 (by omega) hl hdr hmb (by omega) hng hoo hrun ⟨rfl, by rw [hms]; exact ⟨hn, hco, hcq, hcc, hct, hs, hdc, hdr9, hno, hnr⟩⟩, by show r.toNat - (i + 1).toNat < r.toNat - i.toNat; omega, told_keep [0, 1, 2, 3, 4, 5, 6] rfl ?_ ?_⟩
       ·simp [keepSt, pullBox, pullL, pullD, outB2, ordB, pullL_closed _ _ hsi.closed, hco, hcq, hcc, hct, hdc, hdr9, nums_pull, cmdsC_pull, repsC_pull, evsC_pull]
       ·simp [toldP, getS, A0, wk, pullD, outV, ordV, List.idxOf?, List.findIdx?_cons]
      case true =>
       cbv
       repeat first
        | (simp only [e7, e8, e10, w5, w6, w7, x12, t5, d0, d1, d2, d3, d4, c0, c1, c2, c3, c4, c5, c6, t2, t3, e0, ek, ← hp1, ← hp5, ← hp7, e1, t4, t5, is00, is11, is10, is01, qq]; cbv)
        | refine an_Hm50 ?_
       cases yl
       case true =>
         cbv
         repeat first
          | (simp only [e7, e8, e10, w5, w6, w7, x12, t5, d0, d1, d2, d3, d4, c0, c1, c2, c3, c4, c5, c6, t2, t3, e0, ek, ← hp1, ← hp5, ← hp7, e1, t4, t5, is00, is11, is10, is01, qq]; cbv)
          | refine an_Hm50 ?_
         ((with_reducible refine regionU (id := 30) [] [] [50, 0, 50, 50, 50, 50, 50, 50, 50, 50, 50, 50] (T := fun _ => tabY [31, 32, 42, 43, 109, 117, 125, 37, 48, 62, 65, 68, 73, 81, 87, 95, 98, 104, 108, 112, 116, 124, 132, 139, 1010, 1015, 1085, 1090, 1093] []) (H := fun _ => [kn_within3 GFsPq, kn_cright GFs5, kn_lcallH GFsHz, kn_lbackH GFsHz, kn_applyR GFsSD]) (B := fun _ => []) (R := fun _ => []) (A := A) (tabY_ok _ _) hH noB_ok noR_ok follows_mixed hA hX (by kernel_rfl) (by kernel_rfl) (by kernel_rfl) (by kernel_rfl) (by kernel_rfl) ?_) <;> cbv)
         repeat first
          | (simp only [e7, e8, e10, w5, w6, w7, x12, t5, d0, d1, d2, d3, d4, c0, c1, c2, c3, c4, c5, c6, t2, t3, e0, ek, ← hp1, ← hp5, ← hp7, e1, t4, t5, is00, is11, is10, is01, qq]; cbv)
          | refine an_Hm50 ?_
         obtain ⟨h9, t9⟩ : ∃ t, GFsHz.lbackH ⟨v1, v2, v3, v4, v5, v6, v7⟩ ⟨u1, u2, u3, u9, u5⟩ = t := ⟨_, rfl⟩
         have hh9 : h9 = (evR (st.cmds.getD (mK y) .zero) (mRep st y)).op := by
          rw [← t9, hmr, hu9, ← hkc]
          subst hFsHz
          rfl
         rcases h9 with ⟨a1, a2, a3, a4, a5, a6, a7, a8, a9, a10, a11, a12, a13, a14⟩
         obtain ⟨dc9, hdc9⟩ : ∃ z, z = evsC (st.out ++ [evR (st.cmds.getD (mK y) .zero) (mRep st y)]) := ⟨_, rfl⟩
         have hrw9 : [.d (.sc (.int .i64 a1)), .d (.sc (.int .i64 a2)), .d (.sc (.int .i64 a3)), .d (.sc (.int .i64 a4)), .d (.sc (.int .i64 a5)), .d (.sc (.string a6)), .d (.sc (.string a7)), .d (.sc (.string a8)), .d (.sc (.string a9)), .d (.sc (.int .i64 a10)), .d (.sc (.bool a11)), .d (.sc (.string a12)), .d (.sc (.int .i64 a13)), .d (.slc 3 a14)] = (evR (st.cmds.getD (mK y) .zero) (mRep st y)).cells := by
          have := congrArg HOp.D hh9
          rw [Ev.op_D] at this
          exact DV.agg.inj this
         have x14 : A.app dc (A.tk [.d (.sc (.int .i64 a1)), .d (.sc (.int .i64 a2)), .d (.sc (.int .i64 a3)), .d (.sc (.int .i64 a4)), .d (.sc (.int .i64 a5)), .d (.sc (.string a6)), .d (.sc (.string a7)), .d (.sc (.string a8)), .d (.sc (.string a9)), .d (.sc (.int .i64 a10)), .d (.sc (.bool a11)), .d (.sc (.string a12)), .d (.sc (.int .i64 a13)), .d (.slc 3 a14)] 0 1 14) = dc9 := by subst hA; rw [hdc9, evsC_app, ← hrw9, hdc]; rfl
         cbv at t9 x14
         cbv
         repeat first
          | (simp only [t9, x14, e7, e8, e10, w5, w6, w7, x12, t5, d0, d1, d2, d3, d4, c0, c1, c2, c3, c4, c5, c6, t2, t3, e0, ek, ← hp1, ← hp5, ← hp7, e1, t4, t5, is00, is11, is10, is01, qq]; cbv)
          | refine an_Hm50 ?_
         refine regionL [] [] (T := fun _ => tabY [31, 32, 42, 43, 109, 117, 125, 37, 48, 62, 65, 68, 73, 81, 87, 95, 98, 104, 108, 112, 116, 124, 132, 139, 1010, 1015, 1085, 1090, 1093] []) (H := fun _ => [kn_within3 GFsPq, kn_cright GFs5, kn_lcallH GFsHz, kn_lbackH GFsHz, kn_applyR GFsSD]) (B := fun _ => []) (R := fun _ => []) (A := A) (tabY_ok _ _) hH noB_ok noR_ok follows_mixed hA hX (by kernel_rfl) (by kernel_rfl) (by kernel_rfl) ?_
         cbv
         repeat first
          | (simp only [t9, x14, e7, e8, e10, w5, w6, w7, x12, t5, d0, d1, d2, d3, d4, c0, c1, c2, c3, c4, c5, c6, t2, t3, e0, ek, ← hp1, ← hp5, ← hp7, e1, t4, t5, is00, is11, is10, is01, qq]; cbv)
          | refine an_Hm50 ?_
         have hms : mstep st y = mRet st y := by
          unfold mstep
          rw [← hoK, ← hb1, ← hb2, ← hyr2]
          rfl
         subst hA hR
         have wk : IntKind.wrap .i64 (i + 1) = i + 1 := wrap_i64 (by unfold r64; omega)
         replace hlt : i < r := hlt
         replace hr : r = (l.length : Int) := hr
         refine ⟨⟨i + 1, n, co9, cq, cc, ct, s, dc9, dr, m + 2, q + 1, vo + 1, vr⟩, MXI.next i0 (by omega) hl hdr hmb (by omega) hng hoo hrun ⟨rfl, by rw [hms]; exact ⟨hn, hco9, hcq, hcc, hct, hs, hdc9, hdr9, by show _ = (st.out ++ [_]).length; rw [List.length_append, ← hno]; rfl, hnr⟩⟩, by show r.toNat - (i + 1).toNat < r.toNat - i.toNat; omega, told_keep [0, 1, 2, 3, 4, 5, 6] rfl ?_ ?_⟩
         ·simp [keepSt, pullBox, pullL, pullD, outB2, ordB, A0, hco9, hdc9, pullL_closed _ _ hsi.closed, hco, hcq, hcc, hct, hdc, hdr9, nums_pull, cmdsC_pull, repsC_pull, evsC_pull]
         ·simp [toldP, getS, A0, wk, pullD, outV, ordV, List.idxOf?, List.findIdx?_cons]
       case false =>
         cbv
         repeat first
          | (simp only [e7, e8, e10, w5, w6, w7, x12, t5, d0, d1, d2, d3, d4, c0, c1, c2, c3, c4, c5, c6, t2, t3, e0, ek, ← hp1, ← hp5, ← hp7, e1, t4, t5, is00, is11, is10, is01, qq]; cbv)
          | refine an_Hm50 ?_
         obtain ⟨h9, t9⟩ : ∃ t, GFsHz.lbackH ⟨v1, v2, v3, v4, v5, v6, v7⟩ ⟨u1, u2, u3, u4, u5⟩ = t := ⟨_, rfl⟩
         have hh9 : h9 = (evR (st.cmds.getD (mK y) .zero) (mRep st y)).op := by
          rw [← t9, hmr, hu9, ← hkc]
          subst hFsHz
          rfl
         rcases h9 with ⟨a1, a2, a3, a4, a5, a6, a7, a8, a9, a10, a11, a12, a13, a14⟩
         obtain ⟨dc9, hdc9⟩ : ∃ z, z = evsC (st.out ++ [evR (st.cmds.getD (mK y) .zero) (mRep st y)]) := ⟨_, rfl⟩
         have hrw9 : [.d (.sc (.int .i64 a1)), .d (.sc (.int .i64 a2)), .d (.sc (.int .i64 a3)), .d (.sc (.int .i64 a4)), .d (.sc (.int .i64 a5)), .d (.sc (.string a6)), .d (.sc (.string a7)), .d (.sc (.string a8)), .d (.sc (.string a9)), .d (.sc (.int .i64 a10)), .d (.sc (.bool a11)), .d (.sc (.string a12)), .d (.sc (.int .i64 a13)), .d (.slc 3 a14)] = (evR (st.cmds.getD (mK y) .zero) (mRep st y)).cells := by
          have := congrArg HOp.D hh9
          rw [Ev.op_D] at this
          exact DV.agg.inj this
         have x14 : A.app dc (A.tk [.d (.sc (.int .i64 a1)), .d (.sc (.int .i64 a2)), .d (.sc (.int .i64 a3)), .d (.sc (.int .i64 a4)), .d (.sc (.int .i64 a5)), .d (.sc (.string a6)), .d (.sc (.string a7)), .d (.sc (.string a8)), .d (.sc (.string a9)), .d (.sc (.int .i64 a10)), .d (.sc (.bool a11)), .d (.sc (.string a12)), .d (.sc (.int .i64 a13)), .d (.slc 3 a14)] 0 1 14) = dc9 := by subst hA; rw [hdc9, evsC_app, ← hrw9, hdc]; rfl
         cbv at t9 x14
         cbv
         repeat first
          | (simp only [t9, x14, e7, e8, e10, w5, w6, w7, x12, t5, d0, d1, d2, d3, d4, c0, c1, c2, c3, c4, c5, c6, t2, t3, e0, ek, ← hp1, ← hp5, ← hp7, e1, t4, t5, is00, is11, is10, is01, qq]; cbv)
          | refine an_Hm50 ?_
         refine regionL [] [] (T := fun _ => tabY [31, 32, 42, 43, 109, 117, 125, 37, 48, 62, 65, 68, 73, 81, 87, 95, 98, 104, 108, 112, 116, 124, 132, 139, 1010, 1015, 1085, 1090, 1093] []) (H := fun _ => [kn_within3 GFsPq, kn_cright GFs5, kn_lcallH GFsHz, kn_lbackH GFsHz, kn_applyR GFsSD]) (B := fun _ => []) (R := fun _ => []) (A := A) (tabY_ok _ _) hH noB_ok noR_ok follows_mixed hA hX (by kernel_rfl) (by kernel_rfl) (by kernel_rfl) ?_
         cbv
         repeat first
          | (simp only [t9, x14, e7, e8, e10, w5, w6, w7, x12, t5, d0, d1, d2, d3, d4, c0, c1, c2, c3, c4, c5, c6, t2, t3, e0, ek, ← hp1, ← hp5, ← hp7, e1, t4, t5, is00, is11, is10, is01, qq]; cbv)
          | refine an_Hm50 ?_
         have hms : mstep st y = mRet st y := by
          unfold mstep
          rw [← hoK, ← hb1, ← hb2, ← hyr2]
          rfl
         subst hA hR
         have wk : IntKind.wrap .i64 (i + 1) = i + 1 := wrap_i64 (by unfold r64; omega)
         replace hlt : i < r := hlt
         replace hr : r = (l.length : Int) := hr
         refine ⟨⟨i + 1, n, co9, cq, cc, ct, s, dc9, dr, m + 2, q + 1, vo + 1, vr⟩, MXI.next i0 (by omega) hl hdr hmb (by omega) hng hoo hrun ⟨rfl, by rw [hms]; exact ⟨hn, hco9, hcq, hcc, hct, hs, hdc9, hdr9, by show _ = (st.out ++ [_]).length; rw [List.length_append, ← hno]; rfl, hnr⟩⟩, by show r.toNat - (i + 1).toNat < r.toNat - i.toNat; omega, told_keep [0, 1, 2, 3, 4, 5, 6] rfl ?_ ?_⟩
         ·simp [keepSt, pullBox, pullL, pullD, outB2, ordB, A0, hco9, hdc9, pullL_closed _ _ hsi.closed, hco, hcq, hcc, hct, hdc, hdr9, nums_pull, cmdsC_pull, repsC_pull, evsC_pull]
         ·simp [toldP, getS, A0, wk, pullD, outV, ordV, List.idxOf?, List.findIdx?_cons]
  ·have hdone : madeF l mZero = st := by
    rw [hrun]
    cases l.drop i.toNat with
    | nil => rfl
    | cons y l9 => rw [madeF, decide_eq_false (by omega)]; rfl
   have t2 : A.cmp .lss i (A.len xs) = true := by subst hA; exact decide_eq_true (by show i < (xs.length : Int); omega)
   have t3 : A.cmp .lss n 12 = false := by subst hA; exact decide_eq_false hn12
   cbv at t2 t3
   rcases hshape with ⟨rfl, rfl⟩ | ⟨m, rfl, rfl⟩ | ⟨m, q, rfl, rfl⟩
   ·cbv
    repeat first
     | (simp only [t2, t3, qq]; cbv)
     | refine an_Hm50 ?_
    subst hA hX hW
    rw [madeR_of hxs, hdone]
    have hout0 : st.out = [] := List.length_eq_zero_iff.1 hno.symm
    have hord0 : st.ord = [] := List.length_eq_zero_iff.1 hnr.symm
    rw [hout0, hord0]
    exact ret_up ⟨_, rfl, _, _, rfl, .inr ⟨rfl, 14, rfl⟩, _, _, rfl, .inr ⟨rfl, 1, rfl⟩, rfl⟩ rfl
   ·cbv
    repeat first
     | (simp only [t2, t3, qq]; cbv)
     | refine an_Hm50 ?_
    subst hA hX hW
    rw [madeR_of hxs, hdone]
    have hord0 : st.ord = [] := List.length_eq_zero_iff.1 hnr.symm
    refine ret_freeze 5 14 (evsX st.out) ⟨_, dc, true, vo, true⟩ rfl rfl (Nat.zero_le _) (by rw [hdc]; exact evsC_rows _) (evsX_sz _) ?_
    have e : fzD 5 vo 14 (evsX st.out) (.tup [.view 14 5 vo 0 (m + 1), .d (.sc (.slice none 0 0))]) = .tup [.d (.slc 14 (evsX st.out)), .d (.sc (.slice none 0 0))] := by simp [fzD, fzL, evsX_len, hno]
    rw [hord0]
    exact (congrArg (fun d => RetW 0 _ d _) e).mpr (ret_up ⟨_, rfl, _, _, rfl, .inl rfl, _, _, rfl, .inr ⟨rfl, 1, rfl⟩, rfl⟩ rfl)
   ·cbv
    repeat first
     | (simp only [t2, t3, qq]; cbv)
     | refine an_Hm50 ?_
    subst hA hX hW
    rw [madeR_of hxs, hdone]
    refine ret_freeze 5 14 (evsX st.out) ⟨_, dc, true, vo, true⟩ rfl rfl (Nat.zero_le _) (by rw [hdc]; exact evsC_rows _) (evsX_sz _) ?_
    have e : fzD 5 vo 14 (evsX st.out) (.tup [.view 14 5 vo 0 (m + 1), .view 1 6 vr 0 (q + 1)]) = .tup [.d (.slc 14 (evsX st.out)), .view 1 6 vr 0 (q + 1)] := by simp [fzD, fzL, evsX_len, hno]
    refine (congrArg (fun d => RetW 0 _ d _) e).mpr ?_
    refine ret_freeze 6 1 (numsX st.ord) ⟨3, dr, true, vr, true⟩ ?_ rfl (Nat.zero_le _) (by rw [hdr9]; exact numsD_rows _) (numsX_sz _) ?_
    ·simp [fzSt, fzBox, hdr9, fzL_nums]
    have e2 : fzD 6 vr 1 (numsX st.ord) (.tup [.d (.slc 14 (evsX st.out)), .view 1 6 vr 0 (q + 1)]) = .tup [.d (.slc 14 (evsX st.out)), .d (.slc 1 (numsX st.ord))] := by simp [fzD, fzL, numsX_length, hnr]
    exact (congrArg (fun d => RetW 0 _ d _) e2).mpr (ret_v rfl rfl)
 ·have hdone : madeF l mZero = st := by
   rw [hrun, List.drop_eq_nil_of_le (by omega)]
   rfl
  have t2 : A.cmp .lss i (A.len xs) = false := by subst hA; exact decide_eq_false (by show ¬ i < (xs.length : Int); omega)
  cbv at t2
  rcases hshape with ⟨rfl, rfl⟩ | ⟨m, rfl, rfl⟩ | ⟨m, q, rfl, rfl⟩
  ·cbv
   repeat first
    | (simp only [t2, qq]; cbv)
    | refine an_Hm50 ?_
   subst hA hX hW
   rw [madeR_of hxs, hdone]
   have hout0 : st.out = [] := List.length_eq_zero_iff.1 hno.symm
   have hord0 : st.ord = [] := List.length_eq_zero_iff.1 hnr.symm
   rw [hout0, hord0]
   exact ret_up ⟨_, rfl, _, _, rfl, .inr ⟨rfl, 14, rfl⟩, _, _, rfl, .inr ⟨rfl, 1, rfl⟩, rfl⟩ rfl
  ·cbv
   repeat first
    | (simp only [t2, qq]; cbv)
    | refine an_Hm50 ?_
   subst hA hX hW
   rw [madeR_of hxs, hdone]
   have hord0 : st.ord = [] := List.length_eq_zero_iff.1 hnr.symm
   refine ret_freeze 5 14 (evsX st.out) ⟨_, dc, true, vo, true⟩ rfl rfl (Nat.zero_le _) (by rw [hdc]; exact evsC_rows _) (evsX_sz _) ?_
   have e : fzD 5 vo 14 (evsX st.out) (.tup [.view 14 5 vo 0 (m + 1), .d (.sc (.slice none 0 0))]) = .tup [.d (.slc 14 (evsX st.out)), .d (.sc (.slice none 0 0))] := by simp [fzD, fzL, evsX_len, hno]
   rw [hord0]
   exact (congrArg (fun d => RetW 0 _ d _) e).mpr (ret_up ⟨_, rfl, _, _, rfl, .inl rfl, _, _, rfl, .inr ⟨rfl, 1, rfl⟩, rfl⟩ rfl)
  ·cbv
   repeat first
    | (simp only [t2, qq]; cbv)
    | refine an_Hm50 ?_
   subst hA hX hW
   rw [madeR_of hxs, hdone]
   refine ret_freeze 5 14 (evsX st.out) ⟨_, dc, true, vo, true⟩ rfl rfl (Nat.zero_le _) (by rw [hdc]; exact evsC_rows _) (evsX_sz _) ?_
   have e : fzD 5 vo 14 (evsX st.out) (.tup [.view 14 5 vo 0 (m + 1), .view 1 6 vr 0 (q + 1)]) = .tup [.d (.slc 14 (evsX st.out)), .view 1 6 vr 0 (q + 1)] := by simp [fzD, fzL, evsX_len, hno]
   refine (congrArg (fun d => RetW 0 _ d _) e).mpr ?_
   refine ret_freeze 6 1 (numsX st.ord) ⟨3, dr, true, vr, true⟩ ?_ rfl (Nat.zero_le _) (by rw [hdr9]; exact numsD_rows _) (numsX_sz _) ?_
   ·simp [fzSt, fzBox, hdr9, fzL_nums]
   have e2 : fzD 6 vr 1 (numsX st.ord) (.tup [.d (.slc 14 (evsX st.out)), .view 1 6 vr 0 (q + 1)]) = .tup [.d (.slc 14 (evsX st.out)), .d (.slc 1 (numsX st.ord))] := by simp [fzD, fzL, numsX_length, hnr]
   exact (congrArg (fun d => RetW 0 _ d _) e2).mpr (ret_v rfl rfl)
structure FsHq5 where
 made : List (List PD) → List (List PD) × List (List PD)
 isMops : List (List PD) → Prop
noncomputable def FsHq50 : FsHq5 where
 made := madeR
 isMops := isMops
def kn_made (F : FsHq5) : FuncId × (List DV → RV) := (25, fun args => match args with
 | [.d (.slc 11 xs)] => some ([F.isMops xs], .tup [.d (.slc 14 ((F.made xs)).1), .d (.slc 1 ((F.made xs)).2)])
 | [.d (.sc (.slice none 0 0))] => some ([F.isMops []], .tup [.d (.slc 14 ((F.made [])).1), .d (.slc 1 ((F.made [])).2)])
 | _ => none)
theorem ok_made (args : List DV) (cs : List Prop) (r : DV) (h : (kn_made FsHq50).2 args = some (cs, r)) (hc : allP cs True) : FnV Try.prog 25 args r ∧ closedL 0 args = true := by
 unfold kn_made at h
 simp only at h
 split at h
 ·cases h; exact ⟨v_made _ hc.1, rfl⟩
 ·cases h; exact ⟨FnP.nils (v_made [] hc.1) ⟨.inr ⟨rfl, _, rfl⟩, trivial⟩, rfl⟩
 ·cases h
end Go.Proofs.Ytadnpgkddgbhkaa
