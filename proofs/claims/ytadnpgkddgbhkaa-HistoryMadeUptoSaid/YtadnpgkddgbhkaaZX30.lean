/- Histories that are made: what the laws want of them. No condition. -/
import Derived.Test.YtadnpgkddgbhkaaZX29
import Derived.Test.YtadnpgkddgbhkaaZX28
namespace Go.Proofs.Ytadnpgkddgbhkaa
open Go.RowKit Go.Maps
set_option linter.all false
set_option maxHeartbeats 4000000
theorem cutL {α : Sort _} {X : Cps} {c : Code} {Q : Exit → SL → Store → Prop} {G : Prop} (I : α → Prop) (S : α → SL) (ST : Store) (pf : ∀ y, I y → X.st c Q (S y) ST) (g : (∀ y, I y → X.st c Q (S y) ST) → G) : G := g pf
end Go.Proofs.Ytadnpgkddgbhkaa
namespace Go.Proofs.Ytadnpgkddgbhkaa
open Go.RowKit Go.Maps
set_option linter.all false
set_option maxHeartbeats 8000000
theorem told_freeze2 {k : Nat} {s s' : SL} {st st' : Store} (b sz : Nat) (xs : List (List PD)) (bx : Box) (hb : st[b]? = some bx) (hl : bx.live = true) (hcells : bx.cells = rowsD xs) (hsz : ∀ x ∈ xs, x.length = sz)
  (hst : st' = fzSt b sz xs st) (hs : toldP (fzD b bx.ver sz xs) s s') : Told k s st s' st' := by
 subst hst
 intro E N a hc he hsl
 obtain ⟨E', e1, e2, e3, e4, e5, _⟩ := freeze_env b sz xs bx hb hl hcells hsz E hc he
 refine ⟨E', e1, e2, e3, ⟨hsl.size, fun i => ?_, hsl.defers⟩, fun F hF _ hx => Ext.trans hF hc.len hx e5⟩
 rcases toldP_get hs i with h | h
 · rw [h]
   exact e4 _ _ (hsl.rep i)
 · rw [h]
   trivial
def mopC (x : MOp) : List DV := x.row.map .d
theorem mopC_len (x : MOp) : (mopC x).length = 11 := rfl
theorem mops_rows (l : List MOp) : flatC mopC l = rowsD (mopsX l) := by
 induction l with
 | nil => rfl
 | cons x l ih => show mopC x ++ flatC mopC l = _; rw [ih]; rfl
theorem mopsX_sz (l : List MOp) : ∀ x ∈ mopsX l, x.length = 11 := by
 intro x hx
 simp only [mopsX, List.mem_map] at hx
 obtain ⟨_, _, rfl⟩ := hx
 rfl
def clr (x : MOp) : MOp := ⟨x.cl, x.wait, x.c, x.ret, false⟩
def clrN (l : List MOp) (n : Nat) : List MOp := (l.take n).map clr ++ l.drop n
theorem clrN_len (l : List MOp) (n : Nat) : (clrN l n).length = l.length := by
 unfold clrN
 rw [List.length_append, List.length_map, List.length_take, List.length_drop]
 omega
theorem clrN_get {l : List MOp} {n : Nat} (h : n < l.length) : (clrN l n)[n]'(by rw [clrN_len]; exact h) = l[n] := by
 have e : ((l.take n).map clr).length = n := by simp; omega
 have e1 : (clrN l n)[n]? = some l[n] := by
  unfold clrN
  rw [List.getElem?_append_right (by rw [e]; exact Nat.le_refl _), e, Nat.sub_self, List.getElem?_drop, Nat.add_zero, List.getElem?_eq_getElem h]
 rw [List.getElem?_eq_getElem (by rw [clrN_len]; exact h), Option.some.injEq] at e1
 exact e1
theorem clrN_set {l : List MOp} {n : Nat} (h : n < l.length) : (clrN l n).set n (clr l[n]) = clrN l (n + 1) := by
 unfold clrN
 have e : ((l.take n).map clr).length = n := by simp; omega
 rw [List.set_append_right _ _ (by rw [e]; exact Nat.le_refl _), e, Nat.sub_self, List.drop_eq_getElem_cons h, List.take_succ_eq_append_getElem h, List.map_append, List.append_assoc]
 rfl
theorem clrN_all {l : List MOp} {n : Nat} (h : l.length ≤ n) : clrN l n = l.map clr := by
 unfold clrN
 rw [List.take_of_length_le h, List.drop_eq_nil_of_le h, List.append_nil]
theorem flatC_spl2 {α : Type} {f : α → List DV} {sz : Nat} (hf : ∀ a, (f a).length = sz) {l : List α} {j : Nat} (h : j < l.length) {m : Nat} {xs : List DV} (hm : m + xs.length ≤ sz) {a : α} (ha : splice (f l[j]) m xs = f a) : splice (flatC f l) (j * sz + m) xs = flatC f (l.set j a) := by
 have e1 : flatC f l = flatC f (l.take j) ++ (f l[j] ++ flatC f (l.drop (j + 1))) := by
  have e : l = l.take j ++ (l[j] :: l.drop (j + 1)) := by rw [← List.drop_eq_getElem_cons, List.take_append_drop]
  conv => lhs; rw [e, flatC_app]
  rfl
 have e2 : flatC f (l.set j a) = flatC f (l.take j) ++ (f a ++ flatC f (l.drop (j + 1))) := by
  rw [List.set_eq_take_append_cons_drop, if_pos h, flatC_app]
  rfl
 have e3 : j * sz = (flatC f (l.take j)).length := by rw [flatC_len hf, List.length_take, Nat.min_eq_left (by omega)]
 rw [e1, e2, e3, splice_mid _ _ _ _ _ (by rw [hf]; exact hm), ha]
theorem clr_spl (x : MOp) : splice (mopC x) 10 [.d (.sc (.bool false))] = mopC (clr x) := rfl
theorem evsX_sub (l : List Ev) (m : Nat) : (evsX l).take m = evsX (l.take m) := by simp [evsX]
set_option maxRecDepth 100000 in
theorem v_hmade (xs : List (List PD)) (cut : Int) (hms : isMops xs) (hcut : r64 cut) : FnV Try.prog 6 [.d (.slc 11 xs), .d (.sc (.int .i64 cut))] (.d (.sc (.bool true))) := by
 obtain ⟨GFsHq5, hFsHq5⟩ : ∃ F, F = FsHq50 := ⟨_, rfl⟩
 obtain ⟨GFsHf, hFsHf⟩ : ∃ F, F = FsHf0 := ⟨_, rfl⟩
 obtain ⟨GFsHl, hFsHl⟩ : ∃ F, F = FsHl0 := ⟨_, rfl⟩
 obtain ⟨GFsPq, hFsPq⟩ : ∃ F, F = FsPq0 := ⟨_, rfl⟩
 obtain ⟨GFsHr, hFsHr⟩ : ∃ F, F = FsHr0 := ⟨_, rfl⟩
 have hH : SoundK Try.prog [kn_made GFsHq5, kn_fits GFsHf, kn_linear GFsHl, kn_within3 GFsPq, kn_hruns GFsHr] := by subst hFsHq5 hFsHf hFsHl hFsPq hFsHr; exact orK_ok ok_made (orK_ok ok_fits (orK_ok ok_linear (orK_ok ok_within3 (orK_ok ok_hruns noK_ok))))
 have hB : SoundB Try.prog [] := by subst hFsHq5 hFsHf hFsHl hFsPq hFsHr; exact noB_ok
 refine FnD_cbv (T := fun _ => tabY [24, 25] [6, 8]) (H := fun _ => [kn_made GFsHq5, kn_fits GFsHf, kn_linear GFsHl, kn_within3 GFsPq, kn_hruns GFsHr]) (tabY_ok _ _) hH follows_mixed Try.func6 rfl Try.ntmps6 (by simp) fun A X W hA hX hW => ?_
 cbv
 have q000 : A.cond false false false = false := by subst hA; rfl
 have q001 : A.cond false false true = true := by subst hA; rfl
 have q010 : A.cond false true false = false := by subst hA; rfl
 have q011 : A.cond false true true = true := by subst hA; rfl
 have q100 : A.cond true false false = false := by subst hA; rfl
 have q101 : A.cond true false true = false := by subst hA; rfl
 have q110 : A.cond true true false = true := by subst hA; rfl
 have q111 : A.cond true true true = true := by subst hA; rfl
 have f3 : A.not true = false := by subst hA; rfl
 have f4 : A.not false = true := by subst hA; rfl
 cbv at f3 f4 q000 q001 q010 q011 q100 q101 q110 q111
 obtain ⟨l, hxs, hl, hlr⟩ := hms
 have hxl : xs.length = l.length := by rw [hxs, mopsX_len]
 obtain ⟨n, hn⟩ : ∃ z : Nat, z = l.length := ⟨_, rfl⟩
 obtain ⟨c, hc⟩ : ∃ z : Int, z = l.length := ⟨_, rfl⟩
 repeat first
  | (simp only [q000, q001, q010, q011, q100, q101, q110, q111, f3, f4]; cbv)
  | refine And.intro (by subst hA hX hFsHq5 hFsHf hFsHl hFsPq hFsHr; clear hH hB; first | exact trivial | exact rfl | (simp [A0]; done) | (intro q; exact q) | (intro q; simpa [A0] using q) | (intro _; trivial) | (show Region.lexB _ _ = true; kernel_rfl) | (show turnsB _ = true; kernel_rfl) | assumption | (intro _; assumption) | (intro _; rfl)) ?_
  | (refine pickL hX (t := true) (by rfl) rfl ?_; cbv)
  | (refine pickL hX (t := false) (by rfl) rfl ?_; cbv)
 refine And.intro (by subst hA; show _ ∧ _; replace hxl : xs.length = l.length := hxl; exact ⟨by show 0 + xs.length ≤ _; omega, by show (0 + xs.length) * 112 ≤ _; omega⟩) ?_
 refine loopL (T := fun _ => tabY [24, 25] [6, 8]) (H := fun _ => [kn_made GFsHq5, kn_fits GFsHf, kn_linear GFsHl, kn_within3 GFsPq, kn_hruns GFsHr]) (tabY_ok _ _) hH follows_mixed hA hX (fun x : Int × List DV => (0 ≤ x.1 ∧ x.1 ≤ c) ∧ x.2 = flatC mopC (clrN l x.1.toNat)) (fun x => [(1, .d (.sc (.int .i64 cut))), (5, .view 11 0 1 0 n), (6, .d (.sc (.int .i64 x.1)))]) (fun x => [⟨73, x.2, true, 1, true⟩]) (fun x => c.toNat - x.1.toNat) (0, flatC mopC l) ?_ ?_ ?_
 · exact ⟨⟨Int.le_refl 0, by show (0 : Int) ≤ c; rw [hc]; omega⟩, rfl⟩
 · subst hA
   refine told_eqM ?_ ?_
   · rw [mops_rows, ← hxs]
     rfl
   · simp [toldP, getS, A0, hxl, hn]
 rintro R ⟨i, cs⟩ hR ⟨⟨i0, i1⟩, hcs⟩
 replace hc : c = (l.length : Int) := hc
 replace i0 : 0 ≤ i := i0
 replace i1 : i ≤ c := i1
 replace hcs : cs = flatC mopC (clrN l i.toNat) := hcs
 by_cases hlt : i < c
 · have t2 : A.cmp .lss i (A.int n) = true := by subst hA; exact decide_eq_true (by show i < ((n : Nat) : Int); omega)
   have hin : i.toNat < l.length := by omega
   have hinb : A.inb i (A.int n) := by subst hA; exact ⟨i0, by show i < ((n : Nat) : Int); omega⟩
   obtain ⟨p, hp⟩ : ∃ z : Nat, z = A.off 0 i 11 := ⟨_, rfl⟩
   have hpv : p = i.toNat * 11 := by rw [hp]; subst hA; show 0 + i.toNat * 11 = _; omega
   obtain ⟨cs9, hcs9⟩ : ∃ z, z = flatC mopC (clrN l (i + 1).toNat) := ⟨_, rfl⟩
   have x1 : A.spl cs (A.pl p 10) [.d (.sc (.bool false))] = cs9 := by
    subst hA
    rw [hcs9, hcs, show (i + 1).toNat = i.toNat + 1 by omega, ← clrN_set hin, hpv]
    exact flatC_spl2 mopC_len (by rw [clrN_len]; exact hin) (by decide) (by rw [clrN_get hin]; exact clr_spl _)
   have y1 : A.fits cs (A.pl p 10) 1 := by subst hA; show p + 10 + 1 ≤ cs.length; rw [hcs, hpv, flatC_len mopC_len, clrN_len]; omega
   cbv at t2 hinb hp x1 y1
   cbv
   repeat first
    | (simp only [t2, ← hp, x1, q000, q001, q010, q011, q100, q101, q110, q111, f3, f4]; cbv)
    | refine And.intro (by subst hA hX hFsHq5 hFsHf hFsHl hFsPq hFsHr; clear hH hB; first | exact trivial | exact rfl | (simp [A0]; done) | (intro q; exact q) | (intro q; simpa [A0] using q) | (intro _; trivial) | (show Region.lexB _ _ = true; kernel_rfl) | (show turnsB _ = true; kernel_rfl) | assumption | (intro _; assumption) | (intro _; rfl)) ?_
    | (refine pickL hX (t := true) (by rfl) rfl ?_; cbv)
    | (refine pickL hX (t := false) (by rfl) rfl ?_; cbv)
   subst hA hR
   have wk : IntKind.wrap .i64 (i + 1) = i + 1 := wrap_i64 (by unfold r64; omega)
   replace hc : c = (l.length : Int) := hc
   refine ⟨(i + 1, cs9), ⟨⟨by show 0 ≤ i + 1; omega, by show i + 1 ≤ c; omega⟩, hcs9⟩, by show c.toNat - (i + 1).toNat < c.toNat - i.toNat; omega, told_less (by simp [toldP, getS, A0, wk])⟩
 obtain ⟨L, hL⟩ : ∃ z, z = l.map clr := ⟨_, rfl⟩
 have hLl : L.length = l.length := by rw [hL, List.length_map]
 have hLi : ∀ x ∈ L, x.lie = false := by
  intro x hx
  rw [hL, List.mem_map] at hx
  obtain ⟨y, _, rfl⟩ := hx
  rfl
 have hLr : ∀ x ∈ L, r64 x.cl := by
  intro x hx
  rw [hL, List.mem_map] at hx
  obtain ⟨y, hy, rfl⟩ := hx
  exact hlr y hy
 have hcsL : cs = rowsD (mopsX L) := by rw [hcs, clrN_all (by omega), ← hL]; exact mops_rows _
 have t2 : A.cmp .lss i (A.int n) = false := by subst hA; exact decide_eq_false (by show ¬ i < ((n : Nat) : Int); omega)
 cbv at t2
 cbv
 repeat first
  | (simp only [t2, q000, q001, q010, q011, q100, q101, q110, q111, f3, f4]; cbv)
  | refine And.intro (by subst hA hX hFsHq5 hFsHf hFsHl hFsPq hFsHr; clear hH hB; first | exact trivial | exact rfl | (simp [A0]; done) | (intro q; exact q) | (intro q; simpa [A0] using q) | (intro _; trivial) | (show Region.lexB _ _ = true; kernel_rfl) | (show turnsB _ = true; kernel_rfl) | assumption | (intro _; assumption) | (intro _; rfl)) ?_
  | (refine pickL hX (t := true) (by rfl) rfl ?_; cbv)
  | (refine pickL hX (t := false) (by rfl) rfl ?_; cbv)
 refine pauseL hX (s' := [(1, .d (.sc (.int .i64 cut))), (5, .d (.slc 11 (mopsX L)))]) (st' := [⟨73, [], false, 2, false⟩]) (told_freeze2 0 11 (mopsX L) ⟨73, cs, true, 1, true⟩ rfl rfl hcsL (mopsX_sz _) rfl (by simp [toldP, getS, fzD, mopsX_len, hLl, hn])) ?_
 obtain ⟨YS0, hYS0⟩ : ∃ z, z = mopsX L := ⟨_, rfl⟩
 rw [← hYS0]
 have hYl : YS0.length = l.length := by rw [hYS0, mopsX_len, hLl]
 apply cutL (X := X) (fun ys : List (List PD) => ∃ l2, ys = mopsX l2 ∧ l2.length ≤ 1048575 ∧ (∀ x ∈ l2, r64 x.cl) ∧ ∀ x ∈ l2, x.lie = false) (fun ys => [(1, .d (.sc (.int .i64 cut))), (5, .d (.slc 11 ys))]) [⟨73, [], false, 2, false⟩]
 rotate_left
 · intro key
   with_reducible refine goL (T := fun _ => tabY [24, 25] [8]) (H := fun _ => [kn_made GFsHq5, kn_fits GFsHf, kn_linear GFsHl, kn_within3 GFsPq, kn_hruns GFsHr]) (tabY_ok _ _) hH follows_mixed hA hX ?_
   cbv
   obtain ⟨t3, w3⟩ : ∃ t, A.cmp .gtr (A.len YS0) 40 = t := ⟨_, rfl⟩
   have hs3 : t3 = decide ((YS0.length : Int) > 40) := by rw [← w3]; subst hA; rfl
   cbv at w3
   simp only [w3]
   cases t3
   case true =>
    replace hs3 : (40 : Int) < YS0.length := of_decide_eq_true hs3.symm
    have hs3 : 40 < YS0.length := by omega
    cbv
    refine And.intro (by subst hA; show (0 : Int) ≤ 0 ∧ (0 : Int) ≤ 40 ∧ (40 : Int) ≤ (YS0.length : Int); omega) ?_
    refine pauseL hX (s' := _) (st' := _) ?_ (key (YS0.take 40) ⟨L.take 40, by rw [hYS0]; simp [mopsX], by rw [List.length_take]; replace hLl : L.length = l.length := hLl; omega, fun x hx => hLr x (List.mem_of_mem_take hx), fun x hx => hLi x (List.mem_of_mem_take hx)⟩)
    subst hA
    exact told_less (by simp [toldP, getS, A0])
   case false =>
    cbv
    refine pauseL hX (s' := _) (st' := _) ?_ (key YS0 ⟨L, hYS0, by omega, hLr, hLi⟩)
    exact told_less (by simp [toldP, getS])
 rintro ys ⟨l2, hys, hl2, hr2, hlie2⟩
 have hms2 : isMops ys := ⟨l2, hys, hl2, hr2⟩
 obtain ⟨st, hst⟩ : ∃ z, z = madeF l2 mZero := ⟨_, rfl⟩
 obtain ⟨zs, hzs⟩ : ∃ z, z = evsX st.out := ⟨_, rfl⟩
 obtain ⟨ws, hws⟩ : ∃ z, z = numsX st.ord := ⟨_, rfl⟩
 have hb := MB.made l2 0 mZero mZero_ok (Int.le_refl 0) (by omega)
 rw [← hst] at hb
 have hfl := made_fits (by omega) hlie2
 rw [← hst] at hfl
 have em : GFsHq5.made ys = (zs, ws) := by subst hFsHq5; rw [hzs, hws, hst]; exact madeR_of hys
 have cm : GFsHq5.isMops ys := by subst hFsHq5; exact hms2
 have hev : isEv zs := by rw [hzs]; exact hb.isEv (by omega)
 have hwn : isNums ws := ⟨st.ord, hws, by have := hb.oln; omega, fun p hp => by have := hb.obd p hp; have := hb.n12; unfold r64; omega⟩
 have el : GFsHl.linear zs = (true, true) := by subst hFsHl; show linM (evsOf zs) = _; rw [hzs, evsOf_X]; exact hfl.2
 have ef : GFsHf.fits zs ws = true := by subst hFsHf; show fitsM (evsOf zs) (numsOf ws) = _; rw [hzs, hws, evsOf_X, numsOf_X]; exact hfl.1
 have hzl : zs.length = st.out.length := by rw [hzs, evsX_len]
 have hzb : zs.length ≤ 1048576 := by have := hb.len; omega
 obtain ⟨m, ew⟩ : ∃ t, GFsPq.within3 cut 0 (A.len zs) = t := ⟨_, rfl⟩
 have hmv : 0 ≤ m ∧ m ≤ (zs.length : Int) := by
  rw [← ew]
  subst hFsPq hA
  show 0 ≤ 0 + cut % ((zs.length : Int) - 0 + 1) ∧ 0 + cut % ((zs.length : Int) - 0 + 1) ≤ (zs.length : Int)
  have h1 := Int.emod_nonneg cut (show ((zs.length : Int) - 0 + 1) ≠ 0 by omega)
  have h2 := Int.emod_lt_of_pos cut (show (0 : Int) < (zs.length : Int) - 0 + 1 by omega)
  omega
 obtain ⟨zt, hzt⟩ : ∃ z, z = evsX (st.out.take m.toNat) := ⟨_, rfl⟩
 have esub : A.sub zs 0 m = zt := by
  subst hA
  show (zs.drop (Int.toNat 0)).take (m.toNat - Int.toNat 0) = zt
  rw [hzt, hzs, ← evsX_sub]
  rfl
 have cb : A.bnd 0 m (A.len zs) := by subst hA; show (0 : Int) ≤ 0 ∧ (0 : Int) ≤ m ∧ m ≤ (zs.length : Int); omega
 have hev2 : isEv zt := ⟨st.out.take m.toNat, hzt, by rw [List.length_take]; have := hb.len; omega, fun e he => by
  have h9 := hb.ev e (List.mem_of_mem_take he)
  exact ⟨by unfold r64; omega, by unfold r64; omega, by unfold r64; omega, h9.2.2.2⟩⟩
 have el2 : GFsHl.linear zt = (true, true) := by
  subst hFsHl
  show linM (evsOf zt) = _
  rw [hzt, evsOf_X, hst]
  exact made_take (by omega) hlie2 (by rw [← hst]; omega)
 have eh : GFsHr.hruns = true := by subst hFsHr; rfl
 have v1 : GFsHf.isEv zs := by subst hFsHf; exact hev
 have v2 : GFsHf.isNums ws := by subst hFsHf; exact hwn
 have v3 : GFsHl.isEv zs := by subst hFsHl; exact hev
 have v4 : GFsHl.isEv zt := by subst hFsHl; exact hev2
 have v5 : GFsPq.r64 cut := by subst hFsPq; exact hcut
 have v6 : GFsPq.span3 0 (A.len zs) := by subst hFsPq hA; show (0 : Int) ≤ (zs.length : Int) ∧ _ ∧ (zs.length : Int) ≤ 1099511627776; exact ⟨by omega, by omega, by omega⟩
 cbv at em cm el ef ew esub cb el2 eh v1 v2 v3 v4 v5 v6
 with_reducible refine goL (T := fun _ => tabY [24, 25] []) (H := fun _ => [kn_made GFsHq5, kn_fits GFsHf, kn_linear GFsHl, kn_within3 GFsPq, kn_hruns GFsHr]) (tabY_ok _ _) hH follows_mixed hA hX ?_
 cbv
 repeat first
  | (simp only [em, el, ef, ew, esub, el2, eh, q000, q001, q010, q011, q100, q101, q110, q111, f3, f4]; cbv)
  | refine And.intro (by subst hA hX hFsHq5 hFsHf hFsHl hFsPq hFsHr; clear hH hB; first | exact trivial | exact rfl | (simp [A0]; done) | (intro q; exact q) | (intro q; simpa [A0] using q) | (intro _; trivial) | (show Region.lexB _ _ = true; kernel_rfl) | (show turnsB _ = true; kernel_rfl) | assumption | (intro _; assumption) | (intro _; rfl)) ?_
  | (refine pickL hX (t := true) (by rfl) rfl ?_; cbv)
  | (refine pickL hX (t := false) (by rfl) rfl ?_; cbv)
 subst hA hX hW
 exact ret_v rfl rfl
end Go.Proofs.Ytadnpgkddgbhkaa
