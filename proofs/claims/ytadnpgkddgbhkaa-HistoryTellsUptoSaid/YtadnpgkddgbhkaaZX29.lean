/- Histories: the document's search, walked. No condition. -/
import Derived.Test.YtadnpgkddgbhkaaZX23
import Derived.Test.YtadnpgkddgbhkaaZX18
namespace Go.Proofs.Ytadnpgkddgbhkaa
open Go.RowKit Go.Maps
set_option linter.all false
set_option maxHeartbeats 8000000
def firstF (d : Int) : List Ev → Int → Int → Int
 | [], _, a => a
 | e :: l, k, a => firstF d l (k + 1) (if decide (bitX d k = 0) && decide (0 ≤ e.b) then min a e.b else a)
theorem firstF_le (d : Int) : ∀ (l : List Ev) (k a : Int), firstF d l k a ≤ a
 | [], _, _ => Int.le_refl _
 | e :: l, k, a => by
     rw [firstF]
     split
     ·exact Int.le_trans (firstF_le d l _ _) (Int.min_le_left _ _)
     ·exact firstF_le d l _ _
theorem may_first {e : Ev} {d : Int} : ∀ (l : List Ev) (k a : Int), e.a ≤ a → mayF e d l k = decide (e.a ≤ firstF d l k a)
 | [], _, _, h => by simp [mayF, firstF, h]
 | b :: l, k, a, h => by
     rw [mayF, firstF]
     by_cases h1 : bitX d k = 0
     ·by_cases h2 : 0 ≤ b.b
      ·simp only [h1, h2, decide_true, Bool.true_and, Bool.and_true, if_true, aheadE, cond_true]
       by_cases h3 : b.b < e.a
       ·have := firstF_le d l (k + 1) (min a b.b)
        simp only [h3, decide_true, if_true]
        symm
        rw [decide_eq_false_iff_not]
        omega
       ·simp only [h3, decide_false, Bool.false_eq_true, if_false]
        exact may_first l _ _ (by omega)
      ·simp only [h1, h2, decide_true, decide_false, Bool.true_and, Bool.and_false, Bool.false_eq_true, if_false, aheadE, cond_false]
       exact may_first l _ _ h
     ·simp only [h1, decide_false, Bool.false_and, Bool.false_eq_true, if_false]
      exact may_first l _ _ h
theorem mayL_first {l : List Ev} {k d : Int} {e : Ev} (he : l.getD k.toNat default = e) (h : e.a ≤ 1152921504606846976) : mayL l k d = (!decide (bitX d k = 1) && decide (e.a ≤ firstF d l 0 1152921504606846976)) := by
 unfold mayL
 rw [he, may_first l 0 _ h]
 by_cases hb : bitX d k = 1 <;> simp [hb]
theorem fitAt {xs : List (List PD)} {l : List Ev} {d : Int} {s : List DV} {g : Nat} {G : MapF} {st : Store} {K : DV → Store → MapF → Prop} (h : FnM Try.prog 126 true 48 [.d (.slc 14 xs), .d (.sc (.int .i64 d)), .agg s, .d (.sc (.map (some g)))] [] g G (fun r st' G' => (∃ t : Bool, r = .d (.sc (.bool t)) ∧ (t = true ↔ Lin l d s)) ∧ st' = [] ∧ Bad l G'))
  (hs : closedL 0 s = true) (hk : ∀ (t : Bool) G', (t = true ↔ Lin l d s) → Bad l G' → K (.d (.sc (.bool t))) st G') : FnM Try.prog 126 true 48 [.d (.slc 14 xs), .d (.sc (.int .i64 d)), .agg s, .d (.sc (.map (some g)))] st g G K := by
 refine FnM.at (args' := [.d (.slc 14 xs), .d (.sc (.int .i64 d)), .agg s, .d (.sc (.map (some g)))]) h [] (by simp [closedL, closedD, hs]) (by simp) (by simp [renL, renD, renL_pure _ _ hs]) ?_
 rintro r0 stc G' ⟨⟨t, rfl, ht⟩, rfl, hB⟩ _
 have e2 : mergeL st [] (([] : Store).map (Box.ren (place [] st.length))) = st := by
  apply List.ext_getElem?
  intro i
  simp [mergeL]
 rw [e2]
 exact hk t G' ht hB
section
variable {P : Program} {T : Unit → Tab} {N : Nat} {B : Env} (hB : B.σ.length = B.st.length) {kt : TypeId} {num : Bool} {I : Nat → Prop}
 {Q : Exit → SL → Store → MY → Prop} {s : SL} {st : Store} {y : MY} {X : Cps} {Y : Code → (Exit → SL → Store → MY → Prop) → SL → Store → MY → Prop} (hX : X = X0 P N) (hY : Y = wpM P N B kt num I)
include hB hY hX
theorem stepMf {c : Code} (S2 : SL) (ST2 : Store) (h : ∀ R : Exit → SL → Store → Prop, (∀ s' st', Told B.st.length s' st' S2 ST2 → R .normal s' st') → X.st c R s st) (h2 : Q .normal S2 ST2 y) : Y c Q s st y := by
 subst hY; subst hX
 refine wpM_after hB (wpM_frame (Q := fun e s' st' y' => ∃ s2 st2, Told B.st.length s' st' s2 st2 ∧ Q e s2 st2 y') hB ?_)
 exact h (fun e s' st' => ∃ s2 st2, Told B.st.length s' st' s2 st2 ∧ Q e s2 st2 y) fun s' st' ht => ⟨S2, ST2, ht, h2⟩
end
theorem an_Hi70 {p q : Prop} (hq : q) (hp : p := by subst hA hX hFsPu hFsSD hFsOw; clear hH hB; first | exact trivial | exact rfl | assumption | (simp [A0]; done) | (intro q; simpa [A0] using q) | (intro _; trivial) | (show _ = true; kernel_rfl)) : p ∧ q := ⟨hp, hq⟩
set_option maxRecDepth 100000 in
theorem w_fit (xs : List (List PD)) (l : List Ev) (hxs : xs = evsX l) (hl : l.length ≤ 12) (hev : isEv xs) (hla : ∀ e ∈ l, e.a ≤ 1048576) : ∀ (N n : Nat) (s : List DV) (j : Int) (g : Nat) (G : MapF), n < 4096 → remN n ≤ N → stOk j s → 0 ≤ j → j + N ≤ 1000 → Bad l G →
  FnM Try.prog 126 true 48 [.d (.slc 14 xs), .d (.sc (.int .i64 n)), .agg s, .d (.sc (.map (some g)))] [] g G (fun r st' G' => (∃ t : Bool, r = .d (.sc (.bool t)) ∧ (t = true ↔ Lin l n s)) ∧ st' = [] ∧ Bad l G') := by
 intro N
 induction N using Nat.strongRecOn with
 | _ N ih =>
 intro n s j g G hn hrem hs hj0 hjN hG
 have hsl : s.length = 49 := hs.is.len
 have hj9 : j ≤ 1000 := by omega
 have hxl : xs.length = l.length := by rw [hxs, evsX_len]
 have hevp : ∀ e ∈ l, isP e.r.pairs := evP hxs hev
 obtain ⟨d, hd⟩ : ∃ d : Int, d = n := ⟨_, rfl⟩
 rw [← hd]
 have hdr : r64 d := by unfold r64; omega
 obtain ⟨c, hc⟩ : ∃ c : Int, c = l.length := ⟨_, rfl⟩
 have hrecF : ∀ (k : Int) (s9 : List DV) (G2 : MapF), 0 ≤ k → k < c → mayL l k d = true → stOk (j + 1) s9 → Bad l G2 → FnM Try.prog 126 true 48 [.d (.slc 14 xs), .d (.sc (.int .i64 (orX d k))), .agg s9, .d (.sc (.map (some g)))] [] g G2 (fun r st' G' => (∃ t : Bool, r = .d (.sc (.bool t)) ∧ (t = true ↔ Lin l (orX d k) s9)) ∧ st' = [] ∧ Bad l G') := by
  intro k s9 G2 k0 k1 hm h9 hG2
  have hb : n.testBit k.toNat = false := by
   unfold mayL at hm
   rw [hd, bit_nat hn k0 (by omega)] at hm
   cases hb : n.testBit k.toNat with
   | false => rfl
   | true => rw [hb] at hm; simp at hm
  have hlt := remN_or (n := n) (k := k.toNat) (by omega) hb
  have ho := or_nat hn k0 (by omega : k < 12)
  have := ih (remN (n ||| 2 ^ k.toNat)) (by omega) (n ||| 2 ^ k.toNat) s9 (j + 1) g G2 (or_lt hn (by omega)) (Nat.le_refl _) h9 (by omega) (by omega) hG2
  rw [← ho, ← hd] at this
  exact this
 obtain ⟨GFsPu, hFsPu⟩ : ∃ F, F = FsPu0 := ⟨_, rfl⟩
 obtain ⟨GFsSD, hFsSD⟩ : ∃ F, F = FsSD0 := ⟨_, rfl⟩
 obtain ⟨GFsOw, hFsOw⟩ : ∃ F, F = FsOw0 := ⟨_, rfl⟩
 have hH : SoundK Try.prog [kn_stPutR GFsPu, kn_applyR GFsSD, kn_replies GFsOw] := by subst hFsPu hFsSD hFsOw; exact orK_ok ok_stPutR (orK_ok ok_applyR (orK_ok ok_replies noK_ok))
 have hB : SoundB Try.prog [] := by subst hFsPu hFsSD hFsOw; exact noB_ok
 refine FnM_M (T := fun _ => tabY [0, 2, 1000, 1002, 1006, 1044, 30, 31, 38, 39, 66, 67, 76, 77, 84, 85, 92, 93, 1079, 1080, 1014, 1103, 5005] [12, 18, 19, 21]) (H := fun _ => [kn_stPutR GFsPu, kn_applyR GFsSD, kn_replies GFsOw]) (tabY_ok _ _) hH follows_mixed Try.func48 rfl Try.ntmps48 (by simp) fun A X W Bs I Y hA hX hW hBl hBs hY => ?_
 cbv
 have q000 : A.cond false false false = false := by subst hA; rfl
 have q001 : A.cond false false true = true := by subst hA; rfl
 have q010 : A.cond false true false = false := by subst hA; rfl
 have q011 : A.cond false true true = true := by subst hA; rfl
 have q100 : A.cond true false false = false := by subst hA; rfl
 have q101 : A.cond true false true = false := by subst hA; rfl
 have q110 : A.cond true true false = true := by subst hA; rfl
 have q111 : A.cond true true true = true := by subst hA; rfl
 have f3 : A.not true = false := by subst hA; rfl
 have f4 : A.not false = true := by subst hA; rfl
 cbv at f3 f4 q000 q001 q010 q011 q100 q101 q110 q111
 have qq := And.intro q000 (And.intro q001 (And.intro q010 (And.intro q011 (And.intro q100 (And.intro q101 (And.intro q110 (And.intro q111 (And.intro f3 f4))))))))
 refine And.intro (by subst hA; show s.length ≤ 1000000; omega) ?_
 have hB0 : Bs.st.length = 0 := by rw [hBs]; rfl
 refine loopM (T := fun _ => tabY [0, 2, 1000, 1002, 1006, 1044, 30, 31, 38, 39, 66, 67, 76, 77, 84, 85, 92, 93, 1079, 1080, 1014, 1103, 5005] [12, 18, 19, 21]) (H := fun _ => [kn_stPutR GFsPu, kn_applyR GFsSD, kn_replies GFsOw]) (tabY_ok _ _) hH follows_mixed hBl hA hX hY (fun x : Int × Bool × Int => (0 ≤ x.1 ∧ x.1 ≤ c) ∧ leftF d l 0 = (!x.2.1 || leftF d (l.drop x.1.toNat) x.1) ∧ firstF d l 0 1152921504606846976 = firstF d (l.drop x.1.toNat) x.1 x.2.2) (fun x => [(0, .d (.slc 14 xs)), (1, .d (.sc (.int .i64 d))), (3, .d (.sc (.map (some g)))), (6, .ref 0 0 0), (9, .d (.sc (.bool x.2.1))), (10, .d (.sc (.int .i64 x.2.2))), (11, .d (.sc (.int .i64 x.1)))]) (fun _ => [⟨32, s, false, 0, true⟩]) (fun _ => some (g, G)) (fun x => c.toNat - x.1.toNat) (0, true, 1152921504606846976) ?_ ?_ rfl ?_
 ·replace hc : c = (l.length : Int) := hc
  exact ⟨⟨Int.le_refl 0, by show 0 ≤ c; omega⟩, by simp, rfl⟩
 ·exact told_less (by simp [toldP, getS])
 rintro R ⟨k, b, fi⟩ hR ⟨⟨k0, k1⟩, hk, hfi⟩
 replace k0 : 0 ≤ k := k0
 replace k1 : k ≤ c := k1
 replace hk : leftF d l 0 = (!b || leftF d (l.drop k.toNat) k) := hk
 replace hfi : firstF d l 0 1152921504606846976 = firstF d (l.drop k.toNat) k fi := hfi
 by_cases hlt : k < c
 ·have t2 : A.cmp .lss k (A.len xs) = true := by
   subst hA
   replace hc : c = (l.length : Int) := hc
   exact decide_eq_true (show k < (xs.length : Int) by omega)
  replace hc : c = (l.length : Int) := hc
  have hkl : k < (l.length : Int) := by omega
  obtain ⟨y, hy⟩ : ∃ y, y = l[k.toNat]'(by omega) := ⟨_, rfl⟩
  have hyr : xs.getD k.toNat [] = y.row := by rw [hy]; exact evrow hxs k0 hkl
  obtain ⟨bk, hbk⟩ : ∃ z, z = bitX d k := ⟨_, rfl⟩
  have hnk : A.nn k := by subst hA; exact k0
  have hinb : A.inb k (A.len xs) := by subst hA; exact ⟨k0, by show k < (xs.length : Int); omega⟩
  have hhas : A.has (A.lift (A.row xs k)) 0 14 [.d (.sc (.int .i64 (A.gi (A.lift (A.row xs k)) 0))), .d (.sc (.int .i64 (A.gi (A.lift (A.row xs k)) (A.pl 0 1)))), .d (.sc (.int .i64 (A.gi (A.lift (A.row xs k)) (A.pl 0 2)))), .d (.sc (.int .i64 (A.gi (A.lift (A.row xs k)) (A.pl 0 3)))), .d (.sc (.int .i64 (A.gi (A.lift (A.row xs k)) (A.pl 0 4)))), .d (.sc (.string (A.gs (A.lift (A.row xs k)) (A.pl 0 5)))), .d (.sc (.string (A.gs (A.lift (A.row xs k)) (A.pl 0 6)))), .d (.sc (.string (A.gs (A.lift (A.row xs k)) (A.pl 0 7)))), .d (.sc (.string (A.gs (A.lift (A.row xs k)) (A.pl 0 8)))), .d (.sc (.int .i64 (A.gi (A.lift (A.row xs k)) (A.pl 0 9)))), .d (.sc (.bool (A.gb (A.lift (A.row xs k)) (A.pl 0 10)))), .d (.sc (.string (A.gs (A.lift (A.row xs k)) (A.pl 0 11)))), .d (.sc (.int .i64 (A.gi (A.lift (A.row xs k)) (A.pl 0 12)))), .d (.slc 3 (A.gl (A.lift (A.row xs k)) (A.pl 0 13)))] := by subst hA; simp only [A0, hyr]; exact ⟨rfl, Nat.le_refl _, rfl⟩
  have e1 : A.gi (A.lift (A.row xs k)) (A.pl 0 1) = y.b := by subst hA; simp only [A0, hyr]; rfl
  have e1a : A.gi (A.lift (A.row xs k)) 0 = y.a := by subst hA; simp only [A0, hyr]; rfl
  rw [evdrop k0 hkl, ← hy] at hk hfi
  have w4 : A.bin .and .i64 (A.bin .shr .i64 d k) 1 = bk := by subst hA; exact hbk.symm
  obtain ⟨bb, t3⟩ : ∃ t, A.cmp .eql bk 0 = t := ⟨_, rfl⟩
  have hbb : bb = decide (bk = 0) := by rw [← t3]; subst hA; rfl
  obtain ⟨yb, hyb⟩ : ∃ z, z = y.b := ⟨_, rfl⟩
  have e1c : A.gi (A.lift (A.cdrop (A.row xs k) 1)) 0 = yb := by rw [hyb]; subst hA; simp only [A0, hyr]; rfl
  have hh1 : A.has (A.lift (A.cdrop (A.row xs k) 1)) 0 1 [.d (.sc (.int .i64 yb))] := by rw [hyb]; subst hA; simp only [A0, hyr]; exact ⟨rfl, by show 0 + 1 ≤ 13; decide, rfl⟩
  obtain ⟨m9, hm9⟩ : ∃ z, z = min fi yb := ⟨_, rfl⟩
  have emm : A.mm false fi yb = m9 := by rw [hm9]; subst hA; rfl
  obtain ⟨tt, t4⟩ : ∃ t, A.cmp .geq yb 0 = t := ⟨_, rfl⟩
  have htt : tt = decide (0 ≤ y.b) := by rw [← t4, hyb]; subst hA; rfl
  cbv at t2 w4 hnk hinb e1c hh1 t3 t4 emm
  cbv
  repeat first
   | (simp only [t2, w4, e1c, t3, t4, emm, qq]; cbv)
   | refine an_Hi70 ?_
  obtain ⟨b9, hb9⟩ : ∃ z, z = (b && !(bb && tt)) := ⟨_, rfl⟩
  obtain ⟨f9, hf9⟩ : ∃ z, z = (if (bb && tt) = true then m9 else fi) := ⟨_, rfl⟩
  cases b <;> cases tt <;> cases bb
  all_goals
   repeat first
    | (simp only [t2, w4, e1c, t3, t4, emm, qq]; cbv)
    | refine an_Hi70 ?_
  all_goals
    (subst hA hR
     rw [hB0]
     replace hc : c = (l.length : Int) := hc
     replace k0 : 0 ≤ k := k0
     replace hlt : k < c := hlt
     have wk : IntKind.wrap .i64 (k + 1) = k + 1 := wrap_i64 (by unfold r64; omega)
     refine ⟨(k + 1, b9, f9), ⟨⟨by show 0 ≤ k + 1; omega, by show k + 1 ≤ c; omega⟩, hk.trans ?_, hfi.trans ?_⟩, by show c.toNat - (k + 1).toNat < c.toNat - k.toNat; omega, rfl, told_less ?_⟩
     ·rw [leftF, ← htt, ← hbk, ← hbb, hb9]
      try rfl
      try simp
     ·rw [firstF, ← hbk, ← hbb, ← htt, hf9, hm9, hyb]
      try rfl
     ·simp [toldP, getS, A0, wk, hb9, hf9])
 ·have t2 : A.cmp .lss k (A.len xs) = false := by
   subst hA
   replace hc : c = (l.length : Int) := hc
   exact decide_eq_false (show ¬ k < (xs.length : Int) by omega)
  have hlf : leftF d l 0 = !b := by
   replace hc : c = (l.length : Int) := hc
   rw [hk, List.drop_eq_nil_of_le (by omega)]
   simp [leftF]
  have hff : firstF d l 0 1152921504606846976 = fi := by
   replace hc : c = (l.length : Int) := hc
   rw [hfi, List.drop_eq_nil_of_le (by omega)]
   rfl
  obtain ⟨bt, hbt⟩ : ∃ z, z = GFsPu.stPutR s := ⟨_, rfl⟩
  obtain ⟨key, hkey⟩ : ∃ z, z = A.bstr bt := ⟨_, rfl⟩
  have hbs : bt = bytesSt s := by rw [hbt]; subst hFsPu; rfl
  have hky : key = strS s := by rw [hkey]; subst hA; rw [hbs]; rfl
  have hisb : A.isby bt := by
   rw [hbs]
   subst hA
   obtain ⟨bs, hb, _⟩ := hs.by hj9
   exact ⟨bs, hb⟩
  have etk : A.tk s 0 1 49 = s := by
   subst hA
   show (s.drop 0).take (1 * 49) = s
   rw [List.drop_zero, List.take_of_length_le (by omega)]
  have hfv : A.fitv s 0 1 49 := by subst hA; show 0 + 1 * 49 ≤ s.length; omega
  have e2 : GFsPu.isSt s := by subst hFsPu; exact hs.is
  have e3 : GFsPu.okV s := by subst hFsPu; exact hs.v hj9
  have hks : key.size ≤ maxLen := by rw [hky]; have := strS_size hs hj9; unfold maxLen; omega
  cbv at t2 hbt hkey hisb e2 e3 etk hfv
  cbv
  simp only [t2]
  cbv
  cases b
  case true =>
   cbv
   subst hA hX
   rw [hW G]
   exact ret_keep [] rfl ⟨⟨true, rfl, fun _ => .done hlf, fun _ => rfl⟩, rfl, hG⟩
  case false =>
   replace hlf : leftF d l 0 = true := hlf
   cbv
   repeat first
    | (simp only [etk, ← hbt, ← hkey, qq]; cbv)
    | refine an_Hi70 ?_
   refine regMr (T := fun _ => tabY [0, 2, 1000, 1002, 1006, 1044, 30, 31, 38, 39, 66, 67, 76, 77, 84, 85, 92, 93, 1079, 1080, 1014, 1103, 5005] []) (H := fun _ => [kn_stPutR GFsPu, kn_applyR GFsSD, kn_replies GFsOw]) (tabY_ok _ _) hH follows_mixed hBl hA hX hY keyR mapR zeroI [] fun C hC => ?_
   obtain ⟨lk, hlk⟩ : ∃ z, z = C.look G (Value.agg ⟨[.int .i64 d, .string key]⟩) := ⟨_, rfl⟩
   obtain ⟨gt, t6⟩ : ∃ t, A.cmp .gtr lk 0 = t := ⟨_, rfl⟩
   have hgt : gt = decide (lk > 0) := by rw [← t6]; subst hA; rfl
   cbv at hlk t6
   cbv
   simp only [← hlk, t6]
   refine ⟨by subst hC; rfl, by subst hC; rfl, by subst hC; obtain ⟨w, hw⟩ := key_vR (d := d) (s := key) hdr hks; exact ⟨w, hw⟩, ?_⟩
   cases gt
   case true =>
    cbv
    subst hA hX hC
    rw [hW G]
    refine ret_keep [] rfl ⟨⟨false, rfl, fun h => (by cases h), fun h => ?_⟩, rfl, hG⟩
    have hlk2 : lk = (match G (keyV d key) with | some (.int _ n) => n | _ => 0) := hlk
    have hgt2 : lk > 0 := of_decide_eq_true hgt.symm
    cases hv : G (keyV d key) with
    | none => rw [hv] at hlk2; simp at hlk2; omega
    | some v => exact absurd h (hG d key v hv j s hs hj9 hky.symm)
   case false =>
    cbv
    refine loopM (T := fun _ => tabY [0, 2, 1000, 1002, 1006, 1044, 30, 31, 38, 39, 66, 67, 76, 77, 84, 85, 92, 93, 1079, 1080, 1014, 1103, 5005] [12, 18, 19, 21]) (H := fun _ => [kn_stPutR GFsPu, kn_applyR GFsSD, kn_replies GFsOw]) (tabY_ok _ _) hH follows_mixed hBl hA hX hY (fun x : Int × MapF => (0 ≤ x.1 ∧ x.1 ≤ c) ∧ Bad l x.2 ∧ ∀ i : Int, 0 ≤ i → i < x.1 → ¬ stepP l d s i) (fun x => [(0, .d (.slc 14 xs)), (1, .d (.sc (.int .i64 d))), (3, .d (.sc (.map (some g)))), (6, .ref 0 0 0), (10, .d (.sc (.int .i64 fi))), (12, .ref 1 0 0), (13, .d (.sc (.int .i64 x.1)))]) (fun _ => [⟨32, s, false, 0, true⟩] ++ [⟨126, [.d (.sc (.int .i64 d)), .d (.sc (.string key))], false, 0, true⟩]) (fun x => some (g, x.2)) (fun x => c.toNat - x.1.toNat) (0, G) ?_ ?_ rfl ?_
    ·replace hc : c = (l.length : Int) := hc
     exact ⟨⟨Int.le_refl 0, by show 0 ≤ c; omega⟩, hG, fun i h0 h1 => absurd h1 (by show ¬ i < 0; omega)⟩
    ·exact told_less (by simp [toldP, getS])
    rintro R ⟨k, G2⟩ hR ⟨⟨k0, k1⟩, hG2, hno⟩
    replace k0 : 0 ≤ k := k0
    replace k1 : k ≤ c := k1
    replace hG2 : Bad l G2 := hG2
    replace hno : ∀ i : Int, 0 ≤ i → i < k → ¬ stepP l d s i := hno
    by_cases hlt : k < c
    ·have t5 : A.cmp .lss k (A.len xs) = true := by
      subst hA
      replace hc : c = (l.length : Int) := hc
      exact decide_eq_true (show k < (xs.length : Int) by omega)
     replace hc : c = (l.length : Int) := hc
     have hkl : k < (l.length : Int) := by omega
     obtain ⟨y, hy⟩ : ∃ y, y = l[k.toNat]'(by omega) := ⟨_, rfl⟩
     have hyr : xs.getD k.toNat [] = y.row := by rw [hy]; exact evrow hxs k0 hkl
     obtain ⟨bk, hbk⟩ : ∃ z, z = bitX d k := ⟨_, rfl⟩
     have hnk : A.nn k := by subst hA; exact k0
     have hinb : A.inb k (A.len xs) := by subst hA; exact ⟨k0, by show k < (xs.length : Int); omega⟩
     have hhas : A.has (A.lift (A.row xs k)) 0 14 [.d (.sc (.int .i64 (A.gi (A.lift (A.row xs k)) 0))), .d (.sc (.int .i64 (A.gi (A.lift (A.row xs k)) (A.pl 0 1)))), .d (.sc (.int .i64 (A.gi (A.lift (A.row xs k)) (A.pl 0 2)))), .d (.sc (.int .i64 (A.gi (A.lift (A.row xs k)) (A.pl 0 3)))), .d (.sc (.int .i64 (A.gi (A.lift (A.row xs k)) (A.pl 0 4)))), .d (.sc (.string (A.gs (A.lift (A.row xs k)) (A.pl 0 5)))), .d (.sc (.string (A.gs (A.lift (A.row xs k)) (A.pl 0 6)))), .d (.sc (.string (A.gs (A.lift (A.row xs k)) (A.pl 0 7)))), .d (.sc (.string (A.gs (A.lift (A.row xs k)) (A.pl 0 8)))), .d (.sc (.int .i64 (A.gi (A.lift (A.row xs k)) (A.pl 0 9)))), .d (.sc (.bool (A.gb (A.lift (A.row xs k)) (A.pl 0 10)))), .d (.sc (.string (A.gs (A.lift (A.row xs k)) (A.pl 0 11)))), .d (.sc (.int .i64 (A.gi (A.lift (A.row xs k)) (A.pl 0 12)))), .d (.slc 3 (A.gl (A.lift (A.row xs k)) (A.pl 0 13)))] := by subst hA; simp only [A0, hyr]; exact ⟨rfl, Nat.le_refl _, rfl⟩
     have e1 : A.gi (A.lift (A.row xs k)) (A.pl 0 1) = y.b := by subst hA; simp only [A0, hyr]; rfl
     have e1a : A.gi (A.lift (A.row xs k)) 0 = y.a := by subst hA; simp only [A0, hyr]; rfl
     have w4 : A.bin .and .i64 (A.bin .shr .i64 d k) 1 = bk := by subst hA; exact hbk.symm
     have hyd : l.getD k.toNat default = y := by
      replace hc : c = (l.length : Int) := hc
      replace hlt : k < c := hlt
      rw [hy, List.getD_eq_getElem?_getD, List.getElem?_eq_getElem (by omega)]
      rfl
     have hym : y ∈ l := by rw [hy]; exact List.getElem_mem _
     obtain ⟨b1, t7⟩ : ∃ t, A.cmp .eql bk 1 = t := ⟨_, rfl⟩
     have hb1 : b1 = decide (bk = 1) := by rw [← t7]; subst hA; rfl
     obtain ⟨ya, hya⟩ : ∃ z, z = y.a := ⟨_, rfl⟩
     have e1d : A.gi (A.lift (A.cdrop (A.row xs k) 0)) 0 = ya := by rw [hya]; subst hA; simp only [A0, hyr]; rfl
     have hh1 : A.has (A.lift (A.cdrop (A.row xs k) 0)) 0 1 [.d (.sc (.int .i64 ya))] := by rw [hya]; subst hA; simp only [A0, hyr]; exact ⟨rfl, by show 0 + 1 ≤ 14; decide, rfl⟩
     obtain ⟨g1, t8⟩ : ∃ t, A.cmp .gtr ya fi = t := ⟨_, rfl⟩
     have hg1 : g1 = decide (ya > fi) := by rw [← t8]; subst hA; rfl
     obtain ⟨yb, hyb⟩ : ∃ z, z = y.b := ⟨_, rfl⟩
     have e1c : A.gi (A.lift (A.cdrop (A.row xs k) 1)) 0 = yb := by rw [hyb]; subst hA; simp only [A0, hyr]; rfl
     have hh2 : A.has (A.lift (A.cdrop (A.row xs k) 1)) 0 1 [.d (.sc (.int .i64 yb))] := by rw [hyb]; subst hA; simp only [A0, hyr]; exact ⟨rfl, by show 0 + 1 ≤ 13; decide, rfl⟩
     have hmay : mayL l k d = !(b1 || g1) := by
      rw [mayL_first hyd (by have := hla y hym; omega), hff, hb1, hg1, ← hbk, hya]
      by_cases hq : bk = 1
      ·simp [hq]
      ·by_cases hq2 : y.a ≤ fi
       ·have : ¬ y.a > fi := by omega
        simp [hq, hq2, this]
       ·have : y.a > fi := by omega
        simp [hq, hq2, this]
     cbv at t5 w4 hnk hinb e1d hh1 e1c hh2 t7 t8
     cbv
     repeat first
      | (simp only [t5, w4, t7, e1d, t8, qq]; cbv)
      | refine an_Hi70 ?_
     obtain ⟨ov, t9⟩ : ∃ t, A.cond b1 true g1 = t := ⟨_, rfl⟩
     have hov : mayL l k d = !ov := by rw [hmay, ← t9]; subst hA; cases b1 <;> rfl
     cbv at t9
     simp only [t9]
     cases ov
     case true =>
      cbv
      subst hA hR
      rw [hB0]
      replace hc : c = (l.length : Int) := hc
      replace k0 : 0 ≤ k := k0
      replace hlt : k < c := hlt
      have wk : IntKind.wrap .i64 (k + 1) = k + 1 := wrap_i64 (by unfold r64; omega)
      refine ⟨(k + 1, G2), ⟨⟨by show 0 ≤ k + 1; omega, by show k + 1 ≤ c; omega⟩, hG2, fun i i0 i1 => ?_⟩, by show c.toNat - (k + 1).toNat < c.toNat - k.toNat; omega, rfl, told_less ?_⟩
      ·replace i1 : i < k + 1 := i1
       by_cases hik : i < k
       ·exact hno i i0 hik
       ·have : i = k := by omega
        subst this
        intro h
        rw [h.1] at hov
        cases hov
      ·simp [toldP, getS, A0, wk]
     case false =>
      obtain ⟨ap9, hap⟩ : ∃ z, z = applyS s y.c := ⟨_, rfl⟩
      have eap : GFsSD.applyR s ⟨A.gi (A.lift (A.cdrop (A.row xs k) 2)) 0, A.gi (A.lift (A.cdrop (A.row xs k) 2)) (A.pl 0 1), A.gi (A.lift (A.cdrop (A.row xs k) 2)) (A.pl 0 2), A.gs (A.lift (A.cdrop (A.row xs k) 2)) (A.pl 0 3), A.gs (A.lift (A.cdrop (A.row xs k) 2)) (A.pl 0 4), A.gs (A.lift (A.cdrop (A.row xs k) 2)) (A.pl 0 5), A.gs (A.lift (A.cdrop (A.row xs k) 2)) (A.pl 0 6)⟩ = ap9 := by rw [hap]; subst hA hFsSD; simp only [A0, hyr]; rfl
      have hh3 : A.has (A.lift (A.cdrop (A.row xs k) 2)) 0 7 [.d (.sc (.int .i64 (A.gi (A.lift (A.cdrop (A.row xs k) 2)) 0))), .d (.sc (.int .i64 (A.gi (A.lift (A.cdrop (A.row xs k) 2)) (A.pl 0 1)))), .d (.sc (.int .i64 (A.gi (A.lift (A.cdrop (A.row xs k) 2)) (A.pl 0 2)))), .d (.sc (.string (A.gs (A.lift (A.cdrop (A.row xs k) 2)) (A.pl 0 3)))), .d (.sc (.string (A.gs (A.lift (A.cdrop (A.row xs k) 2)) (A.pl 0 4)))), .d (.sc (.string (A.gs (A.lift (A.cdrop (A.row xs k) 2)) (A.pl 0 5)))), .d (.sc (.string (A.gs (A.lift (A.cdrop (A.row xs k) 2)) (A.pl 0 6))))] := by subst hA; simp only [A0, hyr]; exact ⟨rfl, by show 0 + 7 ≤ 12; decide, rfl⟩
      have e6 : GFsSD.isSt s := by subst hFsSD; exact hs.is
      have hs9 := hs.app hj0 (by omega) y.c
      have hpr9 := hs.rep hj0 (by omega) y.c
      have hyp : isP y.r.pairs := hevp y hym
      rw [← hap] at hs9
      obtain ⟨s9, w9, fd9, vl9, vr9, pr9⟩ := ap9
      have h9l : s9.length = 49 := hs9.is.len
      have hp9 : isP pr9 := by have := hpr9; rw [← hap] at this; exact this
      have espl : ∀ Z : List DV, Z.length = 49 → A.spl Z 0 s9 = s9 := by
       intro Z hZ
       subst hA
       show splice Z 0 s9 = s9
       simp [splice, hZ, h9l]
      cbv at e6 eap hh3
      cbv
      refine stepMf hBl hX hY [(0, .d (.slc 14 xs)), (1, .d (.sc (.int .i64 d))), (3, .d (.sc (.map (some g)))), (6, .ref 0 0 0), (10, .d (.sc (.int .i64 fi))), (12, .ref 1 0 0), (13, .d (.sc (.int .i64 k))), (14, .ref 2 0 0), (15, .ref 3 0 0)] ([⟨32, s, false, 0, true⟩] ++ [⟨126, [.d (.sc (.int .i64 d)), .d (.sc (.string key))], false, 0, true⟩] ++ [⟨32, s9, false, 0, true⟩, ⟨27, [.d (.sc (.int .i64 w9)), .d (.sc (.bool fd9)), .d (.sc (.string vl9)), .d (.sc (.int .i64 vr9)), .d (.slc 3 pr9)], false, 0, true⟩]) (fun R hR => ?_) ?_
      ·refine regionS [] (.node 10 11 (.leaf [0, 1, 2, 3, 4, 5, 6, 7, 8, 9, 10, 11, 12, 13] []) (.leaf [0, 1, 2, 3, 4, 5, 6, 7, 8, 9, 11, 10, 12, 13] [])) (T := fun _ => tabY [0, 2, 1000, 1002, 1006, 1044, 30, 31, 38, 39, 66, 67, 76, 77, 84, 85, 92, 93, 1079, 1080, 1014, 1103, 5005] []) (H := fun _ => [kn_stPutR GFsPu, kn_applyR GFsSD, kn_replies GFsOw]) (B := fun _ => []) (R := fun _ => []) (A := A) (tabY_ok _ _) hH noB_ok noR_ok follows_mixed hA hX ?_
       refine ⟨by decide, ⟨by decide, by kernel_rfl, by kernel_rfl, by kernel_rfl, ?_⟩, ⟨by decide, by kernel_rfl, by kernel_rfl, by kernel_rfl, ?_⟩⟩
       ·cbv
        repeat first
         | (simp only [etk, eap, qq]; cbv)
         | refine an_Hi70 ?_
        refine hR _ _ ?_
        refine told_eqM (congrArg (fun z : List DV => ([⟨32, s, false, 0, true⟩] ++ [⟨126, [.d (.sc (.int .i64 d)), .d (.sc (.string key))], false, 0, true⟩] ++ [⟨32, z, false, 0, true⟩, ⟨27, [.d (.sc (.int .i64 w9)), .d (.sc (.bool fd9)), .d (.sc (.string vl9)), .d (.sc (.int .i64 vr9)), .d (.slc 3 pr9)], false, 0, true⟩] : Store)) (espl _ rfl)) (by simp [toldP, getS])
       ·cbv
        repeat first
         | (simp only [etk, eap, qq]; cbv)
         | refine an_Hi70 ?_
        refine hR _ _ ?_
        refine Told.trans (s' := [(0, .d (.slc 14 xs)), (1, .d (.sc (.int .i64 d))), (3, .d (.sc (.map (some g)))), (6, .ref 0 0 0), (10, .d (.sc (.int .i64 fi))), (12, .ref 1 0 0), (13, .d (.sc (.int .i64 k))), (14, .ref 3 0 0), (15, .ref 2 0 0)]) (st' := ([⟨32, s, false, 0, true⟩] ++ [⟨126, [.d (.sc (.int .i64 d)), .d (.sc (.string key))], false, 0, true⟩] ++ [⟨27, [.d (.sc (.int .i64 w9)), .d (.sc (.bool fd9)), .d (.sc (.string vl9)), .d (.sc (.int .i64 vr9)), .d (.slc 3 pr9)], false, 0, true⟩, ⟨32, s9, false, 0, true⟩] : Store)) (told_eqM (congrArg (fun z : List DV => ([⟨32, s, false, 0, true⟩] ++ [⟨126, [.d (.sc (.int .i64 d)), .d (.sc (.string key))], false, 0, true⟩] ++ [⟨27, [.d (.sc (.int .i64 w9)), .d (.sc (.bool fd9)), .d (.sc (.string vl9)), .d (.sc (.int .i64 vr9)), .d (.slc 3 pr9)], false, 0, true⟩, ⟨32, z, false, 0, true⟩] : Store)) (espl _ rfl)) (by simp [toldP, getS])) ?_
        refine told_keep [0, 1, 3, 2] (by rw [hB0]; rfl) ?_ ?_
        ·simp [keepSt, pullBox, pullL, pullD, pullL_closed _ _ hs.is.closed, pullL_closed _ _ hs9.is.closed]
        ·simp [toldP, getS, pullD, List.idxOf?, List.findIdx?_cons]
      ·obtain ⟨nb, t10⟩ : ∃ t, A.cmp .lss yb 0 = t := ⟨_, rfl⟩
       have hnb : nb = decide (y.b < 0) := by rw [← t10, hyb]; subst hA; rfl
       cbv at t10
       cbv
       refine regMw (T := fun _ => tabY [0, 2, 1000, 1002, 1006, 1044, 30, 31, 38, 39, 66, 67, 76, 77, 84, 85, 92, 93, 1079, 1080, 1014, 1103, 5005] []) (H := fun _ => [kn_stPutR GFsPu, kn_applyR GFsSD, kn_replies GFsOw]) (tabY_ok _ _) hH follows_mixed hBl hA hX hY keyR mapR zeroI [48] (by kernel_rfl) fun C hC => ?_
       cbv
       obtain ⟨hb9, hhb⟩ : ∃ z, z = repliesX ⟨w9, fd9, vl9, vr9, pr9⟩ y.r := ⟨_, rfl⟩
       have ehs : GFsOw.replies ⟨w9, fd9, vl9, vr9, pr9⟩ ⟨A.gi (A.lift (A.cdrop (A.row xs k) 9)) 0, A.gb (A.lift (A.cdrop (A.row xs k) 9)) (A.pl 0 1), A.gs (A.lift (A.cdrop (A.row xs k) 9)) (A.pl 0 2), A.gi (A.lift (A.cdrop (A.row xs k) 9)) (A.pl 0 3), A.gl (A.lift (A.cdrop (A.row xs k) 9)) (A.pl 0 4)⟩ = hb9 := by rw [hhb]; subst hA hFsOw; simp only [A0, hyr]; rfl
       have hh4 : A.has (A.lift (A.cdrop (A.row xs k) 9)) 0 5 [.d (.sc (.int .i64 (A.gi (A.lift (A.cdrop (A.row xs k) 9)) 0))), .d (.sc (.bool (A.gb (A.lift (A.cdrop (A.row xs k) 9)) (A.pl 0 1)))), .d (.sc (.string (A.gs (A.lift (A.cdrop (A.row xs k) 9)) (A.pl 0 2)))), .d (.sc (.int .i64 (A.gi (A.lift (A.cdrop (A.row xs k) 9)) (A.pl 0 3)))), .d (.slc 3 (A.gl (A.lift (A.cdrop (A.row xs k) 9)) (A.pl 0 4)))] := by subst hA; simp only [A0, hyr]; exact ⟨rfl, by show 0 + 5 ≤ 5; decide, rfl⟩
       have hp1 : GFsOw.isP pr9 := by subst hFsOw; exact hp9
       have hp2 : GFsOw.isP (A.gl (A.lift (A.cdrop (A.row xs k) 9)) (A.pl 0 4)) := by
        subst hA hFsOw
        simp only [A0, hyr]
        exact hyp
       obtain ⟨d9, hd9⟩ : ∃ z, z = orX d k := ⟨_, rfl⟩
       have w5 : A.bin .or .i64 d (A.bin .shl .i64 1 k) = d9 := by rw [hd9]; subst hA; rfl
       have etk9 : A.tk s9 0 1 49 = s9 := by
        subst hA
        show (s9.drop 0).take (1 * 49) = s9
        rw [List.drop_zero, List.take_of_length_le (by omega)]
       have hfv9 : A.fitv s9 0 1 49 := by subst hA; show 0 + 1 * 49 ≤ s9.length; omega
       have hfit : fitR s y = (nb || hb9) := by unfold fitR; rw [hnb, hhb, ← hap]
       cbv at ehs hp1 hp2 w5 etk9 hfv9 hh4
       cases nb <;> cases hb9
       all_goals
        repeat first
         | (simp only [e1c, t10, w5, ehs, etk9, qq]; cbv)
         | refine an_Hi70 ?_
       ·subst hA hR
        rw [hB0]
        replace hc : c = (l.length : Int) := hc
        replace k0 : 0 ≤ k := k0
        replace hlt : k < c := hlt
        have wk : IntKind.wrap .i64 (k + 1) = k + 1 := wrap_i64 (by unfold r64; omega)
        refine ⟨(k + 1, G2), ⟨⟨by show 0 ≤ k + 1; omega, by show k + 1 ≤ c; omega⟩, hG2, fun i i0 i1 => ?_⟩, by show c.toNat - (k + 1).toNat < c.toNat - k.toNat; omega, rfl, told_keep [0, 1] rfl ?_ ?_⟩
        ·replace i1 : i < k + 1 := i1
         by_cases hik : i < k
         ·exact hno i i0 hik
         ·have : i = k := by omega
          subst this
          intro h
          have h2 := h.2.1
          rw [hyd, hfit] at h2
          cases h2
        ·simp [keepSt, pullBox, pullL, pullD, pullL_closed _ _ hs.is.closed]
        ·simp [toldP, getS, A0, wk, pullD, List.idxOf?, List.findIdx?_cons]
       all_goals
        subst hC
        refine ⟨by kernel_rfl, fitAt (hd9 ▸ hrecF k s9 G2 k0 hlt hov hs9 hG2) hs9.is.closed fun t G3 ht hG3 => ?_⟩
        cases t
        ·cbv
         repeat first
          | (simp only [qq]; cbv)
          | refine an_Hi70 ?_
         subst hA hR
         rw [hB0]
         replace hc : c = (l.length : Int) := hc
         replace k0 : 0 ≤ k := k0
         replace hlt : k < c := hlt
         have wk : IntKind.wrap .i64 (k + 1) = k + 1 := wrap_i64 (by unfold r64; omega)
         refine ⟨(k + 1, G3), ⟨⟨by show 0 ≤ k + 1; omega, by show k + 1 ≤ c; omega⟩, hG3, fun i i0 i1 => ?_⟩, by show c.toNat - (k + 1).toNat < c.toNat - k.toNat; omega, rfl, told_keep [0, 1] rfl ?_ ?_⟩
         ·replace i1 : i < k + 1 := i1
          by_cases hik : i < k
          ·exact hno i i0 hik
          ·have : i = k := by omega
           subst this
           intro h
           have h2 := h.2.2
           rw [hyd, ← hap, ← hd9] at h2
           cases ht.2 h2
         ·simp [keepSt, pullBox, pullL, pullD, pullL_closed _ _ hs.is.closed]
         ·simp [toldP, getS, A0, wk, pullD, List.idxOf?, List.findIdx?_cons]
        ·cbv
         repeat first
          | (simp only [qq]; cbv)
          | refine an_Hi70 ?_
         subst hA hX
         rw [hW G3]
         refine ret_keep [] rfl ⟨⟨true, rfl, fun _ => ?_, fun _ => rfl⟩, rfl, hG3⟩
         replace hc : c = (l.length : Int) := hc
         replace hlt : k < c := hlt
         have h2 := ht.1 rfl
         refine Lin.step k0 (by omega) hov (by rw [hyd, hfit]; rfl) ?_
         rw [hyd, ← hap, ← hd9]
         exact h2
    ·have t5 : A.cmp .lss k (A.len xs) = false := by
      subst hA
      replace hc : c = (l.length : Int) := hc
      replace hlt : ¬ k < c := hlt
      exact decide_eq_false (show ¬ k < (xs.length : Int) by omega)
     have hnl : ¬ Lin l d s := by
      replace hc : c = (l.length : Int) := hc
      replace hlt : ¬ k < c := hlt
      rw [Lin.iff hlf]
      rintro ⟨i, i0, i1, hi⟩
      exact hno i i0 (by omega) hi
     have hG3 : Bad l (putV G2 (keyV d key) (.int .i64 1)) := by rw [hky]; exact hG2.put hs hj9 hnl _
     cbv at t5
     cbv
     simp only [t5]
     cbv
     refine regMr (T := fun _ => tabY [0, 2, 1000, 1002, 1006, 1044, 30, 31, 38, 39, 66, 67, 76, 77, 84, 85, 92, 93, 1079, 1080, 1014, 1103, 5005] []) (H := fun _ => [kn_stPutR GFsPu, kn_applyR GFsSD, kn_replies GFsOw]) (tabY_ok _ _) hH follows_mixed hBl hA hX hY keyR mapR zeroI [] fun C hC => ?_
     cbv
     repeat' (refine And.intro ?_ ?_)
     all_goals subst hC hA
     all_goals first
      | exact trivial
      | rfl
      | (obtain ⟨w, hw⟩ := key_vR (d := d) (s := key) hdr hks; exact ⟨w, hw⟩)
      | exact ⟨1, rfl, by unfold r64; omega⟩
      | exact ⟨1, rfl⟩
      | exact ⟨1, rfl, by decide⟩
      | (subst hX
         rw [hW]
         exact ret_keep [] rfl ⟨⟨false, rfl, fun h => (by cases h), fun h => absurd h hnl⟩, rfl, hG3⟩)
end Go.Proofs.Ytadnpgkddgbhkaa
