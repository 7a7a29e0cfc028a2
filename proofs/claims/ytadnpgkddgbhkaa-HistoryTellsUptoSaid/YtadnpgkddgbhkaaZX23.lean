/- Histories: the program's search, walked. No condition. -/
import Derived.Test.YtadnpgkddgbhkaaZX22
import Derived.Test.YtadnpgkddgbhkaaZX18
namespace Go.Proofs.Ytadnpgkddgbhkaa
open Go.RowKit Go.Maps
set_option linter.all false
set_option maxHeartbeats 8000000
theorem fromAt {xs : List (List PD)} {l : List Ev} {d : Int} {s : List DV} {g : Nat} {G : MapF} {st : Store} {K : DV → Store → MapF → Prop} (h : FnM Try.prog 122 false 47 [.ref 0 0 0, .d (.sc (.int .i64 d)), .agg s] [sB xs (.map (some g))] g G (fun r st' G' => (∃ t : Bool, r = .d (.sc (.bool t)) ∧ (t = true ↔ Lin l d s)) ∧ st' = [sB xs (.map (some g))] ∧ Bad l G'))
  (hs : closedL 0 s = true) (hst : st[0]? = some (sB xs (.map (some g)))) (hk : ∀ (t : Bool) G', (t = true ↔ Lin l d s) → Bad l G' → K (.d (.sc (.bool t))) st G') : FnM Try.prog 122 false 47 [.ref 0 0 0, .d (.sc (.int .i64 d)), .agg s] st g G K := by
 have hlt : 0 < st.length := (List.getElem?_eq_some_iff.1 hst).1
 have hcl : closedL 1 s = true := closedL_mono (Nat.zero_le 1) _ hs
 refine FnM.at (args' := [.ref 0 0 0, .d (.sc (.int .i64 d)), .agg s]) h [0] (by simp [hlt, closedL, closedD, hcl]) ?_ (by simp [renL, renD, place, renL_pure _ _ hs]) ?_
 ·intro k r bx0 hk hs
  cases k with
  | zero =>
    simp at hk hs
    subst hk; subst hs
    exact ⟨hst, rfl⟩
  | succ k => simp at hk
 ·rintro r0 stc G' ⟨⟨t, rfl, ht⟩, rfl, hB⟩ _
  have e2 : mergeL st [0] ([sB xs (.map (some g))].map (Box.ren (place [0] st.length))) = st := by
   apply List.ext_getElem?
   intro i
   simp only [mergeL, List.map_cons, List.map_nil, List.length_singleton, List.drop_one, List.tail_cons, List.append_nil, List.getElem?_mapIdx]
   by_cases hi : i = 0
   ·subst hi
    rw [hst]
    simp [List.idxOf?, List.findIdx?_cons, Box.ren, renD]
   ·have : ([0] : List Nat).idxOf? i = none := by rw [List.idxOf?_eq_none_iff]; simpa using hi
    simp [this]
  rw [e2]
  exact hk t G' ht hB
theorem told_eqM {k : Nat} {s s' : SL} {st st' : Store} (e : st = st') (h : toldP id s s') : Told k s st s' st' := by subst e; exact told_less h
theorem evP {xs : List (List PD)} {l : List Ev} (hxs : xs = evsX l) (h : isEv xs) : ∀ e ∈ l, isP e.r.pairs := by
 obtain ⟨l2, e2, _, h2⟩ := h
 have : l = l2 := by rw [← evsOf_X l, ← evsOf_X l2, ← hxs, ← e2]
 subst this
 exact fun e he => (h2 e he).2.2.2
theorem stOk.rep {j : Int} {s : List DV} (h : stOk j s) (h0 : 0 ≤ j) (h1 : j ≤ 4611686018427387904) (c : Cmd) : isP (applyS s c).2.pairs := by
 obtain ⟨ps, os, rfl, h⟩ := h
 have hown : isP (ownAt os c.client).reply.pairs := by
  unfold ownAt
  rw [List.getD_eq_getElem?_getD]
  cases ho : os[(c.client - 1).toNat]? with
  | none => exact isP.nil
  | some o => exact ((h.2.2 o (List.mem_of_getElem? ho)).2.2.1).isP
 rcases apply_cases h h0 h1 c with ⟨_, e⟩ | ⟨_, _, e⟩ | ⟨_, _, _, e⟩ | ⟨_, _, _, e⟩ | ⟨_, _, _, qs, r, _, _, hR, _, e⟩
 ·rw [e]; exact isP.nil
 ·rw [e]; exact isP.nil
 ·rw [e]; exact hown
 ·rw [e]; exact isP.nil
 ·rw [e]; exact hR.isP
def slotC : Operand → Nat
 | .tmp t => t
 | _ => 0
theorem pickL {P : Program} {N : Nat} {X : Cps} (hX : X = X0 P N) {c x y : Operand} {s : SL} {st : Store} {K : DV → Store → Prop} {t : Bool} (hc : getS s (slotC c) = .d (.sc (.bool t))) (hcc : c = .tmp (slotC c)) (hk : K (bif t then evL s x else evL s y) st) : X.op (.pick c x y) s st K := by
 refine opL hX ?_
 have hev : ev (getS s) c = .d (.sc (.bool t)) := by rw [hcc]; exact hc
 show pickD (ev (getS s) c) (ev (getS s) x) (ev (getS s) y) fun d => K d st
 rw [hev]
 unfold pickD
 simp only
 split
 ·rename_i p q h1 h2
  have e : (bif t then evL s x else evL s y) = .d (.sc (.bool (bif t then p else q))) := by
   cases t
   ·exact h2
   ·exact h1
  rw [← e]; exact hk
 ·cases t
  ·exact ⟨fun h => (by cases h), fun _ => hk⟩
  ·exact ⟨fun _ => hk, fun h => (by cases h)⟩
def stepP (l : List Ev) (d : Int) (s : List DV) (i : Int) : Prop := mayL l i d = true ∧ fitR s (l.getD i.toNat default) = true ∧ Lin l (orX d i) (applyS s (l.getD i.toNat default).c).1
theorem Lin.iff {l : List Ev} {d : Int} {s : List DV} (hl : leftF d l 0 = true) : Lin l d s ↔ ∃ i : Int, 0 ≤ i ∧ i < (l.length : Int) ∧ stepP l d s i := by
 constructor
 ·intro h
  cases h with
  | done h => rw [h] at hl; cases hl
  | step h0 h1 h2 h3 h4 => exact ⟨_, h0, h1, h2, h3, h4⟩
 ·rintro ⟨i, h0, h1, h2, h3, h4⟩
  exact .step h0 h1 h2 h3 h4
set_option maxRecDepth 100000 in
theorem w_from (xs : List (List PD)) (l : List Ev) (hxs : xs = evsX l) (hl : l.length ≤ 12) (hev : isEv xs) : ∀ (N n : Nat) (s : List DV) (j : Int) (g : Nat) (G : MapF), n < 4096 → remN n ≤ N → stOk j s → 0 ≤ j → j + N ≤ 1000 → Bad l G →
  FnM Try.prog 122 false 47 [.ref 0 0 0, .d (.sc (.int .i64 n)), .agg s] [sB xs (.map (some g))] g G (fun r st' G' => (∃ t : Bool, r = .d (.sc (.bool t)) ∧ (t = true ↔ Lin l n s)) ∧ st' = [sB xs (.map (some g))] ∧ Bad l G') := by
 intro N
 induction N using Nat.strongRecOn with
 | _ N ih =>
 intro n s j g G hn hrem hs hj0 hjN hG
 have hsl : s.length = 49 := hs.is.len
 have hj9 : j ≤ 1000 := by omega
 have hxl : xs.length = l.length := by rw [hxs, evsX_len]
 have hevp : ∀ e ∈ l, isP e.r.pairs := evP hxs hev
 obtain ⟨d, hd⟩ : ∃ d : Int, d = n := ⟨_, rfl⟩
 rw [← hd]
 have hdr : r64 d := by unfold r64; omega
 obtain ⟨c, hc⟩ : ∃ c : Int, c = l.length := ⟨_, rfl⟩
 have hrecF : ∀ (k : Int) (s9 : List DV) (G2 : MapF), 0 ≤ k → k < c → mayL l k d = true → stOk (j + 1) s9 → Bad l G2 → FnM Try.prog 122 false 47 [.ref 0 0 0, .d (.sc (.int .i64 (orX d k))), .agg s9] [sB xs (.map (some g))] g G2 (fun r st' G' => (∃ t : Bool, r = .d (.sc (.bool t)) ∧ (t = true ↔ Lin l (orX d k) s9)) ∧ st' = [sB xs (.map (some g))] ∧ Bad l G') := by
  intro k s9 G2 k0 k1 hm h9 hG2
  have hb : n.testBit k.toNat = false := by
   unfold mayL at hm
   rw [hd, bit_nat hn k0 (by omega)] at hm
   cases hb : n.testBit k.toNat with
   | false => rfl
   | true => rw [hb] at hm; simp at hm
  have hlt := remN_or (n := n) (k := k.toNat) (by omega) hb
  have ho := or_nat hn k0 (by omega : k < 12)
  have := ih (remN (n ||| 2 ^ k.toNat)) (by omega) (n ||| 2 ^ k.toNat) s9 (j + 1) g G2 (or_lt hn (by omega)) (Nat.le_refl _) h9 (by omega) (by omega) hG2
  rw [← ho, ← hd] at this
  exact this
 obtain ⟨GFsPu, hFsPu⟩ : ∃ F, F = FsPu0 := ⟨_, rfl⟩
 obtain ⟨GFsS5, hFsS5⟩ : ∃ F, F = FsS50 := ⟨_, rfl⟩
 obtain ⟨GFsHa, hFsHa⟩ : ∃ F, F = FsHa0 := ⟨_, rfl⟩
 obtain ⟨GFsHm, hFsHm⟩ : ∃ F, F = FsHm0 := ⟨_, rfl⟩
 have hH : SoundK Try.prog [kn_stPut GFsPu, kn_apply GFsS5, kn_hsame GFsHa] := by subst hFsPu hFsS5 hFsHa hFsHm; exact orK_ok ok_stPut (orK_ok ok_apply (orK_ok ok_hsame noK_ok))
 have hB : SoundB Try.prog [kb_may GFsHm] := by subst hFsPu hFsS5 hFsHa hFsHm; exact orB_ok okb_may noB_ok
 refine FnM_M (T := fun _ => tabY [0, 2, 1000, 1002, 1005, 1045, 25, 1025, 67, 1067, 1079, 1015, 1097] [10, 18, 21]) (H := fun _ => [kn_stPut GFsPu, kn_apply GFsS5, kn_hsame GFsHa]) (tabY_ok _ _) hH follows_mixed Try.func47 rfl Try.ntmps47 (by simp) fun A X W Bs I Y hA hX hW hBl hBs hY => ?_
 cbv
 have q000 : A.cond false false false = false := by subst hA; rfl
 have q001 : A.cond false false true = true := by subst hA; rfl
 have q010 : A.cond false true false = false := by subst hA; rfl
 have q011 : A.cond false true true = true := by subst hA; rfl
 have q100 : A.cond true false false = false := by subst hA; rfl
 have q101 : A.cond true false true = false := by subst hA; rfl
 have q110 : A.cond true true false = true := by subst hA; rfl
 have q111 : A.cond true true true = true := by subst hA; rfl
 have f3 : A.not true = false := by subst hA; rfl
 have f4 : A.not false = true := by subst hA; rfl
 cbv at f3 f4 q000 q001 q010 q011 q100 q101 q110 q111
 have hwu : ∀ j : Int, 0 ≤ j → j ≤ 1048576 → IntKind.wrap .u64 j = j := fun j h0 h1 => by
  show j % 2 ^ 64 = j
  omega
 refine And.intro (by subst hA; show s.length ≤ 1000000; omega) ?_
 have hB1 : Bs.st.length = 1 := by rw [hBs]; rfl
 refine loopM (T := fun _ => tabY [0, 2, 1000, 1002, 1005, 1045, 25, 1025, 67, 1067, 1079, 1015, 1097] [10, 18, 21]) (H := fun _ => [kn_stPut GFsPu, kn_apply GFsS5, kn_hsame GFsHa]) (tabY_ok _ _) hH follows_mixed hBl hA hX hY (fun x : Int × Bool => (0 ≤ x.1 ∧ x.1 ≤ c) ∧ leftF d l 0 = (x.2 || leftF d (l.drop x.1.toNat) x.1)) (fun x => [(0, .ref 0 0 0), (1, .d (.sc (.int .i64 d))), (5, .ref 1 0 0), (7, .d (.sc (.bool x.2))), (20, .d (.slc 14 xs)), (21, .d (.sc (.int .i64 c))), (22, .d (.sc (.int .i64 x.1)))]) (fun _ => [sB xs (.map (some g)), ⟨32, s, false, 0, true⟩]) (fun _ => some (g, G)) (fun x => c.toNat - x.1.toNat) (0, false) ?_ ?_ rfl ?_
 ·replace hc : c = (l.length : Int) := hc
  exact ⟨⟨Int.le_refl 0, by show 0 ≤ c; omega⟩, by simp⟩
 ·subst hA
  refine told_less ?_
  replace hc : c = (l.length : Int) := hc
  simp [toldP, getS, A0, hc, hxl]
 rintro R ⟨k, b⟩ hR ⟨⟨k0, k1⟩, hk⟩
 replace k0 : 0 ≤ k := k0
 replace k1 : k ≤ c := k1
 replace hk : leftF d l 0 = (b || leftF d (l.drop k.toNat) k) := hk
 by_cases hlt : k < c
 ·have t2 : A.cmp .lss k c = true := by subst hA; exact decide_eq_true hlt
  replace hc : c = (l.length : Int) := hc
  have hkl : k < (l.length : Int) := by omega
  obtain ⟨y, hy⟩ : ∃ y, y = l[k.toNat]'(by omega) := ⟨_, rfl⟩
  have hyr : xs.getD k.toNat [] = y.row := by rw [hy]; exact evrow hxs k0 hkl
  obtain ⟨bk, hbk⟩ : ∃ z, z = bitX d k := ⟨_, rfl⟩
  have w3 : A.wrap .u64 k = k := by subst hA; exact hwu k k0 (by omega)
  have w4 : A.bin .and .i64 (A.bin .shr .i64 d k) 1 = bk := by subst hA; exact hbk.symm
  have hnk : A.nn k := by subst hA; exact k0
  have hinb : A.inb k (A.len xs) := by subst hA; exact ⟨k0, by show k < (xs.length : Int); omega⟩
  have hhas : A.has (A.lift (A.row xs k)) 0 14 [.d (.sc (.int .i64 (A.gi (A.lift (A.row xs k)) 0))), .d (.sc (.int .i64 (A.gi (A.lift (A.row xs k)) (A.pl 0 1)))), .d (.sc (.int .i64 (A.gi (A.lift (A.row xs k)) (A.pl 0 2)))), .d (.sc (.int .i64 (A.gi (A.lift (A.row xs k)) (A.pl 0 3)))), .d (.sc (.int .i64 (A.gi (A.lift (A.row xs k)) (A.pl 0 4)))), .d (.sc (.string (A.gs (A.lift (A.row xs k)) (A.pl 0 5)))), .d (.sc (.string (A.gs (A.lift (A.row xs k)) (A.pl 0 6)))), .d (.sc (.string (A.gs (A.lift (A.row xs k)) (A.pl 0 7)))), .d (.sc (.string (A.gs (A.lift (A.row xs k)) (A.pl 0 8)))), .d (.sc (.int .i64 (A.gi (A.lift (A.row xs k)) (A.pl 0 9)))), .d (.sc (.bool (A.gb (A.lift (A.row xs k)) (A.pl 0 10)))), .d (.sc (.string (A.gs (A.lift (A.row xs k)) (A.pl 0 11)))), .d (.sc (.int .i64 (A.gi (A.lift (A.row xs k)) (A.pl 0 12)))), .d (.slc 3 (A.gl (A.lift (A.row xs k)) (A.pl 0 13)))] := by subst hA; simp only [A0, hyr]; exact ⟨rfl, Nat.le_refl _, rfl⟩
  have e1 : A.gi (A.lift (A.row xs k)) (A.pl 0 1) = y.b := by subst hA; simp only [A0, hyr]; rfl
  rw [evdrop k0 hkl, ← hy] at hk
  obtain ⟨bb, t3⟩ : ∃ t, A.cmp .eql bk 0 = t := ⟨_, rfl⟩
  have hbb : bb = decide (bk = 0) := by rw [← t3]; subst hA; rfl
  obtain ⟨tt, t4⟩ : ∃ t, A.cmp .geq y.b 0 = t := ⟨_, rfl⟩
  have htt : tt = decide (0 ≤ y.b) := by rw [← t4]; subst hA; rfl
  obtain ⟨yb, hyb⟩ : ∃ z, z = y.b := ⟨_, rfl⟩
  rw [← hyb] at e1 t4
  cbv at t2 w3 w4 hnk hinb hhas e1 t3 t4
  simp only [e1] at hhas
  cbv
  repeat first
   | (simp only [t2, w3, w4, e1, t3, t4, q000, q001, q010, q011, q100, q101, q110, q111, f3, f4]; cbv)
   | refine And.intro (by
       subst hA hX hFsPu hFsS5 hFsHa hFsHm
       clear hH hB
       first
        | exact trivial
        | exact rfl
        | (simp [A0]; done)
        | (intro q; exact q)
        | (intro q; simpa [A0] using q)
        | (intro _; trivial)
        | (show Region.lexB _ _ = true; kernel_rfl)
        | (show turnsB _ = true; kernel_rfl)
        | assumption) ?_
   | (refine pickL hX (t := true) (by rfl) rfl ?_; cbv)
   | (refine pickL hX (t := false) (by rfl) rfl ?_; cbv)
   | ((with_reducible refine callB hX hB ?_); cbv; fail_if_success show False)
  obtain ⟨b9, hb9⟩ : ∃ z, z = (b || (tt && bb)) := ⟨_, rfl⟩
  cases b <;> cases tt <;> cases bb
  all_goals
   repeat first
    | (simp only [t2, w3, w4, e1, t3, t4, q000, q001, q010, q011, q100, q101, q110, q111, f3, f4]; cbv)
    | refine And.intro (by
        subst hA hX hFsPu hFsS5 hFsHa hFsHm
        clear hH hB
        first
         | exact trivial
         | exact rfl
         | (simp [A0]; done)
         | (intro q; exact q)
         | (intro q; simpa [A0] using q)
         | (intro _; trivial)
         | (show Region.lexB _ _ = true; kernel_rfl)
         | (show turnsB _ = true; kernel_rfl)
         | assumption) ?_
    | (refine pickL hX (t := true) (by rfl) rfl ?_; cbv)
    | (refine pickL hX (t := false) (by rfl) rfl ?_; cbv)
    | ((with_reducible refine callB hX hB ?_); cbv; fail_if_success show False)
  all_goals
    (subst hA hR
     rw [hB1]
     replace hc : c = (l.length : Int) := hc
     replace k0 : 0 ≤ k := k0
     replace hlt : k < c := hlt
     have wk : IntKind.wrap .i64 (k + 1) = k + 1 := wrap_i64 (by unfold r64; omega)
     refine ⟨(k + 1, b9), ⟨⟨by show 0 ≤ k + 1; omega, by show k + 1 ≤ c; omega⟩, hk.trans ?_⟩, by show c.toNat - (k + 1).toNat < c.toNat - k.toNat; omega, rfl, told_keep [0, 1] rfl ?_ ?_⟩
     ·rw [leftF, ← htt, ← hbk, ← hbb, hb9]
      try rfl
      try simp
     ·simp [keepSt, pullBox, pullL, pullD, pullL_closed _ _ hs.is.closed]
     ·simp [toldP, getS, A0, wk, pullD, hb9, List.idxOf?, List.findIdx?_cons])
 ·have t2 : A.cmp .lss k c = false := by subst hA; exact decide_eq_false hlt
  have hlf : leftF d l 0 = b := by
   replace hc : c = (l.length : Int) := hc
   rw [hk, List.drop_eq_nil_of_le (by omega)]
   simp [leftF]
  obtain ⟨bt, hbt⟩ : ∃ z, z = GFsPu.stPut s := ⟨_, rfl⟩
  obtain ⟨key, hkey⟩ : ∃ z, z = A.bstr bt := ⟨_, rfl⟩
  have hbs : bt = bytesSt s := by rw [hbt]; subst hFsPu; rfl
  have hky : key = strS s := by rw [hkey]; subst hA; rw [hbs]; rfl
  have hisb : A.isby bt := by
   rw [hbs]
   subst hA
   obtain ⟨bs, hb, _⟩ := hs.by hj9
   exact ⟨bs, hb⟩
  have etk : A.tk s 0 1 49 = s := by
   subst hA
   show (s.drop 0).take (1 * 49) = s
   rw [List.drop_zero, List.take_of_length_le (by omega)]
  have hfv : A.fitv s 0 1 49 := by subst hA; show 0 + 1 * 49 ≤ s.length; omega
  have e2 : GFsPu.isSt s := by subst hFsPu; exact hs.is
  have e3 : GFsPu.okV s := by subst hFsPu; exact hs.v hj9
  have hks : key.size ≤ maxLen := by rw [hky]; have := strS_size hs hj9; unfold maxLen; omega
  cbv at t2 hbt hkey hisb e2 e3 etk hfv
  cbv
  simp only [t2]
  cbv
  cases b
  ·simp only [f3, f4]
   cbv
   subst hA hX
   rw [hW G]
   exact ret_keep [0] rfl ⟨⟨true, rfl, fun _ => .done hlf, fun _ => rfl⟩, rfl, hG⟩
  ·simp only [f3, f4]
   cbv
   repeat first
    | (simp only [etk, ← hbt, ← hkey, q000, q001, q010, q011, q100, q101, q110, q111, f3, f4]; cbv)
    | refine And.intro (by
        subst hA hX hFsPu hFsS5 hFsHa hFsHm
        clear hH hB
        first
         | exact trivial
         | exact rfl
         | (simp [A0]; done)
         | (intro q; exact q)
         | (intro q; simpa [A0] using q)
         | (intro _; trivial)
         | (show Region.lexB _ _ = true; kernel_rfl)
         | (show turnsB _ = true; kernel_rfl)
         | assumption) ?_
    | (refine pickL hX (t := true) (by rfl) rfl ?_; cbv)
    | (refine pickL hX (t := false) (by rfl) rfl ?_; cbv)
    | ((with_reducible refine callB hX hB ?_); cbv; fail_if_success show False)
   obtain ⟨hit, hhit⟩ : ∃ z, z = (G (keyV d key)).isSome := ⟨_, rfl⟩
   refine stepMa (T := fun _ => tabY [0, 2, 1000, 1002, 1005, 1045, 25, 1025, 67, 1067, 1079, 1015, 1097] []) (H := fun _ => [kn_stPut GFsPu, kn_apply GFsS5, kn_hsame GFsHa]) (tabY_ok _ _) hH follows_mixed hBl hA hX hY keyT mapT zeroE [] ([(0, .ref 0 0 0), (1, .d (.sc (.int .i64 d))), (5, .ref 1 0 0), (10, .ref 2 0 0), (12, .d (.sc (.bool hit)))]) ([sB xs (.map (some g)), ⟨32, s, false, 0, true⟩] ++ [⟨122, [.d (.sc (.int .i64 d)), .d (.sc (.string key))], false, 0, true⟩]) (some (g, G)) (fun C R hC hR => ?_) ?_
   ·have hch : C.has G (Value.agg ⟨[.int .i64 d, .string key]⟩) = hit := by rw [hhit, hC]; rfl
    cbv at hch
    cbv
    simp only [hch]
    repeat' (refine And.intro ?_ ?_)
    all_goals subst hC hA
    all_goals first
     | exact trivial
     | rfl
     | (obtain ⟨w, hw⟩ := key_vT (d := d) (s := key) hdr hks; exact ⟨w, hw⟩)
     | (refine hR _ _ ?_
        rw [hB1]
        refine told_keep [0, 1, 2] rfl ?_ ?_
        ·simp [keepSt, pullBox, pullL, pullD, pullL_closed _ _ hs.is.closed]
        ·simp [toldP, getS, pullD, List.idxOf?, List.findIdx?_cons]
         try exact hhit.symm)
     | fail
   cbv
   cases hit
   ·cbv
    refine loopM (T := fun _ => tabY [0, 2, 1000, 1002, 1005, 1045, 25, 1025, 67, 1067, 1079, 1015, 1097] [10, 18, 21]) (H := fun _ => [kn_stPut GFsPu, kn_apply GFsS5, kn_hsame GFsHa]) (tabY_ok _ _) hH follows_mixed hBl hA hX hY (fun x : Int × MapF => (0 ≤ x.1 ∧ x.1 ≤ c) ∧ Bad l x.2 ∧ ∀ i : Int, 0 ≤ i → i < x.1 → ¬ stepP l d s i) (fun x => [(0, .ref 0 0 0), (1, .d (.sc (.int .i64 d))), (5, .ref 1 0 0), (10, .ref 2 0 0), (62, .d (.slc 14 xs)), (63, .d (.sc (.int .i64 c))), (64, .d (.sc (.int .i64 x.1)))]) (fun _ => [sB xs (.map (some g)), ⟨32, s, false, 0, true⟩] ++ [⟨122, [.d (.sc (.int .i64 d)), .d (.sc (.string key))], false, 0, true⟩]) (fun x => some (g, x.2)) (fun x => c.toNat - x.1.toNat) (0, G) ?_ ?_ rfl ?_
    ·replace hc : c = (l.length : Int) := hc
     exact ⟨⟨Int.le_refl 0, by show 0 ≤ c; omega⟩, hG, fun i h0 h1 => absurd h1 (by show ¬ i < 0; omega)⟩
    ·subst hA
     refine told_less ?_
     replace hc : c = (l.length : Int) := hc
     simp [toldP, getS, A0, hc, hxl]
    rintro R ⟨k, G2⟩ hR ⟨⟨k0, k1⟩, hG2, hno⟩
    replace k0 : 0 ≤ k := k0
    replace k1 : k ≤ c := k1
    replace hG2 : Bad l G2 := hG2
    replace hno : ∀ i : Int, 0 ≤ i → i < k → ¬ stepP l d s i := hno
    by_cases hlt : k < c
    ·have t5 : A.cmp .lss k c = true := by subst hA; exact decide_eq_true hlt
     replace hc : c = (l.length : Int) := hc
     have hkl : k < (l.length : Int) := by omega
     obtain ⟨y, hy⟩ : ∃ y, y = l[k.toNat]'(by omega) := ⟨_, rfl⟩
     have hyr : xs.getD k.toNat [] = y.row := by rw [hy]; exact evrow hxs k0 hkl
     obtain ⟨bk, hbk⟩ : ∃ z, z = bitX d k := ⟨_, rfl⟩
     have w3 : A.wrap .u64 k = k := by subst hA; exact hwu k k0 (by omega)
     have w4 : A.bin .and .i64 (A.bin .shr .i64 d k) 1 = bk := by subst hA; exact hbk.symm
     have hnk : A.nn k := by subst hA; exact k0
     have hinb : A.inb k (A.len xs) := by subst hA; exact ⟨k0, by show k < (xs.length : Int); omega⟩
     have hhas : A.has (A.lift (A.row xs k)) 0 14 [.d (.sc (.int .i64 (A.gi (A.lift (A.row xs k)) 0))), .d (.sc (.int .i64 (A.gi (A.lift (A.row xs k)) (A.pl 0 1)))), .d (.sc (.int .i64 (A.gi (A.lift (A.row xs k)) (A.pl 0 2)))), .d (.sc (.int .i64 (A.gi (A.lift (A.row xs k)) (A.pl 0 3)))), .d (.sc (.int .i64 (A.gi (A.lift (A.row xs k)) (A.pl 0 4)))), .d (.sc (.string (A.gs (A.lift (A.row xs k)) (A.pl 0 5)))), .d (.sc (.string (A.gs (A.lift (A.row xs k)) (A.pl 0 6)))), .d (.sc (.string (A.gs (A.lift (A.row xs k)) (A.pl 0 7)))), .d (.sc (.string (A.gs (A.lift (A.row xs k)) (A.pl 0 8)))), .d (.sc (.int .i64 (A.gi (A.lift (A.row xs k)) (A.pl 0 9)))), .d (.sc (.bool (A.gb (A.lift (A.row xs k)) (A.pl 0 10)))), .d (.sc (.string (A.gs (A.lift (A.row xs k)) (A.pl 0 11)))), .d (.sc (.int .i64 (A.gi (A.lift (A.row xs k)) (A.pl 0 12)))), .d (.slc 3 (A.gl (A.lift (A.row xs k)) (A.pl 0 13)))] := by subst hA; simp only [A0, hyr]; exact ⟨rfl, Nat.le_refl _, rfl⟩
     have e1 : A.gi (A.lift (A.row xs k)) (A.pl 0 1) = y.b := by subst hA; simp only [A0, hyr]; rfl
     obtain ⟨mb, hmb⟩ : ∃ z, z = mayL l k d := ⟨_, rfl⟩
     have e4 : GFsHm.may xs k d = mb := by rw [hmb]; subst hFsHm; show mayL (evsOf xs) k d = _; rw [hxs, evsOf_X]
     have e5 : GFsHm.inX xs k := by subst hFsHm; exact ⟨hev, k0, by show k < (xs.length : Int); omega⟩
     cbv at t5 w3 w4 hnk hinb hhas e1 e4 e5
     cbv
     repeat first
      | (simp only [t5, w3, w4, e4, q000, q001, q010, q011, q100, q101, q110, q111, f3, f4]; cbv)
      | refine And.intro (by
          subst hA hX hFsPu hFsS5 hFsHa hFsHm
          clear hH hB
          first
           | exact trivial
           | exact rfl
           | (simp [A0]; done)
           | (intro q; exact q)
           | (intro q; simpa [A0] using q)
           | (intro _; trivial)
           | (show Region.lexB _ _ = true; kernel_rfl)
           | (show turnsB _ = true; kernel_rfl)
           | assumption) ?_
      | (refine pickL hX (t := true) (by rfl) rfl ?_; cbv)
      | (refine pickL hX (t := false) (by rfl) rfl ?_; cbv)
      | ((with_reducible refine callB hX hB ?_); cbv; fail_if_success show False)
     cases mb
     ·simp only [f3, f4]
      cbv
      subst hA hR
      rw [hB1]
      replace hc : c = (l.length : Int) := hc
      replace k0 : 0 ≤ k := k0
      replace hlt : k < c := hlt
      have wk : IntKind.wrap .i64 (k + 1) = k + 1 := wrap_i64 (by unfold r64; omega)
      refine ⟨(k + 1, G2), ⟨⟨by show 0 ≤ k + 1; omega, by show k + 1 ≤ c; omega⟩, hG2, fun i i0 i1 => ?_⟩, by show c.toNat - (k + 1).toNat < c.toNat - k.toNat; omega, rfl, told_keep [0, 1, 2] rfl ?_ ?_⟩
      ·replace i1 : i < k + 1 := i1
       by_cases hik : i < k
       ·exact hno i i0 hik
       ·have : i = k := by omega
        subst this
        intro h
        rw [h.1] at hmb
        cases hmb
      ·simp [keepSt, pullBox, pullL, pullD, pullL_closed _ _ hs.is.closed]
      ·simp [toldP, getS, A0, wk, pullD, List.idxOf?, List.findIdx?_cons]
     ·obtain ⟨ap9, hap⟩ : ∃ z, z = applyS s y.c := ⟨_, rfl⟩
      have eap : GFsS5.apply s ⟨A.gi (A.lift (A.row xs k)) (A.pl 0 2), A.gi (A.lift (A.row xs k)) (A.pl 0 3), A.gi (A.lift (A.row xs k)) (A.pl 0 4), A.gs (A.lift (A.row xs k)) (A.pl 0 5), A.gs (A.lift (A.row xs k)) (A.pl 0 6), A.gs (A.lift (A.row xs k)) (A.pl 0 7), A.gs (A.lift (A.row xs k)) (A.pl 0 8)⟩ = ap9 := by rw [hap]; subst hA hFsS5; simp only [A0, hyr]; rfl
      have e6 : GFsS5.isSt s := by subst hFsS5; exact hs.is
      have hs9 := hs.app hj0 (by omega) y.c
      have hpr9 := hs.rep hj0 (by omega) y.c
      have hyd : l.getD k.toNat default = y := by
       replace hc : c = (l.length : Int) := hc
       replace hlt : k < c := hlt
       rw [hy, List.getD_eq_getElem?_getD, List.getElem?_eq_getElem (by omega)]
       rfl
      have hyp : isP y.r.pairs := hevp y (by rw [hy]; exact List.getElem_mem _)
      rw [← hap] at hs9
      obtain ⟨s9, w9, fd9, vl9, vr9, pr9⟩ := ap9
      have h9l : s9.length = 49 := hs9.is.len
      have hp9 : isP pr9 := by have := hpr9; rw [← hap] at this; exact this
      cbv at eap e6
      simp only [f3, f4]
      cbv
      repeat first
       | (simp only [etk, eap, q000, q001, q010, q011, q100, q101, q110, q111, f3, f4]; cbv)
       | refine And.intro (by
           subst hA hX hFsPu hFsS5 hFsHa hFsHm
           clear hH hB
           first
            | exact trivial
            | exact rfl
            | (simp [A0]; done)
            | (intro q; exact q)
            | (intro q; simpa [A0] using q)
            | (intro _; trivial)
            | (show Region.lexB _ _ = true; kernel_rfl)
            | (show turnsB _ = true; kernel_rfl)
            | assumption) ?_
       | (refine pickL hX (t := true) (by rfl) rfl ?_; cbv)
       | (refine pickL hX (t := false) (by rfl) rfl ?_; cbv)
       | ((with_reducible refine callB hX hB ?_); cbv; fail_if_success show False)
      have espl : ∀ Z : List DV, Z.length = 49 → A.spl Z 0 s9 = s9 := by
       intro Z hZ
       subst hA
       show splice Z 0 s9 = s9
       simp [splice, hZ, h9l]
      refine pauseM hBl hY (s' := [(0, .ref 0 0 0), (1, .d (.sc (.int .i64 d))), (5, .ref 1 0 0), (10, .ref 2 0 0), (13, .d (.sc (.int .i64 k))), (14, .ref 3 0 0), (15, .ref 4 0 0), (16, .ref 5 0 0), (62, .d (.slc 14 xs)), (63, .d (.sc (.int .i64 c))), (64, .d (.sc (.int .i64 k)))]) (st' := [sB xs (.map (some g)), ⟨32, s, false, 0, true⟩] ++ [⟨122, [.d (.sc (.int .i64 d)), .d (.sc (.string key))], false, 0, true⟩] ++ [⟨67, [.d (.sc (.int .i64 (A.gi (A.lift (A.row xs k)) 0))), .d (.sc (.int .i64 (A.gi (A.lift (A.row xs k)) (A.pl 0 1)))), .d (.sc (.int .i64 (A.gi (A.lift (A.row xs k)) (A.pl 0 2)))), .d (.sc (.int .i64 (A.gi (A.lift (A.row xs k)) (A.pl 0 3)))), .d (.sc (.int .i64 (A.gi (A.lift (A.row xs k)) (A.pl 0 4)))), .d (.sc (.string (A.gs (A.lift (A.row xs k)) (A.pl 0 5)))), .d (.sc (.string (A.gs (A.lift (A.row xs k)) (A.pl 0 6)))), .d (.sc (.string (A.gs (A.lift (A.row xs k)) (A.pl 0 7)))), .d (.sc (.string (A.gs (A.lift (A.row xs k)) (A.pl 0 8)))), .d (.sc (.int .i64 (A.gi (A.lift (A.row xs k)) (A.pl 0 9)))), .d (.sc (.bool (A.gb (A.lift (A.row xs k)) (A.pl 0 10)))), .d (.sc (.string (A.gs (A.lift (A.row xs k)) (A.pl 0 11)))), .d (.sc (.int .i64 (A.gi (A.lift (A.row xs k)) (A.pl 0 12)))), .d (.slc 3 (A.gl (A.lift (A.row xs k)) (A.pl 0 13)))], false, 0, true⟩, ⟨32, s9, false, 0, true⟩, ⟨27, [.d (.sc (.int .i64 w9)), .d (.sc (.bool fd9)), .d (.sc (.string vl9)), .d (.sc (.int .i64 vr9)), .d (.slc 3 pr9)], false, 0, true⟩]) (told_eqM (congrArg (fun z => [sB xs (.map (some g)), ⟨32, s, false, 0, true⟩] ++ [⟨122, [.d (.sc (.int .i64 d)), .d (.sc (.string key))], false, 0, true⟩] ++ [⟨67, [.d (.sc (.int .i64 (A.gi (A.lift (A.row xs k)) 0))), .d (.sc (.int .i64 (A.gi (A.lift (A.row xs k)) (A.pl 0 1)))), .d (.sc (.int .i64 (A.gi (A.lift (A.row xs k)) (A.pl 0 2)))), .d (.sc (.int .i64 (A.gi (A.lift (A.row xs k)) (A.pl 0 3)))), .d (.sc (.int .i64 (A.gi (A.lift (A.row xs k)) (A.pl 0 4)))), .d (.sc (.string (A.gs (A.lift (A.row xs k)) (A.pl 0 5)))), .d (.sc (.string (A.gs (A.lift (A.row xs k)) (A.pl 0 6)))), .d (.sc (.string (A.gs (A.lift (A.row xs k)) (A.pl 0 7)))), .d (.sc (.string (A.gs (A.lift (A.row xs k)) (A.pl 0 8)))), .d (.sc (.int .i64 (A.gi (A.lift (A.row xs k)) (A.pl 0 9)))), .d (.sc (.bool (A.gb (A.lift (A.row xs k)) (A.pl 0 10)))), .d (.sc (.string (A.gs (A.lift (A.row xs k)) (A.pl 0 11)))), .d (.sc (.int .i64 (A.gi (A.lift (A.row xs k)) (A.pl 0 12)))), .d (.slc 3 (A.gl (A.lift (A.row xs k)) (A.pl 0 13)))], false, 0, true⟩, ⟨32, z, false, 0, true⟩, ⟨27, [.d (.sc (.int .i64 w9)), .d (.sc (.bool fd9)), .d (.sc (.string vl9)), .d (.sc (.int .i64 vr9)), .d (.slc 3 pr9)], false, 0, true⟩]) (espl _ rfl)) (by simp [toldP, getS])) ?_
      obtain ⟨nb, t7⟩ : ∃ t, A.cmp .lss y.b 0 = t := ⟨_, rfl⟩
      have hnb : nb = decide (y.b < 0) := by rw [← t7]; subst hA; rfl
      obtain ⟨hb9, hhb⟩ : ∃ z, z = repliesX ⟨w9, fd9, vl9, vr9, pr9⟩ y.r := ⟨_, rfl⟩
      have ehs : GFsHa.hsame ⟨w9, fd9, vl9, vr9, pr9⟩ ⟨A.gi (A.lift (A.row xs k)) (A.pl 0 9), A.gb (A.lift (A.row xs k)) (A.pl 0 10), A.gs (A.lift (A.row xs k)) (A.pl 0 11), A.gi (A.lift (A.row xs k)) (A.pl 0 12), A.gl (A.lift (A.row xs k)) (A.pl 0 13)⟩ = hb9 := by rw [hhb]; subst hA hFsHa; simp only [A0, hyr]; rfl
      have hp1 : GFsHa.isP pr9 := by subst hFsHa; exact hp9
      have hp2 : GFsHa.isP (A.gl (A.lift (A.row xs k)) (A.pl 0 13)) := by
       subst hA hFsHa
       simp only [A0, hyr]
       exact hyp
      obtain ⟨d9, hd9⟩ : ∃ z, z = orX d k := ⟨_, rfl⟩
      have w5 : A.bin .or .i64 d (A.bin .shl .i64 1 k) = d9 := by rw [hd9]; subst hA; rfl
      have etk9 : A.tk s9 0 1 49 = s9 := by
       subst hA
       show (s9.drop 0).take (1 * 49) = s9
       rw [List.drop_zero, List.take_of_length_le (by omega)]
      have hfv9 : A.fitv s9 0 1 49 := by subst hA; show 0 + 1 * 49 ≤ s9.length; omega
      have hfit : fitR s y = (nb || hb9) := by unfold fitR; rw [hnb, hhb, ← hap]
      cbv at t7 ehs hp1 hp2 w5 etk9 hfv9
      refine regMr (T := fun _ => tabY [0, 2, 1000, 1002, 1005, 1045, 25, 1025, 67, 1067, 1079, 1015, 1097] []) (H := fun _ => [kn_stPut GFsPu, kn_apply GFsS5, kn_hsame GFsHa]) (tabY_ok _ _) hH follows_mixed hBl hA hX hY keyT mapT zeroE [47] fun C hC => ?_
      cbv
      cases nb <;> cases hb9
      all_goals
       repeat first
        | (simp only [e1, t7, ehs, w3, w5, etk9, q000, q001, q010, q011, q100, q101, q110, q111, f3, f4]; cbv)
        | refine And.intro (by
            subst hA hX hFsPu hFsS5 hFsHa hFsHm
            clear hH hB
            first
             | exact trivial
             | exact rfl
             | (simp [A0]; done)
             | (intro q; exact q)
             | (intro q; simpa [A0] using q)
             | (intro _; trivial)
             | (show Region.lexB _ _ = true; kernel_rfl)
             | (show turnsB _ = true; kernel_rfl)
             | assumption) ?_
        | (refine pickL hX (t := true) (by rfl) rfl ?_; cbv)
        | (refine pickL hX (t := false) (by rfl) rfl ?_; cbv)
        | ((with_reducible refine callB hX hB ?_); cbv; fail_if_success show False)
      ·subst hC hA hR
       rw [hB1]
       replace hc : c = (l.length : Int) := hc
       replace k0 : 0 ≤ k := k0
       replace hlt : k < c := hlt
       have wk : IntKind.wrap .i64 (k + 1) = k + 1 := wrap_i64 (by unfold r64; omega)
       refine ⟨(k + 1, G2), ⟨⟨by show 0 ≤ k + 1; omega, by show k + 1 ≤ c; omega⟩, hG2, fun i i0 i1 => ?_⟩, by show c.toNat - (k + 1).toNat < c.toNat - k.toNat; omega, rfl, told_keep [0, 1, 2] rfl ?_ ?_⟩
       ·replace i1 : i < k + 1 := i1
        by_cases hik : i < k
        ·exact hno i i0 hik
        ·have : i = k := by omega
         subst this
         intro h
         have h2 := h.2.1
         rw [hyd, hfit] at h2
         cases h2
       ·simp [keepSt, pullBox, pullL, pullD, pullL_closed _ _ hs.is.closed]
       ·simp [toldP, getS, A0, wk, pullD, List.idxOf?, List.findIdx?_cons]
      all_goals
       subst hC
       refine ⟨by kernel_rfl, fromAt (hd9 ▸ hrecF k s9 G2 k0 hlt hmb.symm hs9 hG2) hs9.is.closed rfl fun t G3 ht hG3 => ?_⟩
       cases t
       ·cbv
        repeat first
         | (simp only [q000, q001, q010, q011, q100, q101, q110, q111, f3, f4]; cbv)
         | refine And.intro (by
             subst hA hX hFsPu hFsS5 hFsHa hFsHm
             clear hH hB
             first
              | exact trivial
              | exact rfl
              | (simp [A0]; done)
              | (intro q; exact q)
              | (intro q; simpa [A0] using q)
              | (intro _; trivial)
              | (show Region.lexB _ _ = true; kernel_rfl)
              | (show turnsB _ = true; kernel_rfl)
              | assumption) ?_
         | (refine pickL hX (t := true) (by rfl) rfl ?_; cbv)
         | (refine pickL hX (t := false) (by rfl) rfl ?_; cbv)
         | ((with_reducible refine callB hX hB ?_); cbv; fail_if_success show False)
        subst hA hR
        rw [hB1]
        replace hc : c = (l.length : Int) := hc
        replace k0 : 0 ≤ k := k0
        replace hlt : k < c := hlt
        have wk : IntKind.wrap .i64 (k + 1) = k + 1 := wrap_i64 (by unfold r64; omega)
        refine ⟨(k + 1, G3), ⟨⟨by show 0 ≤ k + 1; omega, by show k + 1 ≤ c; omega⟩, hG3, fun i i0 i1 => ?_⟩, by show c.toNat - (k + 1).toNat < c.toNat - k.toNat; omega, rfl, told_keep [0, 1, 2] rfl ?_ ?_⟩
        ·replace i1 : i < k + 1 := i1
         by_cases hik : i < k
         ·exact hno i i0 hik
         ·have : i = k := by omega
          subst this
          intro h
          have h2 := h.2.2
          rw [hyd, ← hap, ← hd9] at h2
          cases ht.2 h2
        ·simp [keepSt, pullBox, pullL, pullD, pullL_closed _ _ hs.is.closed]
        ·simp [toldP, getS, A0, wk, pullD, List.idxOf?, List.findIdx?_cons]
       ·cbv
        repeat first
         | (simp only [q000, q001, q010, q011, q100, q101, q110, q111, f3, f4]; cbv)
         | refine And.intro (by
             subst hA hX hFsPu hFsS5 hFsHa hFsHm
             clear hH hB
             first
              | exact trivial
              | exact rfl
              | (simp [A0]; done)
              | (intro q; exact q)
              | (intro q; simpa [A0] using q)
              | (intro _; trivial)
              | (show Region.lexB _ _ = true; kernel_rfl)
              | (show turnsB _ = true; kernel_rfl)
              | assumption) ?_
         | (refine pickL hX (t := true) (by rfl) rfl ?_; cbv)
         | (refine pickL hX (t := false) (by rfl) rfl ?_; cbv)
         | ((with_reducible refine callB hX hB ?_); cbv; fail_if_success show False)
        subst hA hX
        rw [hW G3]
        refine ret_keep [0] rfl ⟨⟨true, rfl, fun _ => ?_, fun _ => rfl⟩, rfl, hG3⟩
        replace hc : c = (l.length : Int) := hc
        replace hlt : k < c := hlt
        have h2 := ht.1 rfl
        refine Lin.step k0 (by omega) hmb.symm (by rw [hyd, hfit]; rfl) ?_
        rw [hyd, ← hap, ← hd9]
        exact h2
    ·have t5 : A.cmp .lss k c = false := by subst hA; exact decide_eq_false hlt
     have hnl : ¬ Lin l d s := by
      replace hc : c = (l.length : Int) := hc
      replace hlt : ¬ k < c := hlt
      rw [Lin.iff hlf]
      rintro ⟨i, i0, i1, hi⟩
      exact hno i i0 (by omega) hi
     have hG3 : Bad l (putV G2 (keyV d key) (.agg #[])) := by rw [hky]; exact hG2.put hs hj9 hnl _
     cbv at t5
     cbv
     simp only [t5]
     cbv
     refine stepMa (T := fun _ => tabY [0, 2, 1000, 1002, 1005, 1045, 25, 1025, 67, 1067, 1079, 1015, 1097] []) (H := fun _ => [kn_stPut GFsPu, kn_apply GFsS5, kn_hsame GFsHa]) (tabY_ok _ _) hH follows_mixed hBl hA hX hY keyT mapT zeroE [] [(0, .ref 0 0 0)] ([sB xs (.map (some g)), ⟨32, s, false, 0, true⟩] ++ [⟨122, [.d (.sc (.int .i64 d)), .d (.sc (.string key))], false, 0, true⟩]) (some (g, putV G2 (keyV d key) (.agg #[]))) (fun C R hC hR => ?_) ?_
     ·cbv
      repeat' (refine And.intro ?_ ?_)
      all_goals subst hC hA
      all_goals first
       | exact trivial
       | rfl
       | (obtain ⟨w, hw⟩ := key_vT (d := d) (s := key) hdr hks; exact ⟨w, hw⟩)
       | exact hR _ _ (told_less (by simp [toldP, getS]))
       | fail
     cbv
     subst hA hX
     rw [hW]
     exact ret_keep [0] rfl ⟨⟨false, rfl, fun h => (by cases h), fun h => absurd h hnl⟩, rfl, hG3⟩
   ·cbv
    subst hA hX
    rw [hW G]
    refine ret_keep [0] rfl ⟨⟨false, rfl, fun h => (by cases h), fun h => ?_⟩, rfl, hG⟩
    obtain ⟨v, hv⟩ := Option.isSome_iff_exists.1 hhit.symm
    exact absurd h (hG d key v hv j s hs hj9 hky.symm)
end Go.Proofs.Ytadnpgkddgbhkaa
