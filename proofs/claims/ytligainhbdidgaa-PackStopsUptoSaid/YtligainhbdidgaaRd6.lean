/- Behind an error a reader answers nought. No condition. -/
import Derived.Test.YtligainhbdidgaaRd7
namespace Go.Proofs.Ytligainhbdidgaa
open Go.RowKit
set_option linter.all false
def genO (T : Unit → Tab) (A : Ar) (X : Cps) (H : Unit → Kn) (N : Nat) (ops : Array Oper) (o : Oper) (G : SL → Store → Prop) (s : SL) (st : Store) : Prop :=
  match dstB N o.dst, o.guard with
    | true, none => opC T A X H o.op s st fun d st' => G (putL o.dst d s) st'
    | true, some (j, w) => (match slotOf ops j with
      | some k => (match getS s k with
        | .d (.sc (.bool t)) => brC t
          (fun _ => match w with
            | true => opC T A X H o.op (setS s k (.d (.sc (.bool true)))) st fun d st' => G (putL o.dst d (setS s k (.d (.sc (.bool true))))) st'
            | false => G (putL o.dst (.d (.sc (.tuple #[]))) (setS s k (.d (.sc (.bool true))))) st)
          (fun _ => match w with
            | false => opC T A X H o.op (setS s k (.d (.sc (.bool false)))) st fun d st' => G (putL o.dst d (setS s k (.d (.sc (.bool false))))) st'
            | true => G (putL o.dst (.d (.sc (.tuple #[]))) (setS s k (.d (.sc (.bool false))))) st)
        | .d (.sc (.tuple _)) => G (putL o.dst (.d (.sc (.tuple #[]))) s) st
        | _ => False)
      | none => False)
    | false, _ => False
theorem genS {T : Unit → Tab} {A : Ar} {X : Cps} {H : Unit → Kn} {N : Nat} {ops : Array Oper} {o : Oper} {l : List Oper} {s : SL} {st : Store} {Q : SL → Store → Prop} (h : ∀ G, G = (fun s' st' => genG T A X H N ops l s' st' Q) → genO T A X H N ops o G s st) : genG T A X H N ops (o :: l) s st Q := by
  have := h _ rfl
  unfold genG
  exact this
theorem genQ {T : Unit → Tab} {A : Ar} {X : Cps} {H : Unit → Kn} {N : Nat} {ops : Array Oper} {l : List Oper} {s : SL} {st : Store} {Q : SL → Store → Prop} (h : ∀ Q', Q' = Q → genG T A X H N ops l s st Q') : genG T A X H N ops l s st Q := h Q rfl
theorem stop_num (xs : List (List PD)) (a : Int) : numR xs a 4 = (0, a, 4) := by simp [numR, numL]
theorem stop_cnt (xs : List (List PD)) (a n : Int) : cntR xs a 4 n = (0, a, 4) := by rw [cnt_eq, stop_num]; simp
theorem stop_text (xs : List (List PD)) (a n : Int) : textR xs a 4 n = (.empty, a, 4) := by rw [text_eq, stop_cnt]; simp
theorem stop_flag (xs : List (List PD)) (a : Int) : flagR xs a 4 = (false, a, 4) := by simp [flagR, flagL]
theorem stop_end (xs : List (List PD)) (a : Int) : endR xs a 4 = 4 := by simp [endR]
theorem stop_fail : failR 0 = 4 := rfl
theorem rd4 {xs : List (List PD)} (h : isB8 xs) : isRd xs 0 4 := ⟨h, by omega, by omega, by omega, by omega⟩

set_option maxRecDepth 100000 in
set_option maxHeartbeats 8000000 in
theorem v_stops (xs ls : List (List PD)) (hp0 : isB8 xs) (hp1 : isIt ls) : FnV Try.prog 17 [.d (.slc 1 xs), .d (.slc 4 ls)] (boolD true) := by
  obtain ⟨GFsT, hFsT⟩ : ∃ F, F = FsT0 := ⟨_, rfl⟩
  obtain ⟨GFsS, hFsS⟩ : ∃ F, F = FsS0 := ⟨_, rfl⟩
  obtain ⟨GFsR, hFsR⟩ : ∃ F, F = FsR0 := ⟨_, rfl⟩
  have hH : SoundK Try.prog [kn_runs3 GFsT] := by subst hFsT hFsS hFsR; exact orK_ok ok_runs3 noK_ok
  have hB : SoundB Try.prog [kb_pRead GFsS, kb_pFail GFsR, kb_pat GFsR, kb_pNum GFsR, kb_pText GFsR, kb_pFlag GFsR, kb_pCount GFsR, kb_pwrong GFsR, kb_pEnd GFsR] := by subst hFsT hFsS hFsR; exact orB_ok okb_pRead (orB_ok okb_pFail (orB_ok okb_pat (orB_ok okb_pNum (orB_ok okb_pText (orB_ok okb_pFlag (orB_ok okb_pCount (orB_ok okb_pwrong (orB_ok okb_pEnd noB_ok))))))))
  refine FnD_cbv (T := fun _ => tabY [33, 34, 47, 48] []) (H := fun _ => [kn_runs3 GFsT]) (tabY_ok _ _) hH follows_mixed Try.func17 rfl Try.ntmps17 (by simp) fun A X W hA hX hW => ?_
  cbv
  refine callB hX hB ?_
  cbv
  refine And.intro ?_ ?_
  · subst hFsS; exact hp0
  refine callB hX hB ?_
  cbv
  refine And.intro ?_ ?_
  · subst hFsR; exact rd0 hp0
  have ef : GFsR.fail 0 = 4 := by subst hFsR; rfl
  cbv at ef
  simp only [ef]
  refine callB hX hB ?_
  cbv
  refine And.intro ?_ ?_
  · subst hFsR; exact rd4 hp0
  refine loopL (T := fun _ => tabY [33, 34, 47, 48] []) (H := fun _ => [kn_runs3 GFsT]) (tabY_ok _ _) hH follows_mixed hA hX (fun i : Int => 0 ≤ i ∧ i ≤ 20)
    (fun i => [(0, .d (.slc 1 xs)), (1, .d (.slc 4 ls)), (5, .ref 0 0 0), (6, .d (.sc (.int .i64 0))), (7, .d (.sc (.int .i64 i)))]) (fun _ => [rdB 111 xs 0 4])
    (fun i => 20 - i.toNat) 0 ?_ ?_ ?_
  · exact ⟨by omega, by omega⟩
  · exact told_less (by simp [toldP, getS])
  rintro R i hR ⟨i0, i1⟩
  cbv
  have en : GFsR.num xs 0 4 = (0, 0, 4) := by subst hFsR; exact stop_num xs 0
  have et : ∀ n, GFsR.text xs 0 4 n = (.empty, 0, 4) := by subst hFsR; exact stop_text xs 0
  have eg : GFsR.flag xs 0 4 = (false, 0, 4) := by subst hFsR; exact stop_flag xs 0
  have ec : ∀ n, GFsR.cnt xs 0 4 n = (0, 0, 4) := by subst hFsR; exact stop_cnt xs 0
  have ee : GFsR.fin xs 0 4 = 4 := by subst hFsR; exact stop_end xs 0
  have an : A.cmp .neq 0 0 = false := by subst hA; rfl
  have a4 : A.cmp .eql 4 4 = true := by subst hA; rfl
  have a0 : A.cmp .eql 0 0 = true := by subst hA; rfl
  have es : A.scmp .neq .empty { data := #[] } = false := by subst hA; rfl
  cbv at en eg ee
  have es2 : A.scmp .neq { data := { toList := [] } } { data := { toList := [] } } = false := by subst hA; rfl
  have hrd : GFsR.rd xs 0 4 := by subst hFsR; exact rd4 hp0
  have c1 : A.cond false true false = false := by subst hA; rfl
  have c2 : A.cond true true false = true := by subst hA; rfl
  refine And.intro ?_ (And.intro ?_ (And.intro ?_ ?_))
  rotate_left 3
  refine part (fun h0 => ?_) (fun h0 => ?_)
  · cbv
    refine callB hX hB ?_
    cbv
    simp only [en]
    refine And.intro hrd ?_
    refine part (fun h => absurd h (by simp [an, es, es2, a4, a0, c1, c2])) (fun h => ?_)
    cbv
    refine And.intro ?_ (And.intro ?_ ?_)
    rotate_left 2
    refine callB hX hB ?_
    have q63 : ∀ z : Int, findB [kb_pRead GFsS, kb_pFail GFsR, kb_pat GFsR, kb_pNum GFsR, kb_pText GFsR, kb_pFlag GFsR, kb_pCount GFsR, kb_pwrong GFsR, kb_pEnd GFsR] 63 [.ref 0 0 0, .d (.sc (.int .i64 z))] [rdB 111 xs 0 4] = some ([GFsR.rd xs 0 4], .d (.sc (.string (GFsR.text xs 0 4 z).1)), [rdB 111 xs (GFsR.text xs 0 4 z).2.1 (GFsR.text xs 0 4 z).2.2]) := fun _ => rfl
    rw [q63]
    refine (show allP [GFsR.rd xs 0 4] _ from (allP_iff [GFsR.rd xs 0 4] _).2 ⟨⟨hrd, trivial⟩, ?_⟩)
    generalize hq : GFsR.text xs 0 4 _ = q
    have hq2 : q = (.empty, 0, 4) := by rw [← hq]; exact et _
    subst hq2
    clear hq
    refine genQ (fun Q' hQ => ?_)
    refine genS (fun G hG => ?_)
    cbv
    subst hG
    refine genS (fun G hG => ?_)
    cbv
    subst hG
    refine genS (fun G hG => ?_)
    cbv
    subst hG
    refine genS (fun G hG => ?_)
    cbv
    refine part (fun h => absurd h (by simp [an, es, es2, a4, a0, c1, c2])) (fun h => ?_)
    cbv
    subst hG
    refine genS (fun G hG => ?_)
    cbv
    refine callB hX hB ?_
    have q64 : findB [kb_pRead GFsS, kb_pFail GFsR, kb_pat GFsR, kb_pNum GFsR, kb_pText GFsR, kb_pFlag GFsR, kb_pCount GFsR, kb_pwrong GFsR, kb_pEnd GFsR] 64 [.ref 0 0 0] [rdB 111 xs 0 4] = some ([GFsR.rd xs 0 4], .d (.sc (.bool (GFsR.flag xs 0 4).1)), [rdB 111 xs (GFsR.flag xs 0 4).2.1 (GFsR.flag xs 0 4).2.2]) := rfl
    rw [q64]
    refine (show allP [GFsR.rd xs 0 4] _ from (allP_iff [GFsR.rd xs 0 4] _).2 ⟨⟨hrd, trivial⟩, ?_⟩)
    subst hG
    generalize hq : GFsR.flag xs 0 4 = q
    have hq2 : q = (false, 0, 4) := by rw [← hq]; exact eg
    subst hq2
    clear hq
    refine genS (fun G hG => ?_)
    cbv
    subst hG
    refine genS (fun G hG => ?_)
    cbv
    subst hG
    refine genS (fun G hG => ?_)
    cbv
    refine part (fun h => absurd h (by simp [an, es, es2, a4, a0, c1, c2])) (fun h => ?_)
    cbv
    subst hG
    refine genS (fun G hG => ?_)
    cbv
    subst hG
    refine genS (fun G hG => ?_)
    cbv
    subst hG
    refine genS (fun G hG => ?_)
    cbv
    refine And.intro ?_ ?_
    rotate_left 1
    subst hG
    refine genS (fun G hG => ?_)
    cbv
    subst hG
    refine genS (fun G hG => ?_)
    cbv
    refine And.intro ?_ ?_
    rotate_left 1
    subst hG
    refine genS (fun G hG => ?_)
    cbv
    refine callB hX hB ?_
    have q65 : ∀ z : Int, findB [kb_pRead GFsS, kb_pFail GFsR, kb_pat GFsR, kb_pNum GFsR, kb_pText GFsR, kb_pFlag GFsR, kb_pCount GFsR, kb_pwrong GFsR, kb_pEnd GFsR] 65 [.ref 0 0 0, .d (.sc (.int .i64 z))] [rdB 111 xs 0 4] = some ([GFsR.rd xs 0 4], .d (.sc (.int .i64 (GFsR.cnt xs 0 4 z).1)), [rdB 111 xs (GFsR.cnt xs 0 4 z).2.1 (GFsR.cnt xs 0 4 z).2.2]) := fun _ => rfl
    rw [q65]
    refine (show allP [GFsR.rd xs 0 4] _ from (allP_iff [GFsR.rd xs 0 4] _).2 ⟨⟨hrd, trivial⟩, ?_⟩)
    subst hG
    generalize hq : GFsR.cnt xs 0 4 _ = q
    have hq2 : q = (0, 0, 4) := by rw [← hq]; exact ec _
    subst hq2
    clear hq
    refine genS (fun G hG => ?_)
    cbv
    subst hG
    refine genS (fun G hG => ?_)
    cbv
    subst hG
    refine genS (fun G hG => ?_)
    cbv
    subst hG
    refine genS (fun G hG => ?_)
    cbv
    refine part (fun h => absurd h (by simp [an, es, es2, a4, a0, c1, c2])) (fun h => ?_)
    cbv
    subst hG
    refine genS (fun G hG => ?_)
    cbv
    refine callB hX hB ?_
    have q58 : findB [kb_pRead GFsS, kb_pFail GFsR, kb_pat GFsR, kb_pNum GFsR, kb_pText GFsR, kb_pFlag GFsR, kb_pCount GFsR, kb_pwrong GFsR, kb_pEnd GFsR] 58 [.ref 0 0 0] [rdB 111 xs 0 4] = some ([GFsR.rd xs 0 4], .d (.sc (.int .i64 0)), [rdB 111 xs 0 4]) := rfl
    rw [q58]
    refine (show allP [GFsR.rd xs 0 4] _ from (allP_iff [GFsR.rd xs 0 4] _).2 ⟨⟨hrd, trivial⟩, ?_⟩)
    subst hG
    refine genS (fun G hG => ?_)
    cbv
    subst hG
    refine genS (fun G hG => ?_)
    cbv
    subst hG
    refine genS (fun G hG => ?_)
    cbv
    subst hG
    cbv
    subst hQ
    cbv
    refine part (fun h => absurd h (by simp [an, es, es2, a4, a0, c1, c2])) (fun h => ?_)
    cbv
    subst hR hA hX hW hFsT hFsS hFsR
    have hz : i < ls.length ∧ i < 20 := by simpa [A0] using h0
    have ei : IntKind.wrap .i64 (i + 1) = i + 1 := wrap_i64 (by unfold r64; omega)
    refine ⟨i + 1, (by show 0 ≤ i + 1 ∧ i + 1 ≤ 20; omega), (by show 20 - (i + 1).toNat < 20 - i.toNat; omega), told_less ?_⟩
    simp [toldP, getS, A0, ei]
    all_goals try clear hG
    all_goals try clear hQ
    all_goals try clear hR
    all_goals subst hA hX hFsT hFsS hFsR
    all_goals clear hH hB hW
    all_goals simp only [A0, FsR0, FsS0, FsT0, decide_eq_true_eq, decide_eq_false_iff_not, Bool.not_eq_true', Bool.not_eq_false'] at *
    all_goals try
      have hz : i < ls.length ∧ i < 20 := by simpa using h0
      obtain ⟨k, n, s, f, hrow, -⟩ := hp1.row i0 hz.1
    all_goals first
      | omega
      | (rw [hrow]; simp; done)
      | (intros; first | assumption | trivial | (simp_all; done))
  · cbv
    refine callB hX hB ?_
    have q57 : findB [kb_pRead GFsS, kb_pFail GFsR, kb_pat GFsR, kb_pNum GFsR, kb_pText GFsR, kb_pFlag GFsR, kb_pCount GFsR, kb_pwrong GFsR, kb_pEnd GFsR] 57 [.ref 0 0 0] [rdB 111 xs 0 4] = some ([GFsR.rd xs 0 4], .d (.sc (.int .i64 4)), [rdB 111 xs 0 4]) := rfl
    rw [q57]
    refine (show allP [GFsR.rd xs 0 4] _ from (allP_iff [GFsR.rd xs 0 4] _).2 ⟨⟨hrd, trivial⟩, ?_⟩)
    refine genQ (fun Q' hQ => ?_)
    refine genS (fun G hG => ?_)
    cbv
    subst hG
    refine genS (fun G hG => ?_)
    cbv
    subst hG
    refine genS (fun G hG => ?_)
    cbv
    refine part (fun h => ?_) (fun h => absurd h (by simp [an, es, es2, a4, a0, c1, c2]))
    cbv
    subst hG
    refine genS (fun G hG => ?_)
    cbv
    refine callB hX hB ?_
    have q66 : findB [kb_pRead GFsS, kb_pFail GFsR, kb_pat GFsR, kb_pNum GFsR, kb_pText GFsR, kb_pFlag GFsR, kb_pCount GFsR, kb_pwrong GFsR, kb_pEnd GFsR] 66 [.ref 0 0 0] [rdB 111 xs 0 4] = some ([GFsR.rd xs 0 4], .d (.sc (.int .i64 (GFsR.fin xs 0 4))), [rdB 111 xs 0 (GFsR.fin xs 0 4)]) := rfl
    rw [q66]
    refine (show allP [GFsR.rd xs 0 4] _ from (allP_iff [GFsR.rd xs 0 4] _).2 ⟨⟨hrd, trivial⟩, ?_⟩)
    subst hG
    generalize hq : GFsR.fin xs 0 4 = q
    have hq2 : q = 4 := by rw [← hq]; exact ee
    subst hq2
    clear hq
    refine genS (fun G hG => ?_)
    cbv
    subst hG
    refine genS (fun G hG => ?_)
    cbv
    subst hG
    refine genS (fun G hG => ?_)
    cbv
    subst hG
    refine genS (fun G hG => ?_)
    cbv
    refine part (fun h => ?_) (fun h => absurd h (by simp [an, es, es2, a4, a0, c1, c2]))
    cbv
    subst hG
    refine genS (fun G hG => ?_)
    cbv
    subst hG
    refine genS (fun G hG => ?_)
    cbv
    subst hG
    refine genS (fun G hG => ?_)
    cbv
    subst hG
    refine genS (fun G hG => ?_)
    cbv
    refine part (fun h => ?_) (fun h => absurd h (by simp [an, es, es2, a4, a0, c1, c2]))
    cbv
    subst hG
    refine genS (fun G hG => ?_)
    cbv
    subst hG
    refine genS (fun G hG => ?_)
    cbv
    subst hG
    cbv
    subst hQ
    cbv
    subst hA hX hW hFsT hFsS hFsR
    simp only [A0, FsT0]
    exact ret_v rfl rfl
  all_goals try clear hG
  all_goals try clear hQ
  all_goals try clear hR
  all_goals subst hA hX hFsT hFsS hFsR
  all_goals clear hH hB hW
  all_goals simp only [A0, FsR0, FsS0, FsT0, decide_eq_true_eq, decide_eq_false_iff_not, Bool.not_eq_true', Bool.not_eq_false'] at *
  all_goals try
    have hz : i < ls.length ∧ i < 20 := by simpa using h0
    obtain ⟨k, n, s, f, hrow, -⟩ := hp1.row i0 hz.1
  all_goals first
    | omega
    | (rw [hrow]; simp; done)
    | (intros; first | assumption | trivial | (simp_all; done))
end Go.Proofs.Ytligainhbdidgaa
