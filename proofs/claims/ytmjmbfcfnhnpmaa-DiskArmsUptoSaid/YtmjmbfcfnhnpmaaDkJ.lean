/- Chapter 8's arming: the law's walk. No condition. -/
import Derived.Test.YtmjmbfcfnhnpmaaDkU
import Derived.Test.YtmjmbfcfnhnpmaaDkW
namespace Go.Proofs.Ytmjmbfcfnhnpmaa
open Go.RowKit
set_option linter.all false
set_option maxHeartbeats 4000000
abbrev nmF : ByteArray := { data := { toList := [102] } }
abbrev nmG : ByteArray := { data := { toList := [103] } }
/-- How the disk and the bytes so far are kept: nothing yet; a file without bytes; a file and a row of its own. -/
inductive AX where
  | a
  | e (v m : Nat) (cs : List DV)
  | b (v m : Nat) (cs : List DV)
  | c (v m : Nat) (cs : List DV) (w k : Nat) (bs : List DV)
def AX.L : AX → List (List PD) → List FileM
  | .a, _ => []
  | .e _ _ _, _ => []
  | _, ws => [⟨nmF, ws, 0⟩]
def AX.ok : AX → List (List PD) → Prop
  | .a, ws => ws = []
  | .e _ m cs, ws => ws = [] ∧ cs = cellsF [] ∧ m = 0
  | .b _ m cs, ws => ws = [] ∧ cs = cellsF [⟨nmF, [], 0⟩] ∧ m = 1
  | .c _ m cs _ k bs, ws => cs = cellsF [⟨nmF, ws, 0⟩] ∧ m = 1 ∧ bs = rowsD ws ∧ k = ws.length
def AX.d : AX → DV
  | .c _ _ _ w k _ => .view 1 2 w 0 k
  | _ => .d (.sc (.slice none 0 0))
def AX.st (n : Int) (o : Bool) (l : Int) : AX → Store
  | .a => [dB n (.d (.sc (.slice none 0 0))) o true l]
  | .e v m cs => [dB n (.view 3 1 v 0 m) o true l, fB cs v]
  | .b v m cs => [dB n (.view 3 1 v 0 m) o true l, fB cs v]
  | .c v m cs w _ bs => [dB n (.view 3 1 v 0 m) o true l, fB cs v, ⟨5, bs, true, w, true⟩]
theorem arm_yes {q l : Int} {L : List FileM} {nm : ByteArray} {p : List (List PD)} (hm : mayF nm = true) (h : totF L + p.length ≤ q) (hl : l ≠ 0) : (Dk.mk q L false true l).app nm p = (0, ⟨q, addF L nm p, false, true, l - 1⟩) := by
  unfold Dk.app
  simp only
  rw [if_neg (by decide), if_neg (by rw [hm]; decide), if_neg (by omega)]
  simp [powE, powO, powL, hl]
theorem arm_now {q : Int} {L : List FileM} {nm : ByteArray} {p : List (List PD)} (hm : mayF nm = true) (h : totF L + p.length ≤ q) : (Dk.mk q L false true 0).app nm p = (10, ⟨q, L, true, true, 0⟩) := by
  unfold Dk.app
  simp only
  rw [if_neg (by decide), if_neg (by rw [hm]; decide), if_neg (by omega)]
  rfl
theorem arm_off {q l : Int} {L : List FileM} {nm : ByteArray} {p : List (List PD)} {a : Bool} : (Dk.mk q L true a l).app nm p = (10, ⟨q, L, true, a, l⟩) := by
  unfold Dk.app
  simp
theorem crash_none (d : List (List PD)) : crF [] [⟨nmF, d, 0⟩] = [⟨nmF, [], 0⟩] := by
  unfold crF
  simp only [List.mapIdx_cons, List.mapIdx_nil]
  have hs : stayN ⟨nmF, d, 0⟩ 0 = 0 := by
    unfold stayN
    simp
  show [cr1 ⟨nmF, d, 0⟩ 0] = _
  unfold cr1
  rw [hs]
  rfl
theorem okA_any {ws : List (List PD)} {n l : Int} {o : Bool} (hn : n = 1048576) (hl : 0 ≤ l ∧ l ≤ 30) (hw : isB ws) (hwl : ws.length ≤ 2000) : ∀ md : AX, okD 900 ⟨n, md.L ws, o, true, l⟩ := by
  intro md
  have h0 : okD 900 ⟨n, [⟨nmF, ws, 0⟩], o, true, l⟩ := okD_one (by omega) (by omega) (okF0 _ hw) (by simp only; omega)
  cases md with
  | a => exact okD_nil (by omega) (by omega)
  | e _ _ _ => exact okD_nil (by omega) (by omega)
  | b _ _ _ => exact h0
  | c _ _ _ _ _ _ => exact h0

set_option maxRecDepth 100000 in
theorem v_armsL (q : Int) (ps : List (List (List PD))) (hq : r64 q) (hps : ∀ p ∈ ps, isB p) (hl : ps.length ≤ 1048576) : FnV Try.prog 4 [.d (.sc (.int .i64 q)), .d (.slc 1 (partsX ps))] (boolD true) := by
  obtain ⟨xs, hxs⟩ : ∃ xs, xs = partsX ps := ⟨_, rfl⟩
  rw [← hxs]
  have hxl : xs.length = ps.length := by rw [hxs]; simp [partsX]
  obtain ⟨GFsQ, hFsQ⟩ : ∃ F, F = FsQ0 := ⟨_, rfl⟩
  obtain ⟨GFsRu, hFsRu⟩ : ∃ F, F = FsRu0 := ⟨_, rfl⟩
  obtain ⟨GFsL, hFsL⟩ : ∃ F, F = FsL0 := ⟨_, rfl⟩
  obtain ⟨GFsK, hFsK⟩ : ∃ F, F = FsK0 := ⟨_, rfl⟩
  have hH : SoundK Try.prog [kn_within3 GFsQ, kn_runs GFsRu, kn_same GFsQ] := by subst hFsQ hFsRu hFsL hFsK; exact orK_ok ok_within3 (orK_ok ok_runs (orK_ok ok_same noK_ok))
  have hB : SoundB Try.prog [kb_new GFsL, kb_arm GFsL, kb_off GFsK, kb_read GFsL] := by subst hFsQ hFsRu hFsL hFsK; exact orB_ok okb_new (orB_ok okb_arm (orB_ok okb_off (orB_ok okb_read noB_ok)))
  refine FnD_cbv (T := fun _ => tabY [43] [13, 14, 17, 18]) (H := fun _ => [kn_within3 GFsQ, kn_runs GFsRu, kn_same GFsQ]) (tabY_ok _ _) hH follows_mixed Try.func4 rfl Try.ntmps4 (by simp) fun A X W hA hX hW => ?_
  cbv
  have f1 : A.cmp .neq 0 0 = false := by subst hA; rfl
  cbv at f1
  have f2 : A.cond false true false = false := by subst hA; rfl
  cbv at f2
  have f2b : A.cond false true true = true := by subst hA; rfl
  cbv at f2b
  have f2c : A.cond false false false = false := by subst hA; rfl
  cbv at f2c
  have f2d : A.cond false false true = true := by subst hA; rfl
  cbv at f2d
  have f2e : A.cond true true true = true := by subst hA; rfl
  cbv at f2e
  have f2f : A.cond true false true = false := by subst hA; rfl
  cbv at f2f
  have f3 : A.not true = false := by subst hA; rfl
  cbv at f3
  have f4 : A.not false = true := by subst hA; rfl
  cbv at f4
  have f5 : A.cmp .neq 10 0 = true := by subst hA; rfl
  cbv at f5
  have f6 : A.cmp .neq 10 10 = false := by subst hA; rfl
  cbv at f6
  have f7 : A.cond true false false = false := by subst hA; rfl
  cbv at f7
  have f8 : A.cond true true false = true := by subst hA; rfl
  cbv at f8
  have f9 : A.cmp .eql 0 0 = true := by subst hA; rfl
  cbv at f9
  have f10 : A.cmp .eql 10 0 = false := by subst hA; rfl
  cbv at f10
  have f13 : A.beq true true = true := by subst hA; rfl
  cbv at f13
  have f14 : A.beq false false = true := by subst hA; rfl
  cbv at f14
  have f15 : A.beq true false = false := by subst hA; rfl
  cbv at f15
  have f16 : A.beq false true = false := by subst hA; rfl
  cbv at f16
  obtain ⟨k, hk⟩ : ∃ k, GFsQ.within3 q 0 20 = k := ⟨_, rfl⟩
  have hk1 : 0 ≤ k ∧ k ≤ 20 := by subst hk hFsQ; exact within3_range q 20
  cbv at hk
  have m1 : GFsL.ge k = true := by subst hFsL; exact decide_eq_true hk1.1
  have m2 : GFsL.mx k = k := by subst hFsL; show max k 0 = k; omega
  cbv at m1 m2
  repeat first
    | (simp only [f1, f2, f2b, f2c, f2d, f2e, f2f, f3, f4, f5, f6, f7, f8, f9, f10, f13, f14, f15, f16, hk, m1, m2]; cbv)
    | refine And.intro (by
         subst hA hX hW hFsQ hFsL hFsRu hFsK
         clear hH hB
         first
           | exact trivial
           | exact rfl
           | (simp [A0]; done)
           | (intro q; exact q)
           | (intro q; simpa [A0] using q)
           | (intro _; trivial)
           | (show Region.lexB _ _ = true; kernel_rfl)
           | (show turnsB _ = true; kernel_rfl)
           | assumption
           | exact okqM
           | exact hq
           | exact ⟨by omega, by omega⟩
           | exact ⟨by decide, by decide⟩) ?_
    | ((with_reducible refine callB hX hB ?_); cbv; fail_if_success show False)
    | (refine pickL hX (t := true) (by rfl) rfl ?_; cbv)
    | (refine pickL hX (t := false) (by rfl) rfl ?_; cbv)
  obtain ⟨n, hn⟩ : ∃ n : Int, n = 1048576 := ⟨_, rfl⟩
  refine loopL (T := fun _ => tabY [43] [13, 14, 17, 18]) (H := fun _ => [kn_within3 GFsQ, kn_runs GFsRu, kn_same GFsQ]) (tabY_ok _ _) hH follows_mixed hA hX (fun x : Int × Bool × Int × AX × List (List PD) => 0 ≤ x.1 ∧ x.1 ≤ xs.length ∧ x.1 ≤ 30 ∧ x.2.1 = decide (k < x.1) ∧ x.2.2.1 = max (k - x.1) 0 ∧ isB x.2.2.2.2 ∧ (x.2.2.2.2.length : Int) ≤ 50 * x.1 ∧ x.2.2.2.1.ok x.2.2.2.2)
    (fun x => [(1, .d (.slc 1 xs)), (5, .ref 0 0 0), (7, .d (.sc (.int .i64 k))), (8, x.2.2.2.1.d), (9, .d (.sc (.int .i64 x.1)))]) (fun x => x.2.2.2.1.st n x.2.1 x.2.2.1)
    (fun x => xs.length - x.1.toNat) (0, false, k, .a, []) ?_ ?_ ?_
  · exact ⟨by (try simp only); omega, by (try simp only); omega, by (try simp only); omega, (by symm; exact decide_eq_false (by (try simp only); omega)), (by (try simp only); omega), ⟨[], rfl, by simp⟩, by simp, rfl⟩
  · subst hA hFsL hn; exact told_less (by simp [toldP, getS, A0, AX.d])
  rintro R ⟨i, o, l, md, ws⟩ hR ⟨i0, i1, i2, ho, hl, hws, hwl, hmd⟩
  replace i0 : 0 ≤ i := i0
  replace i1 : i ≤ xs.length := i1
  replace i2 : i ≤ 30 := i2
  replace ho : o = decide (k < i) := ho
  replace hl : l = max (k - i) 0 := hl
  replace hws : isB ws := hws
  replace hwl : (ws.length : Int) ≤ 50 * i := hwl
  replace hmd : md.ok ws := hmd
  have hlr : 0 ≤ l ∧ l ≤ 30 := by rw [hl]; omega
  have hwN : ws.length ≤ 1500 := by omega
  have hD9 := okA_any (o := o) hn hlr hws (by omega) md
  have hrow : ∀ i : Int, 0 ≤ i → i < xs.length → ∃ p, xs.getD i.toNat [] = [.slc 1 p] ∧ isB p := by
    intro i h0 h1
    have h2 : i.toNat < ps.length := by omega
    refine ⟨ps[i.toNat], ?_, hps _ (List.getElem_mem h2)⟩
    rw [hxs, List.getD_eq_getElem?_getD]
    simp [partsX, h2]
  rcases md with _ | ⟨v, m, cs⟩ | ⟨v, m, cs⟩ | ⟨v, m, cs, w, ck, bs⟩
  · replace hmd : ws = [] := hmd
    subst hmd
    replace hD9 : okD 900 ⟨n, [], o, true, l⟩ := hD9
    cbv
    apply cutL2 (X := X) (fun p : List (List PD) => isB p ∧ p.length ≤ 50 ∧ i < xs.length ∧ i < 30) (fun p => [(1, .d (.slc 1 xs)), (5, .ref 0 0 0), (7, .d (.sc (.int .i64 k))), (8, .d (.sc (.slice none 0 0))), (9, .d (.sc (.int .i64 i))), (10, .d (.slc 1 p))]) (fun _ => [dB n (.d (.sc (.slice none 0 0))) o true l])
    rotate_left
    · intro key
      repeat' first
        | (refine part (fun h => ?_) (fun h => ?_) <;> try cbv)
        | (refine And.intro ?_ ?_)
      all_goals first
        | (intro q; exact q)
        | (intro _; trivial)
        | (subst hA; intro q; simpa [A0] using q)
        | (have h9 : A.cond (A.cmp .lss i (A.len xs)) (A.cmp .lss i 30) false = true := by assumption
           obtain ⟨hlt, hlt30⟩ : i < xs.length ∧ i < 30 := by
             subst hA
             simp only [A0, cond_eq_ite, decide_eq_true_eq, Bool.if_false_right, Bool.and_eq_true] at h9
             exact h9
           obtain ⟨p, hp0, hpb⟩ := hrow i i0 hlt
           have e : A.gl (A.lift (A.row xs i)) 0 = p := by subst hA; simp only [A0, hp0]; rfl
           first
             | (subst hA; exact ⟨i0, hlt⟩)
             | (subst hA; simp only [A0, hp0]; exact ⟨rfl, Nat.le_refl _, rfl⟩)
             | (have h8 : A.cmp .gtr (A.len (A.gl (A.lift (A.row xs i)) 0)) 50 = true := by assumption
                replace h8 : (50 : Int) < p.length := by
                  rw [e] at h8
                  subst hA
                  simp only [A0, decide_eq_true_eq] at h8
                  exact h8
                first
                  | (show A.bnd 0 50 (A.len (A.gl (A.lift (A.row xs i)) 0)); rw [e]; subst hA; exact (⟨by decide, by decide, by omega⟩ : (0 : Int) ≤ (0 : Int) ∧ (0 : Int) ≤ (50 : Int) ∧ (50 : Int) ≤ (p.length : Int)))
                  | (refine pauseL hX (s' := _) (st' := _) ?_ (key (p.take 50) ⟨isB.take hpb _, by simp only [List.length_take]; omega, hlt, hlt30⟩)
                     subst hA
                     exact told_less (by simp [toldP, getS, e]; simp [A0])))
             | (have h8 : A.cmp .gtr (A.len (A.gl (A.lift (A.row xs i)) 0)) 50 = false := by assumption
                replace h8 : ¬ (50 : Int) < p.length := by
                  rw [e] at h8
                  subst hA
                  simp only [A0, decide_eq_false_iff_not] at h8
                  exact h8
                refine pauseL hX (s' := _) (st' := _) ?_ (key p ⟨hpb, by omega, hlt, hlt30⟩)
                exact told_less (by simp [toldP, getS, e])))
        | skip
      all_goals
        refine pauseL hX (s' := [(5, .ref 0 0 0), (8, .d (.slc 1 []))]) (st' := [dB n (.d (.sc (.slice none 0 0))) o true l]) (told_up ⟨.inl (.inl rfl), .inl (.inr ⟨rfl, _, rfl⟩), trivial⟩) ?_
        have rd1 : GFsL.rd [] nmF = [] := by
          subst hFsL
          show readsX [] nmF = _
          unfold readsX
          rfl
        have rs : GFsQ.same [] [] = true := by subst hFsQ; exact (sameB_eq _ _).2 rfl
        have z1 : A.len [] = 0 := by subst hA; rfl
        have hB0 : isB [] := ⟨[], rfl, by simp⟩
        have hO9 : okD 900 ⟨n, rowF [], o, true, l⟩ := hD9
        cbv at rd1 rs z1
        with_reducible refine goL (T := fun _ => tabY [43] []) (H := fun _ => [kn_within3 GFsQ, kn_runs GFsRu, kn_same GFsQ]) (tabY_ok _ _) hH follows_mixed hA hX ?_
        cbv
        repeat first
          | (simp only [f1, f2, f2b, f2c, f2d, f2e, f2f, f3, f4, f5, f6, f7, f8, f9, f10, f13, f14, f15, f16, rd1, rs, z1]; cbv)
          | refine And.intro (by
               subst hA hX hW hFsQ hFsL hFsRu hFsK
               clear hH hB
               first
                 | exact trivial
                 | exact rfl
                 | (simp [A0]; done)
                 | (intro q; exact q)
                 | (intro q; simpa [A0] using q)
                 | (intro _; trivial)
                 | (show Region.lexB _ _ = true; kernel_rfl)
                 | (show turnsB _ = true; kernel_rfl)
                 | assumption
                 | exact okqM
                 | exact hB0
                 | exact fun _ => hB0
                 | exact hws) ?_
          | ((with_reducible refine callB hX hB ?_); cbv; fail_if_success show False)
          | (refine pickL hX (t := true) (by rfl) rfl ?_; cbv)
          | (refine pickL hX (t := false) (by rfl) rfl ?_; cbv)
        have hyC : (Dk.mk n ([] : List FileM) o true l).crash [] = ⟨n, ([] : List FileM), false, false, 0⟩ := rfl
        have ok6 : okD 900 ⟨n, ([] : List FileM), false, false, 0⟩ := okD_nil (by omega) (by decide)
        have hy7 := app_yes (q := n) (L := ([] : List FileM)) (nm := nmG) (p := []) (by decide +kernel) (by simp [totF]; omega)
        refine callL hX (FnD.nils (crash0 (e := 0) [] 0 rfl hD9 (by simp) (by simp) hyC (fun _ => ?_) fun v6 n6 c6 hc6 hn6 => ?_) ⟨.inl rfl, .inr ⟨rfl, _, rfl⟩, trivial⟩)
        · have rd6 : GFsL.rd [] nmF = [] := by
            subst hFsL
            show readsX [] nmF = _
            unfold readsX
            rfl
          cbv at rd6
          have hO6 : okD 900 ⟨n, rowF [], false, false, 0⟩ := ok6
          cbv
          repeat first
            | (simp only [f1, f2, f2b, f2c, f2d, f2e, f2f, f3, f4, f5, f6, f7, f8, f9, f10, f13, f14, f15, f16, rd6, z1]; cbv)
            | refine And.intro (by
                 subst hA hX hW hFsQ hFsL hFsRu hFsK
                 clear hH hB
                 first
                   | exact trivial
                   | exact rfl
                   | (simp [A0]; done)
                   | (intro q; exact q)
                   | (intro q; simpa [A0] using q)
                   | (intro _; trivial)
                   | (show Region.lexB _ _ = true; kernel_rfl)
                   | (show turnsB _ = true; kernel_rfl)
                   | assumption
                   | exact okqM) ?_
            | ((with_reducible refine callB hX hB ?_); cbv; fail_if_success show False)
            | (refine pickL hX (t := true) (by rfl) rfl ?_; cbv)
            | (refine pickL hX (t := false) (by rfl) rfl ?_; cbv)
          refine callL hX (FnD.nils (app0 nmG [] 0 rfl ok6 (by decide) hB0 hy7 (fun h => by rw [show addF [] nmG [] = [⟨nmG, [], 0⟩] from rfl] at h; cases h) fun v7 n7 c7 hc7 hn7 => ?_) ⟨.inl rfl, .inl rfl, .inr ⟨rfl, _, rfl⟩, trivial⟩)
          cbv
          repeat first
            | (simp only [f1, f2, f2b, f2c, f2d, f2e, f2f, f3, f4, f5, f6, f7, f8, f9, f10, f13, f14, f15, f16, rd6, z1]; cbv)
            | refine And.intro (by
                 subst hA hX hW hFsQ hFsL hFsRu hFsK
                 clear hH hB
                 first
                   | exact trivial
                   | exact rfl
                   | (simp [A0]; done)
                   | (intro q; exact q)
                   | (intro q; simpa [A0] using q)
                   | (intro _; trivial)
                   | (show Region.lexB _ _ = true; kernel_rfl)
                   | (show turnsB _ = true; kernel_rfl)
                   | assumption
                   | exact okqM) ?_
            | ((with_reducible refine callB hX hB ?_); cbv; fail_if_success show False)
            | (refine pickL hX (t := true) (by rfl) rfl ?_; cbv)
            | (refine pickL hX (t := false) (by rfl) rfl ?_; cbv)
          subst hA hX hW hFsQ hFsL hFsRu hFsK
          exact ret_v rfl rfl
        · have rd6 : GFsL.rd c6 nmF = [] := by
            subst hFsL
            show readsX c6 nmF = _
            unfold readsX
            rw [hc6, rowF_cells]
            rfl
          cbv at rd6
          have hF6 := isF_of hc6 hn6 (ok6.okL (by decide))
          have hO6 := okD_of hc6 ok6
          cbv
          repeat first
            | (simp only [f1, f2, f2b, f2c, f2d, f2e, f2f, f3, f4, f5, f6, f7, f8, f9, f10, f13, f14, f15, f16, rd6, z1]; cbv)
            | refine And.intro (by
                 subst hA hX hW hFsQ hFsL hFsRu hFsK
                 clear hH hB
                 first
                   | exact trivial
                   | exact rfl
                   | (simp [A0]; done)
                   | (intro q; exact q)
                   | (intro q; simpa [A0] using q)
                   | (intro _; trivial)
                   | (show Region.lexB _ _ = true; kernel_rfl)
                   | (show turnsB _ = true; kernel_rfl)
                   | assumption
                   | exact okqM) ?_
            | ((with_reducible refine callB hX hB ?_); cbv; fail_if_success show False)
            | (refine pickL hX (t := true) (by rfl) rfl ?_; cbv)
            | (refine pickL hX (t := false) (by rfl) rfl ?_; cbv)
          refine callL hX (FnD.nils (app1 nmG [] 0 1 ([] : List FileM) rfl rfl (by decide) hc6 hn6 ok6 (by decide) hB0 hy7 fun v7 n7 c7 hc7 hn7 => ?_) ⟨.inl rfl, .inl rfl, .inr ⟨rfl, _, rfl⟩, trivial⟩)
          cbv
          repeat first
            | (simp only [f1, f2, f2b, f2c, f2d, f2e, f2f, f3, f4, f5, f6, f7, f8, f9, f10, f13, f14, f15, f16, rd6, z1]; cbv)
            | refine And.intro (by
                 subst hA hX hW hFsQ hFsL hFsRu hFsK
                 clear hH hB
                 first
                   | exact trivial
                   | exact rfl
                   | (simp [A0]; done)
                   | (intro q; exact q)
                   | (intro q; simpa [A0] using q)
                   | (intro _; trivial)
                   | (show Region.lexB _ _ = true; kernel_rfl)
                   | (show turnsB _ = true; kernel_rfl)
                   | assumption
                   | exact okqM) ?_
            | ((with_reducible refine callB hX hB ?_); cbv; fail_if_success show False)
            | (refine pickL hX (t := true) (by rfl) rfl ?_; cbv)
            | (refine pickL hX (t := false) (by rfl) rfl ?_; cbv)
          subst hA hX hW hFsQ hFsL hFsRu hFsK
          exact ret_v rfl rfl
    · rintro p ⟨hp, hp1, hlt, hlt30⟩
      replace hlt : i < (xs.length : Int) := hlt
      replace hlt30 : i < 30 := hlt30
      have hpT : totF ([] : List FileM) + p.length ≤ n := by
        rw [hn]
        simp only [totF]
        omega
      with_reducible refine goL (T := fun _ => tabY [43] [14, 17, 18]) (H := fun _ => [kn_within3 GFsQ, kn_runs GFsRu, kn_same GFsQ]) (tabY_ok _ _) hH follows_mixed hA hX ?_
      cbv
      rcases Int.lt_trichotomy i k with hik | hik | hik
      · have r1 : A.cmp .lss i k = true := by subst hA; exact decide_eq_true hik
        have r2 : A.cmp .geq i k = false := by subst hA; exact decide_eq_false (by omega)
        cbv at r1 r2
        obtain rfl : o = false := by rw [ho]; exact decide_eq_false (by omega)
        obtain ⟨l2, hl2⟩ : ∃ l2, l2 = l - 1 := ⟨_, rfl⟩
        have hy := arm_yes (q := n) (l := l) (L := ([] : List FileM)) (nm := nmF) (p := p) (by decide +kernel) hpT (by omega)
        rw [← hl2, show addF ([] : List FileM) nmF p = [⟨nmF, p, 0⟩] from rfl] at hy
        refine callL hX (app0 nmF p 0 rfl hD9 (by decide) hp hy (fun h => by cases h) fun v9 n9 c9 hc9 hn9 => ?_)
        have hk9 : okL [⟨nmF, p, 0⟩] := ⟨by simp only [totF, List.length_append]; push_cast; omega, by simp⟩
        have hF9 := isF_of hc9 hn9 hk9
        cbv
        repeat first
          | (simp only [f1, f2, f2b, f2c, f2d, f2e, f2f, f3, f4, f5, f6, f7, f8, f9, f10, f13, f14, f15, f16, r1, r2]; cbv)
          | refine And.intro (by
               subst hA hX hW hFsQ hFsL hFsRu hFsK
               clear hH hB
               first
                 | exact trivial
                 | exact rfl
                 | (simp [A0]; done)
                 | (intro q; exact q)
                 | (intro q; simpa [A0] using q)
                 | (intro _; trivial)
                 | (show Region.lexB _ _ = true; kernel_rfl)
                 | (show turnsB _ = true; kernel_rfl)
                 | assumption
                 | exact okqM) ?_
          | ((with_reducible refine callB hX hB ?_); cbv; fail_if_success show False)
          | (refine pickL hX (t := true) (by rfl) rfl ?_; cbv)
          | (refine pickL hX (t := false) (by rfl) rfl ?_; cbv)
        refine stepTo (T := fun _ => tabY [43] []) (H := fun _ => [kn_within3 GFsQ, kn_runs GFsRu, kn_same GFsQ]) (tabY_ok _ _) hH follows_mixed hA hX [(1, .d (.slc 1 xs)), (5, .ref 0 0 0), (7, .d (.sc (.int .i64 k))), (8, .d (.sc (.slice none 0 0))), (9, .d (.sc (.int .i64 i))), (10, .d (.slc 1 p)), (74, .d (.sc (.bool false)))] [dB n (.view 3 1 v9 0 n9) false true l2, fB c9 v9] (fun R2 hR2 => ?_) ?_
        · show genG _ _ _ _ _ _ _ _ _ _
          repeat
            (refine genS (fun G hG => ?_)
             cbv
             repeat first
               | (simp only [f1, f2, f2b, f2c, f2d, f2e, f2f, f3, f4, f5, f6, f7, f8, f9, f10, f13, f14, f15, f16, r1, r2]; cbv)
               | refine And.intro (by
                    subst hA hX hW hFsQ hFsL hFsRu hFsK
                    clear hH hB
                    first
                      | exact trivial
                      | exact rfl
                      | (simp [A0]; done)
                      | (intro q; exact q)
                      | (intro q; simpa [A0] using q)
                      | (intro _; trivial)
                      | (show Region.lexB _ _ = true; kernel_rfl)
                      | (show turnsB _ = true; kernel_rfl)
                      | assumption
                      | exact okqM) ?_
               | ((with_reducible refine callB hX hB ?_); cbv; fail_if_success show False)
               | (refine pickL hX (t := true) (by rfl) rfl ?_; cbv)
               | (refine pickL hX (t := false) (by rfl) rfl ?_; cbv)
             subst hG)
          cbv
          clear hH hB hX
          subst hR2
          exact told_less (by simp [toldP, getS])
        refine thenN ?_
        refine condN (b := false) rfl ?_
        refine skipN ?_
        refine thenN ?_
        refine seqN ?_
        cbv
        repeat first
          | (simp only [f1, f2, f2b, f2c, f2d, f2e, f2f, f3, f4, f5, f6, f7, f8, f9, f10, f13, f14, f15, f16, r1, r2]; cbv)
          | refine And.intro (by
               subst hA hX hW hFsQ hFsL hFsRu hFsK
               clear hH hB
               first
                 | exact trivial
                 | exact rfl
                 | (simp [A0]; done)
                 | (intro q; exact q)
                 | (intro q; simpa [A0] using q)
                 | (intro _; trivial)
                 | (show Region.lexB _ _ = true; kernel_rfl)
                 | (show turnsB _ = true; kernel_rfl)
                 | assumption
                 | exact okqM) ?_
          | ((with_reducible refine callB hX hB ?_); cbv; fail_if_success show False)
          | (refine pickL hX (t := true) (by rfl) rfl ?_; cbv)
          | (refine pickL hX (t := false) (by rfl) rfl ?_; cbv)
        with_reducible refine goL (T := fun _ => tabY [43] [18]) (H := fun _ => [kn_within3 GFsQ, kn_runs GFsRu, kn_same GFsQ]) (tabY_ok _ _) hH follows_mixed hA hX ?_
        cbv
        refine appendNilL hX (tabY_ok [] []) (t := 27) (e := 5) (sz := 1) (by8 := 1) (z := [.d (.sc (.int .u8 0))]) (xs := p) rfl rfl rfl rfl (by decide) rfl rfl ⟨by omega, by omega⟩ (fun hp0 => ?_) (fun bs2 k2 hbs2 hk2 hne => ?_)
        · cbv
          repeat first
            | (simp only [f1, f2, f2b, f2c, f2d, f2e, f2f, f3, f4, f5, f6, f7, f8, f9, f10, f13, f14, f15, f16, r1, r2]; cbv)
            | refine And.intro (by
                 subst hA hX hW hFsQ hFsL hFsRu hFsK
                 clear hH hB
                 first
                   | exact trivial
                   | exact rfl
                   | (simp [A0]; done)
                   | (intro q; exact q)
                   | (intro q; simpa [A0] using q)
                   | (intro _; trivial)
                   | (show Region.lexB _ _ = true; kernel_rfl)
                   | (show turnsB _ = true; kernel_rfl)
                   | assumption
                   | exact okqM) ?_
            | ((with_reducible refine callB hX hB ?_); cbv; fail_if_success show False)
            | (refine pickL hX (t := true) (by rfl) rfl ?_; cbv)
            | (refine pickL hX (t := false) (by rfl) rfl ?_; cbv)
          subst hp0
          replace i0 : 0 ≤ i := i0
          replace hlt : i < (xs.length : Int) := hlt
          replace hlt30 : i < 30 := hlt30
          have wi : IntKind.wrap .i64 (i + 1) = i + 1 := wrap_i64 (by unfold r64; omega)
          subst hR
          refine ⟨(i + 1, false, l2, .b v9 n9 c9, []), ⟨by show 0 ≤ i + 1; omega, by show i + 1 ≤ (xs.length : Int); omega, by show i + 1 ≤ 30; omega, ?_, ?_, ⟨[], rfl, by simp⟩, (by show (0 : Int) ≤ 50 * (i + 1); omega), ⟨rfl, hc9, hn9⟩⟩, by show xs.length - (i + 1).toNat < xs.length - i.toNat; omega, ?_⟩
          · show _ = decide (k < i + 1)
            symm; exact decide_eq_false (by omega)
          · show l2 = max (k - (i + 1)) 0
            omega
          · subst hA
            exact told_less (by simp [toldP, getS, A0, wi, AX.d])
        · cbv
          repeat first
            | (simp only [f1, f2, f2b, f2c, f2d, f2e, f2f, f3, f4, f5, f6, f7, f8, f9, f10, f13, f14, f15, f16, r1, r2]; cbv)
            | refine And.intro (by
                 subst hA hX hW hFsQ hFsL hFsRu hFsK
                 clear hH hB
                 first
                   | exact trivial
                   | exact rfl
                   | (simp [A0]; done)
                   | (intro q; exact q)
                   | (intro q; simpa [A0] using q)
                   | (intro _; trivial)
                   | (show Region.lexB _ _ = true; kernel_rfl)
                   | (show turnsB _ = true; kernel_rfl)
                   | assumption
                   | exact okqM) ?_
            | ((with_reducible refine callB hX hB ?_); cbv; fail_if_success show False)
            | (refine pickL hX (t := true) (by rfl) rfl ?_; cbv)
            | (refine pickL hX (t := false) (by rfl) rfl ?_; cbv)
          replace i0 : 0 ≤ i := i0
          replace hlt : i < (xs.length : Int) := hlt
          replace hlt30 : i < 30 := hlt30
          have wi : IntKind.wrap .i64 (i + 1) = i + 1 := wrap_i64 (by unfold r64; omega)
          subst hR
          refine ⟨(i + 1, false, l2, .c v9 n9 c9 0 k2 bs2, p), ⟨by show 0 ≤ i + 1; omega, by show i + 1 ≤ (xs.length : Int); omega, by show i + 1 ≤ 30; omega, ?_, ?_, hp, (by show (p.length : Int) ≤ 50 * (i + 1); omega), ⟨hc9, hn9, hbs2, hk2⟩⟩, by show xs.length - (i + 1).toNat < xs.length - i.toNat; omega, ?_⟩
          · show _ = decide (k < i + 1)
            symm; exact decide_eq_false (by omega)
          · show l2 = max (k - (i + 1)) 0
            omega
          · subst hA
            exact told_less (by simp [toldP, getS, A0, wi, AX.d])
      · have r1 : A.cmp .lss i k = false := by subst hA; exact decide_eq_false (by omega)
        have r2 : A.cmp .geq i k = true := by subst hA; exact decide_eq_true (by omega)
        cbv at r1 r2
        obtain rfl : o = false := by rw [ho]; exact decide_eq_false (by omega)
        obtain rfl : l = 0 := by omega
        have hy := arm_now (q := n) (L := ([] : List FileM)) (nm := nmF) (p := p) (by decide +kernel) hpT
        refine callL hX (app0 nmF p 0 rfl hD9 (by decide) hp hy (fun _ => ?_) fun v9 n9 c9 hc9 hn9 => ?_)
        · cbv
          repeat first
            | (simp only [f1, f2, f2b, f2c, f2d, f2e, f2f, f3, f4, f5, f6, f7, f8, f9, f10, f13, f14, f15, f16, r1, r2]; cbv)
            | refine And.intro (by
                 subst hA hX hW hFsQ hFsL hFsRu hFsK
                 clear hH hB
                 first
                   | exact trivial
                   | exact rfl
                   | (simp [A0]; done)
                   | (intro q; exact q)
                   | (intro q; simpa [A0] using q)
                   | (intro _; trivial)
                   | (show Region.lexB _ _ = true; kernel_rfl)
                   | (show turnsB _ = true; kernel_rfl)
                   | assumption
                   | exact okqM) ?_
            | ((with_reducible refine callB hX hB ?_); cbv; fail_if_success show False)
            | (refine pickL hX (t := true) (by rfl) rfl ?_; cbv)
            | (refine pickL hX (t := false) (by rfl) rfl ?_; cbv)
          refine stepTo (T := fun _ => tabY [43] []) (H := fun _ => [kn_within3 GFsQ, kn_runs GFsRu, kn_same GFsQ]) (tabY_ok _ _) hH follows_mixed hA hX [(1, .d (.slc 1 xs)), (5, .ref 0 0 0), (7, .d (.sc (.int .i64 k))), (8, .d (.sc (.slice none 0 0))), (9, .d (.sc (.int .i64 i))), (10, .d (.slc 1 p)), (74, .d (.sc (.bool false)))] [dB n (.d (.sc (.slice none 0 0))) true true 0] (fun R2 hR2 => ?_) ?_
          · show genG _ _ _ _ _ _ _ _ _ _
            repeat
              (refine genS (fun G hG => ?_)
               cbv
               repeat first
                 | (simp only [f1, f2, f2b, f2c, f2d, f2e, f2f, f3, f4, f5, f6, f7, f8, f9, f10, f13, f14, f15, f16, r1, r2]; cbv)
                 | refine And.intro (by
                      subst hA hX hW hFsQ hFsL hFsRu hFsK
                      clear hH hB
                      first
                        | exact trivial
                        | exact rfl
                        | (simp [A0]; done)
                        | (intro q; exact q)
                        | (intro q; simpa [A0] using q)
                        | (intro _; trivial)
                        | (show Region.lexB _ _ = true; kernel_rfl)
                        | (show turnsB _ = true; kernel_rfl)
                        | assumption
                        | exact okqM) ?_
                 | ((with_reducible refine callB hX hB ?_); cbv; fail_if_success show False)
                 | (refine pickL hX (t := true) (by rfl) rfl ?_; cbv)
                 | (refine pickL hX (t := false) (by rfl) rfl ?_; cbv)
               subst hG)
            cbv
            clear hH hB hX
            subst hR2
            exact told_less (by simp [toldP, getS])
          refine thenN ?_
          refine condN (b := false) rfl ?_
          refine skipN ?_
          refine thenN ?_
          refine seqN ?_
          cbv
          repeat first
            | (simp only [f1, f2, f2b, f2c, f2d, f2e, f2f, f3, f4, f5, f6, f7, f8, f9, f10, f13, f14, f15, f16, r1, r2]; cbv)
            | refine And.intro (by
                 subst hA hX hW hFsQ hFsL hFsRu hFsK
                 clear hH hB
                 first
                   | exact trivial
                   | exact rfl
                   | (simp [A0]; done)
                   | (intro q; exact q)
                   | (intro q; simpa [A0] using q)
                   | (intro _; trivial)
                   | (show Region.lexB _ _ = true; kernel_rfl)
                   | (show turnsB _ = true; kernel_rfl)
                   | assumption
                   | exact okqM) ?_
            | ((with_reducible refine callB hX hB ?_); cbv; fail_if_success show False)
            | (refine pickL hX (t := true) (by rfl) rfl ?_; cbv)
            | (refine pickL hX (t := false) (by rfl) rfl ?_; cbv)
          replace i0 : 0 ≤ i := i0
          replace hlt : i < (xs.length : Int) := hlt
          replace hlt30 : i < 30 := hlt30
          have wi : IntKind.wrap .i64 (i + 1) = i + 1 := wrap_i64 (by unfold r64; omega)
          subst hR
          refine ⟨(i + 1, true, 0, .a, []), ⟨by show 0 ≤ i + 1; omega, by show i + 1 ≤ (xs.length : Int); omega, by show i + 1 ≤ 30; omega, ?_, ?_, ⟨[], rfl, by simp⟩, (by show (0 : Int) ≤ 50 * (i + 1); omega), rfl⟩, by show xs.length - (i + 1).toNat < xs.length - i.toNat; omega, ?_⟩
          · show _ = decide (k < i + 1)
            symm; exact decide_eq_true (by omega)
          · show 0 = max (k - (i + 1)) 0
            omega
          · subst hA
            exact told_less (by simp [toldP, getS, A0, wi, AX.d])
        · have hF9 := isF_of hc9 hn9 (hD9.okL (by decide))
          cbv
          repeat first
            | (simp only [f1, f2, f2b, f2c, f2d, f2e, f2f, f3, f4, f5, f6, f7, f8, f9, f10, f13, f14, f15, f16, r1, r2]; cbv)
            | refine And.intro (by
                 subst hA hX hW hFsQ hFsL hFsRu hFsK
                 clear hH hB
                 first
                   | exact trivial
                   | exact rfl
                   | (simp [A0]; done)
                   | (intro q; exact q)
                   | (intro q; simpa [A0] using q)
                   | (intro _; trivial)
                   | (show Region.lexB _ _ = true; kernel_rfl)
                   | (show turnsB _ = true; kernel_rfl)
                   | assumption
                   | exact okqM) ?_
            | ((with_reducible refine callB hX hB ?_); cbv; fail_if_success show False)
            | (refine pickL hX (t := true) (by rfl) rfl ?_; cbv)
            | (refine pickL hX (t := false) (by rfl) rfl ?_; cbv)
          refine stepTo (T := fun _ => tabY [43] []) (H := fun _ => [kn_within3 GFsQ, kn_runs GFsRu, kn_same GFsQ]) (tabY_ok _ _) hH follows_mixed hA hX [(1, .d (.slc 1 xs)), (5, .ref 0 0 0), (7, .d (.sc (.int .i64 k))), (8, .d (.sc (.slice none 0 0))), (9, .d (.sc (.int .i64 i))), (10, .d (.slc 1 p)), (74, .d (.sc (.bool false)))] [dB n (.view 3 1 v9 0 n9) true true 0, fB c9 v9] (fun R2 hR2 => ?_) ?_
          · show genG _ _ _ _ _ _ _ _ _ _
            repeat
              (refine genS (fun G hG => ?_)
               cbv
               repeat first
                 | (simp only [f1, f2, f2b, f2c, f2d, f2e, f2f, f3, f4, f5, f6, f7, f8, f9, f10, f13, f14, f15, f16, r1, r2]; cbv)
                 | refine And.intro (by
                      subst hA hX hW hFsQ hFsL hFsRu hFsK
                      clear hH hB
                      first
                        | exact trivial
                        | exact rfl
                        | (simp [A0]; done)
                        | (intro q; exact q)
                        | (intro q; simpa [A0] using q)
                        | (intro _; trivial)
                        | (show Region.lexB _ _ = true; kernel_rfl)
                        | (show turnsB _ = true; kernel_rfl)
                        | assumption
                        | exact okqM) ?_
                 | ((with_reducible refine callB hX hB ?_); cbv; fail_if_success show False)
                 | (refine pickL hX (t := true) (by rfl) rfl ?_; cbv)
                 | (refine pickL hX (t := false) (by rfl) rfl ?_; cbv)
               subst hG)
            cbv
            clear hH hB hX
            subst hR2
            exact told_less (by simp [toldP, getS])
          refine thenN ?_
          refine condN (b := false) rfl ?_
          refine skipN ?_
          refine thenN ?_
          refine seqN ?_
          cbv
          repeat first
            | (simp only [f1, f2, f2b, f2c, f2d, f2e, f2f, f3, f4, f5, f6, f7, f8, f9, f10, f13, f14, f15, f16, r1, r2]; cbv)
            | refine And.intro (by
                 subst hA hX hW hFsQ hFsL hFsRu hFsK
                 clear hH hB
                 first
                   | exact trivial
                   | exact rfl
                   | (simp [A0]; done)
                   | (intro q; exact q)
                   | (intro q; simpa [A0] using q)
                   | (intro _; trivial)
                   | (show Region.lexB _ _ = true; kernel_rfl)
                   | (show turnsB _ = true; kernel_rfl)
                   | assumption
                   | exact okqM) ?_
            | ((with_reducible refine callB hX hB ?_); cbv; fail_if_success show False)
            | (refine pickL hX (t := true) (by rfl) rfl ?_; cbv)
            | (refine pickL hX (t := false) (by rfl) rfl ?_; cbv)
          replace i0 : 0 ≤ i := i0
          replace hlt : i < (xs.length : Int) := hlt
          replace hlt30 : i < 30 := hlt30
          have wi : IntKind.wrap .i64 (i + 1) = i + 1 := wrap_i64 (by unfold r64; omega)
          subst hR
          refine ⟨(i + 1, true, 0, .e v9 n9 c9, []), ⟨by show 0 ≤ i + 1; omega, by show i + 1 ≤ (xs.length : Int); omega, by show i + 1 ≤ 30; omega, ?_, ?_, ⟨[], rfl, by simp⟩, (by show (0 : Int) ≤ 50 * (i + 1); omega), ⟨rfl, hc9, hn9⟩⟩, by show xs.length - (i + 1).toNat < xs.length - i.toNat; omega, ?_⟩
          · show _ = decide (k < i + 1)
            symm; exact decide_eq_true (by omega)
          · show 0 = max (k - (i + 1)) 0
            omega
          · subst hA
            exact told_less (by simp [toldP, getS, A0, wi, AX.d])
      · have r1 : A.cmp .lss i k = false := by subst hA; exact decide_eq_false (by omega)
        have r2 : A.cmp .geq i k = true := by subst hA; exact decide_eq_true (by omega)
        cbv at r1 r2
        obtain rfl : o = true := by rw [ho]; exact decide_eq_true (by omega)
        have hy := arm_off (q := n) (l := l) (L := ([] : List FileM)) (nm := nmF) (p := p) (a := true)
        refine callL hX (app0 nmF p 0 rfl hD9 (by decide) hp hy (fun _ => ?_) fun v9 n9 c9 hc9 hn9 => ?_)
        · cbv
          repeat first
            | (simp only [f1, f2, f2b, f2c, f2d, f2e, f2f, f3, f4, f5, f6, f7, f8, f9, f10, f13, f14, f15, f16, r1, r2]; cbv)
            | refine And.intro (by
                 subst hA hX hW hFsQ hFsL hFsRu hFsK
                 clear hH hB
                 first
                   | exact trivial
                   | exact rfl
                   | (simp [A0]; done)
                   | (intro q; exact q)
                   | (intro q; simpa [A0] using q)
                   | (intro _; trivial)
                   | (show Region.lexB _ _ = true; kernel_rfl)
                   | (show turnsB _ = true; kernel_rfl)
                   | assumption
                   | exact okqM) ?_
            | ((with_reducible refine callB hX hB ?_); cbv; fail_if_success show False)
            | (refine pickL hX (t := true) (by rfl) rfl ?_; cbv)
            | (refine pickL hX (t := false) (by rfl) rfl ?_; cbv)
          refine stepTo (T := fun _ => tabY [43] []) (H := fun _ => [kn_within3 GFsQ, kn_runs GFsRu, kn_same GFsQ]) (tabY_ok _ _) hH follows_mixed hA hX [(1, .d (.slc 1 xs)), (5, .ref 0 0 0), (7, .d (.sc (.int .i64 k))), (8, .d (.sc (.slice none 0 0))), (9, .d (.sc (.int .i64 i))), (10, .d (.slc 1 p)), (74, .d (.sc (.bool false)))] [dB n (.d (.sc (.slice none 0 0))) true true l] (fun R2 hR2 => ?_) ?_
          · show genG _ _ _ _ _ _ _ _ _ _
            repeat
              (refine genS (fun G hG => ?_)
               cbv
               repeat first
                 | (simp only [f1, f2, f2b, f2c, f2d, f2e, f2f, f3, f4, f5, f6, f7, f8, f9, f10, f13, f14, f15, f16, r1, r2]; cbv)
                 | refine And.intro (by
                      subst hA hX hW hFsQ hFsL hFsRu hFsK
                      clear hH hB
                      first
                        | exact trivial
                        | exact rfl
                        | (simp [A0]; done)
                        | (intro q; exact q)
                        | (intro q; simpa [A0] using q)
                        | (intro _; trivial)
                        | (show Region.lexB _ _ = true; kernel_rfl)
                        | (show turnsB _ = true; kernel_rfl)
                        | assumption
                        | exact okqM) ?_
                 | ((with_reducible refine callB hX hB ?_); cbv; fail_if_success show False)
                 | (refine pickL hX (t := true) (by rfl) rfl ?_; cbv)
                 | (refine pickL hX (t := false) (by rfl) rfl ?_; cbv)
               subst hG)
            cbv
            clear hH hB hX
            subst hR2
            exact told_less (by simp [toldP, getS])
          refine thenN ?_
          refine condN (b := false) rfl ?_
          refine skipN ?_
          refine thenN ?_
          refine seqN ?_
          cbv
          repeat first
            | (simp only [f1, f2, f2b, f2c, f2d, f2e, f2f, f3, f4, f5, f6, f7, f8, f9, f10, f13, f14, f15, f16, r1, r2]; cbv)
            | refine And.intro (by
                 subst hA hX hW hFsQ hFsL hFsRu hFsK
                 clear hH hB
                 first
                   | exact trivial
                   | exact rfl
                   | (simp [A0]; done)
                   | (intro q; exact q)
                   | (intro q; simpa [A0] using q)
                   | (intro _; trivial)
                   | (show Region.lexB _ _ = true; kernel_rfl)
                   | (show turnsB _ = true; kernel_rfl)
                   | assumption
                   | exact okqM) ?_
            | ((with_reducible refine callB hX hB ?_); cbv; fail_if_success show False)
            | (refine pickL hX (t := true) (by rfl) rfl ?_; cbv)
            | (refine pickL hX (t := false) (by rfl) rfl ?_; cbv)
          replace i0 : 0 ≤ i := i0
          replace hlt : i < (xs.length : Int) := hlt
          replace hlt30 : i < 30 := hlt30
          have wi : IntKind.wrap .i64 (i + 1) = i + 1 := wrap_i64 (by unfold r64; omega)
          subst hR
          refine ⟨(i + 1, true, l, .a, []), ⟨by show 0 ≤ i + 1; omega, by show i + 1 ≤ (xs.length : Int); omega, by show i + 1 ≤ 30; omega, ?_, ?_, ⟨[], rfl, by simp⟩, (by show (0 : Int) ≤ 50 * (i + 1); omega), rfl⟩, by show xs.length - (i + 1).toNat < xs.length - i.toNat; omega, ?_⟩
          · show _ = decide (k < i + 1)
            symm; exact decide_eq_true (by omega)
          · show l = max (k - (i + 1)) 0
            omega
          · subst hA
            exact told_less (by simp [toldP, getS, A0, wi, AX.d])
        · have hF9 := isF_of hc9 hn9 (hD9.okL (by decide))
          cbv
          repeat first
            | (simp only [f1, f2, f2b, f2c, f2d, f2e, f2f, f3, f4, f5, f6, f7, f8, f9, f10, f13, f14, f15, f16, r1, r2]; cbv)
            | refine And.intro (by
                 subst hA hX hW hFsQ hFsL hFsRu hFsK
                 clear hH hB
                 first
                   | exact trivial
                   | exact rfl
                   | (simp [A0]; done)
                   | (intro q; exact q)
                   | (intro q; simpa [A0] using q)
                   | (intro _; trivial)
                   | (show Region.lexB _ _ = true; kernel_rfl)
                   | (show turnsB _ = true; kernel_rfl)
                   | assumption
                   | exact okqM) ?_
            | ((with_reducible refine callB hX hB ?_); cbv; fail_if_success show False)
            | (refine pickL hX (t := true) (by rfl) rfl ?_; cbv)
            | (refine pickL hX (t := false) (by rfl) rfl ?_; cbv)
          refine stepTo (T := fun _ => tabY [43] []) (H := fun _ => [kn_within3 GFsQ, kn_runs GFsRu, kn_same GFsQ]) (tabY_ok _ _) hH follows_mixed hA hX [(1, .d (.slc 1 xs)), (5, .ref 0 0 0), (7, .d (.sc (.int .i64 k))), (8, .d (.sc (.slice none 0 0))), (9, .d (.sc (.int .i64 i))), (10, .d (.slc 1 p)), (74, .d (.sc (.bool false)))] [dB n (.view 3 1 v9 0 n9) true true l, fB c9 v9] (fun R2 hR2 => ?_) ?_
          · show genG _ _ _ _ _ _ _ _ _ _
            repeat
              (refine genS (fun G hG => ?_)
               cbv
               repeat first
                 | (simp only [f1, f2, f2b, f2c, f2d, f2e, f2f, f3, f4, f5, f6, f7, f8, f9, f10, f13, f14, f15, f16, r1, r2]; cbv)
                 | refine And.intro (by
                      subst hA hX hW hFsQ hFsL hFsRu hFsK
                      clear hH hB
                      first
                        | exact trivial
                        | exact rfl
                        | (simp [A0]; done)
                        | (intro q; exact q)
                        | (intro q; simpa [A0] using q)
                        | (intro _; trivial)
                        | (show Region.lexB _ _ = true; kernel_rfl)
                        | (show turnsB _ = true; kernel_rfl)
                        | assumption
                        | exact okqM) ?_
                 | ((with_reducible refine callB hX hB ?_); cbv; fail_if_success show False)
                 | (refine pickL hX (t := true) (by rfl) rfl ?_; cbv)
                 | (refine pickL hX (t := false) (by rfl) rfl ?_; cbv)
               subst hG)
            cbv
            clear hH hB hX
            subst hR2
            exact told_less (by simp [toldP, getS])
          refine thenN ?_
          refine condN (b := false) rfl ?_
          refine skipN ?_
          refine thenN ?_
          refine seqN ?_
          cbv
          repeat first
            | (simp only [f1, f2, f2b, f2c, f2d, f2e, f2f, f3, f4, f5, f6, f7, f8, f9, f10, f13, f14, f15, f16, r1, r2]; cbv)
            | refine And.intro (by
                 subst hA hX hW hFsQ hFsL hFsRu hFsK
                 clear hH hB
                 first
                   | exact trivial
                   | exact rfl
                   | (simp [A0]; done)
                   | (intro q; exact q)
                   | (intro q; simpa [A0] using q)
                   | (intro _; trivial)
                   | (show Region.lexB _ _ = true; kernel_rfl)
                   | (show turnsB _ = true; kernel_rfl)
                   | assumption
                   | exact okqM) ?_
            | ((with_reducible refine callB hX hB ?_); cbv; fail_if_success show False)
            | (refine pickL hX (t := true) (by rfl) rfl ?_; cbv)
            | (refine pickL hX (t := false) (by rfl) rfl ?_; cbv)
          replace i0 : 0 ≤ i := i0
          replace hlt : i < (xs.length : Int) := hlt
          replace hlt30 : i < 30 := hlt30
          have wi : IntKind.wrap .i64 (i + 1) = i + 1 := wrap_i64 (by unfold r64; omega)
          subst hR
          refine ⟨(i + 1, true, l, .e v9 n9 c9, []), ⟨by show 0 ≤ i + 1; omega, by show i + 1 ≤ (xs.length : Int); omega, by show i + 1 ≤ 30; omega, ?_, ?_, ⟨[], rfl, by simp⟩, (by show (0 : Int) ≤ 50 * (i + 1); omega), ⟨rfl, hc9, hn9⟩⟩, by show xs.length - (i + 1).toNat < xs.length - i.toNat; omega, ?_⟩
          · show _ = decide (k < i + 1)
            symm; exact decide_eq_true (by omega)
          · show l = max (k - (i + 1)) 0
            omega
          · subst hA
            exact told_less (by simp [toldP, getS, A0, wi, AX.d])

  · obtain ⟨hw0, hcs, hm⟩ : ws = [] ∧ cs = cellsF [] ∧ m = 0 := hmd
    subst hw0
    replace hD9 : okD 900 ⟨n, [], o, true, l⟩ := hD9
    cbv
    apply cutL2 (X := X) (fun p : List (List PD) => isB p ∧ p.length ≤ 50 ∧ i < xs.length ∧ i < 30) (fun p => [(1, .d (.slc 1 xs)), (5, .ref 0 0 0), (7, .d (.sc (.int .i64 k))), (8, .d (.sc (.slice none 0 0))), (9, .d (.sc (.int .i64 i))), (10, .d (.slc 1 p))]) (fun _ => [dB n (.view 3 1 v 0 m) o true l, fB cs v])
    rotate_left
    · intro key
      repeat' first
        | (refine part (fun h => ?_) (fun h => ?_) <;> try cbv)
        | (refine And.intro ?_ ?_)
      all_goals first
        | (intro q; exact q)
        | (intro _; trivial)
        | (subst hA; intro q; simpa [A0] using q)
        | (have h9 : A.cond (A.cmp .lss i (A.len xs)) (A.cmp .lss i 30) false = true := by assumption
           obtain ⟨hlt, hlt30⟩ : i < xs.length ∧ i < 30 := by
             subst hA
             simp only [A0, cond_eq_ite, decide_eq_true_eq, Bool.if_false_right, Bool.and_eq_true] at h9
             exact h9
           obtain ⟨p, hp0, hpb⟩ := hrow i i0 hlt
           have e : A.gl (A.lift (A.row xs i)) 0 = p := by subst hA; simp only [A0, hp0]; rfl
           first
             | (subst hA; exact ⟨i0, hlt⟩)
             | (subst hA; simp only [A0, hp0]; exact ⟨rfl, Nat.le_refl _, rfl⟩)
             | (have h8 : A.cmp .gtr (A.len (A.gl (A.lift (A.row xs i)) 0)) 50 = true := by assumption
                replace h8 : (50 : Int) < p.length := by
                  rw [e] at h8
                  subst hA
                  simp only [A0, decide_eq_true_eq] at h8
                  exact h8
                first
                  | (show A.bnd 0 50 (A.len (A.gl (A.lift (A.row xs i)) 0)); rw [e]; subst hA; exact (⟨by decide, by decide, by omega⟩ : (0 : Int) ≤ (0 : Int) ∧ (0 : Int) ≤ (50 : Int) ∧ (50 : Int) ≤ (p.length : Int)))
                  | (refine pauseL hX (s' := _) (st' := _) ?_ (key (p.take 50) ⟨isB.take hpb _, by simp only [List.length_take]; omega, hlt, hlt30⟩)
                     subst hA
                     exact told_less (by simp [toldP, getS, e]; simp [A0])))
             | (have h8 : A.cmp .gtr (A.len (A.gl (A.lift (A.row xs i)) 0)) 50 = false := by assumption
                replace h8 : ¬ (50 : Int) < p.length := by
                  rw [e] at h8
                  subst hA
                  simp only [A0, decide_eq_false_iff_not] at h8
                  exact h8
                refine pauseL hX (s' := _) (st' := _) ?_ (key p ⟨hpb, by omega, hlt, hlt30⟩)
                exact told_less (by simp [toldP, getS, e])))
        | skip
      all_goals
        refine pauseL hX (s' := [(5, .ref 0 0 0), (8, .d (.slc 1 []))]) (st' := [dB n (.view 3 1 v 0 m) o true l, fB cs v]) (told_up ⟨.inl (.inl rfl), .inl (.inr ⟨rfl, _, rfl⟩), trivial⟩) ?_
        have rd1 : GFsL.rd cs nmF = [] := by
          subst hFsL
          show readsX cs nmF = _
          unfold readsX
          rw [hcs, rowF_cells]
          rfl
        have rs : GFsQ.same [] [] = true := by subst hFsQ; exact (sameB_eq _ _).2 rfl
        have z1 : A.len [] = 0 := by subst hA; rfl
        have hB0 : isB [] := ⟨[], rfl, by simp⟩
        have hF9 := isF_of hcs hm (hD9.okL (by decide))
        have hO9 := okD_of hcs hD9
        cbv at rd1 rs z1
        with_reducible refine goL (T := fun _ => tabY [43] []) (H := fun _ => [kn_within3 GFsQ, kn_runs GFsRu, kn_same GFsQ]) (tabY_ok _ _) hH follows_mixed hA hX ?_
        cbv
        repeat first
          | (simp only [f1, f2, f2b, f2c, f2d, f2e, f2f, f3, f4, f5, f6, f7, f8, f9, f10, f13, f14, f15, f16, rd1, rs, z1]; cbv)
          | refine And.intro (by
               subst hA hX hW hFsQ hFsL hFsRu hFsK
               clear hH hB
               first
                 | exact trivial
                 | exact rfl
                 | (simp [A0]; done)
                 | (intro q; exact q)
                 | (intro q; simpa [A0] using q)
                 | (intro _; trivial)
                 | (show Region.lexB _ _ = true; kernel_rfl)
                 | (show turnsB _ = true; kernel_rfl)
                 | assumption
                 | exact okqM
                 | exact hB0
                 | exact fun _ => hB0
                 | exact hws) ?_
          | ((with_reducible refine callB hX hB ?_); cbv; fail_if_success show False)
          | (refine pickL hX (t := true) (by rfl) rfl ?_; cbv)
          | (refine pickL hX (t := false) (by rfl) rfl ?_; cbv)
        have hyC : (Dk.mk n ([] : List FileM) o true l).crash [] = ⟨n, ([] : List FileM), false, false, 0⟩ := rfl
        have ok6 : okD 900 ⟨n, ([] : List FileM), false, false, 0⟩ := okD_nil (by omega) (by decide)
        have hy7 := app_yes (q := n) (L := ([] : List FileM)) (nm := nmG) (p := []) (by decide +kernel) (by simp [totF]; omega)
        refine callL hX (FnD.nils (crash1 (e := 0) [] 0 1 ([] : List FileM) rfl rfl (by decide) hcs hm hD9 (by simp) (by simp) hyC fun v6 n6 c6 hc6 hn6 => ?_) ⟨.inl rfl, .inr ⟨rfl, _, rfl⟩, trivial⟩)
        have rd6 : GFsL.rd c6 nmF = [] := by
          subst hFsL
          show readsX c6 nmF = _
          unfold readsX
          rw [hc6, rowF_cells]
          rfl
        cbv at rd6
        have hF6 := isF_of hc6 hn6 (ok6.okL (by decide))
        have hO6 := okD_of hc6 ok6
        cbv
        repeat first
          | (simp only [f1, f2, f2b, f2c, f2d, f2e, f2f, f3, f4, f5, f6, f7, f8, f9, f10, f13, f14, f15, f16, rd6, z1]; cbv)
          | refine And.intro (by
               subst hA hX hW hFsQ hFsL hFsRu hFsK
               clear hH hB
               first
                 | exact trivial
                 | exact rfl
                 | (simp [A0]; done)
                 | (intro q; exact q)
                 | (intro q; simpa [A0] using q)
                 | (intro _; trivial)
                 | (show Region.lexB _ _ = true; kernel_rfl)
                 | (show turnsB _ = true; kernel_rfl)
                 | assumption
                 | exact okqM) ?_
          | ((with_reducible refine callB hX hB ?_); cbv; fail_if_success show False)
          | (refine pickL hX (t := true) (by rfl) rfl ?_; cbv)
          | (refine pickL hX (t := false) (by rfl) rfl ?_; cbv)
        refine callL hX (FnD.nils (app1 nmG [] 0 1 ([] : List FileM) rfl rfl (by decide) hc6 hn6 ok6 (by decide) hB0 hy7 fun v7 n7 c7 hc7 hn7 => ?_) ⟨.inl rfl, .inl rfl, .inr ⟨rfl, _, rfl⟩, trivial⟩)
        cbv
        repeat first
          | (simp only [f1, f2, f2b, f2c, f2d, f2e, f2f, f3, f4, f5, f6, f7, f8, f9, f10, f13, f14, f15, f16, rd6, z1]; cbv)
          | refine And.intro (by
               subst hA hX hW hFsQ hFsL hFsRu hFsK
               clear hH hB
               first
                 | exact trivial
                 | exact rfl
                 | (simp [A0]; done)
                 | (intro q; exact q)
                 | (intro q; simpa [A0] using q)
                 | (intro _; trivial)
                 | (show Region.lexB _ _ = true; kernel_rfl)
                 | (show turnsB _ = true; kernel_rfl)
                 | assumption
                 | exact okqM) ?_
          | ((with_reducible refine callB hX hB ?_); cbv; fail_if_success show False)
          | (refine pickL hX (t := true) (by rfl) rfl ?_; cbv)
          | (refine pickL hX (t := false) (by rfl) rfl ?_; cbv)
        subst hA hX hW hFsQ hFsL hFsRu hFsK
        exact ret_v rfl rfl
    · rintro p ⟨hp, hp1, hlt, hlt30⟩
      replace hlt : i < (xs.length : Int) := hlt
      replace hlt30 : i < 30 := hlt30
      have hpT : totF ([] : List FileM) + p.length ≤ n := by
        rw [hn]
        simp only [totF]
        omega
      with_reducible refine goL (T := fun _ => tabY [43] [14, 17, 18]) (H := fun _ => [kn_within3 GFsQ, kn_runs GFsRu, kn_same GFsQ]) (tabY_ok _ _) hH follows_mixed hA hX ?_
      cbv
      rcases Int.lt_trichotomy i k with hik | hik | hik
      · have r1 : A.cmp .lss i k = true := by subst hA; exact decide_eq_true hik
        have r2 : A.cmp .geq i k = false := by subst hA; exact decide_eq_false (by omega)
        cbv at r1 r2
        obtain rfl : o = false := by rw [ho]; exact decide_eq_false (by omega)
        obtain ⟨l2, hl2⟩ : ∃ l2, l2 = l - 1 := ⟨_, rfl⟩
        have hy := arm_yes (q := n) (l := l) (L := ([] : List FileM)) (nm := nmF) (p := p) (by decide +kernel) hpT (by omega)
        rw [← hl2, show addF ([] : List FileM) nmF p = [⟨nmF, p, 0⟩] from rfl] at hy
        refine callL hX (app1 nmF p 0 1 ([] : List FileM) rfl rfl (by decide) hcs hm hD9 (by decide) hp hy fun v9 n9 c9 hc9 hn9 => ?_)
        have hk9 : okL [⟨nmF, p, 0⟩] := ⟨by simp only [totF, List.length_append]; push_cast; omega, by simp⟩
        have hF9 := isF_of hc9 hn9 hk9
        cbv
        repeat first
          | (simp only [f1, f2, f2b, f2c, f2d, f2e, f2f, f3, f4, f5, f6, f7, f8, f9, f10, f13, f14, f15, f16, r1, r2]; cbv)
          | refine And.intro (by
               subst hA hX hW hFsQ hFsL hFsRu hFsK
               clear hH hB
               first
                 | exact trivial
                 | exact rfl
                 | (simp [A0]; done)
                 | (intro q; exact q)
                 | (intro q; simpa [A0] using q)
                 | (intro _; trivial)
                 | (show Region.lexB _ _ = true; kernel_rfl)
                 | (show turnsB _ = true; kernel_rfl)
                 | assumption
                 | exact okqM) ?_
          | ((with_reducible refine callB hX hB ?_); cbv; fail_if_success show False)
          | (refine pickL hX (t := true) (by rfl) rfl ?_; cbv)
          | (refine pickL hX (t := false) (by rfl) rfl ?_; cbv)
        refine stepTo (T := fun _ => tabY [43] []) (H := fun _ => [kn_within3 GFsQ, kn_runs GFsRu, kn_same GFsQ]) (tabY_ok _ _) hH follows_mixed hA hX [(1, .d (.slc 1 xs)), (5, .ref 0 0 0), (7, .d (.sc (.int .i64 k))), (8, .d (.sc (.slice none 0 0))), (9, .d (.sc (.int .i64 i))), (10, .d (.slc 1 p)), (74, .d (.sc (.bool false)))] [dB n (.view 3 1 v9 0 n9) false true l2, fB c9 v9] (fun R2 hR2 => ?_) ?_
        · show genG _ _ _ _ _ _ _ _ _ _
          repeat
            (refine genS (fun G hG => ?_)
             cbv
             repeat first
               | (simp only [f1, f2, f2b, f2c, f2d, f2e, f2f, f3, f4, f5, f6, f7, f8, f9, f10, f13, f14, f15, f16, r1, r2]; cbv)
               | refine And.intro (by
                    subst hA hX hW hFsQ hFsL hFsRu hFsK
                    clear hH hB
                    first
                      | exact trivial
                      | exact rfl
                      | (simp [A0]; done)
                      | (intro q; exact q)
                      | (intro q; simpa [A0] using q)
                      | (intro _; trivial)
                      | (show Region.lexB _ _ = true; kernel_rfl)
                      | (show turnsB _ = true; kernel_rfl)
                      | assumption
                      | exact okqM) ?_
               | ((with_reducible refine callB hX hB ?_); cbv; fail_if_success show False)
               | (refine pickL hX (t := true) (by rfl) rfl ?_; cbv)
               | (refine pickL hX (t := false) (by rfl) rfl ?_; cbv)
             subst hG)
          cbv
          clear hH hB hX
          subst hR2
          exact told_less (by simp [toldP, getS])
        refine thenN ?_
        refine condN (b := false) rfl ?_
        refine skipN ?_
        refine thenN ?_
        refine seqN ?_
        cbv
        repeat first
          | (simp only [f1, f2, f2b, f2c, f2d, f2e, f2f, f3, f4, f5, f6, f7, f8, f9, f10, f13, f14, f15, f16, r1, r2]; cbv)
          | refine And.intro (by
               subst hA hX hW hFsQ hFsL hFsRu hFsK
               clear hH hB
               first
                 | exact trivial
                 | exact rfl
                 | (simp [A0]; done)
                 | (intro q; exact q)
                 | (intro q; simpa [A0] using q)
                 | (intro _; trivial)
                 | (show Region.lexB _ _ = true; kernel_rfl)
                 | (show turnsB _ = true; kernel_rfl)
                 | assumption
                 | exact okqM) ?_
          | ((with_reducible refine callB hX hB ?_); cbv; fail_if_success show False)
          | (refine pickL hX (t := true) (by rfl) rfl ?_; cbv)
          | (refine pickL hX (t := false) (by rfl) rfl ?_; cbv)
        with_reducible refine goL (T := fun _ => tabY [43] [18]) (H := fun _ => [kn_within3 GFsQ, kn_runs GFsRu, kn_same GFsQ]) (tabY_ok _ _) hH follows_mixed hA hX ?_
        cbv
        refine appendNilL hX (tabY_ok [] []) (t := 27) (e := 5) (sz := 1) (by8 := 1) (z := [.d (.sc (.int .u8 0))]) (xs := p) rfl rfl rfl rfl (by decide) rfl rfl ⟨by omega, by omega⟩ (fun hp0 => ?_) (fun bs2 k2 hbs2 hk2 hne => ?_)
        · cbv
          repeat first
            | (simp only [f1, f2, f2b, f2c, f2d, f2e, f2f, f3, f4, f5, f6, f7, f8, f9, f10, f13, f14, f15, f16, r1, r2]; cbv)
            | refine And.intro (by
                 subst hA hX hW hFsQ hFsL hFsRu hFsK
                 clear hH hB
                 first
                   | exact trivial
                   | exact rfl
                   | (simp [A0]; done)
                   | (intro q; exact q)
                   | (intro q; simpa [A0] using q)
                   | (intro _; trivial)
                   | (show Region.lexB _ _ = true; kernel_rfl)
                   | (show turnsB _ = true; kernel_rfl)
                   | assumption
                   | exact okqM) ?_
            | ((with_reducible refine callB hX hB ?_); cbv; fail_if_success show False)
            | (refine pickL hX (t := true) (by rfl) rfl ?_; cbv)
            | (refine pickL hX (t := false) (by rfl) rfl ?_; cbv)
          subst hp0
          replace i0 : 0 ≤ i := i0
          replace hlt : i < (xs.length : Int) := hlt
          replace hlt30 : i < 30 := hlt30
          have wi : IntKind.wrap .i64 (i + 1) = i + 1 := wrap_i64 (by unfold r64; omega)
          subst hR
          refine ⟨(i + 1, false, l2, .b v9 n9 c9, []), ⟨by show 0 ≤ i + 1; omega, by show i + 1 ≤ (xs.length : Int); omega, by show i + 1 ≤ 30; omega, ?_, ?_, ⟨[], rfl, by simp⟩, (by show (0 : Int) ≤ 50 * (i + 1); omega), ⟨rfl, hc9, hn9⟩⟩, by show xs.length - (i + 1).toNat < xs.length - i.toNat; omega, ?_⟩
          · show _ = decide (k < i + 1)
            symm; exact decide_eq_false (by omega)
          · show l2 = max (k - (i + 1)) 0
            omega
          · subst hA
            exact told_less (by simp [toldP, getS, A0, wi, AX.d])
        · cbv
          repeat first
            | (simp only [f1, f2, f2b, f2c, f2d, f2e, f2f, f3, f4, f5, f6, f7, f8, f9, f10, f13, f14, f15, f16, r1, r2]; cbv)
            | refine And.intro (by
                 subst hA hX hW hFsQ hFsL hFsRu hFsK
                 clear hH hB
                 first
                   | exact trivial
                   | exact rfl
                   | (simp [A0]; done)
                   | (intro q; exact q)
                   | (intro q; simpa [A0] using q)
                   | (intro _; trivial)
                   | (show Region.lexB _ _ = true; kernel_rfl)
                   | (show turnsB _ = true; kernel_rfl)
                   | assumption
                   | exact okqM) ?_
            | ((with_reducible refine callB hX hB ?_); cbv; fail_if_success show False)
            | (refine pickL hX (t := true) (by rfl) rfl ?_; cbv)
            | (refine pickL hX (t := false) (by rfl) rfl ?_; cbv)
          replace i0 : 0 ≤ i := i0
          replace hlt : i < (xs.length : Int) := hlt
          replace hlt30 : i < 30 := hlt30
          have wi : IntKind.wrap .i64 (i + 1) = i + 1 := wrap_i64 (by unfold r64; omega)
          subst hR
          refine ⟨(i + 1, false, l2, .c v9 n9 c9 0 k2 bs2, p), ⟨by show 0 ≤ i + 1; omega, by show i + 1 ≤ (xs.length : Int); omega, by show i + 1 ≤ 30; omega, ?_, ?_, hp, (by show (p.length : Int) ≤ 50 * (i + 1); omega), ⟨hc9, hn9, hbs2, hk2⟩⟩, by show xs.length - (i + 1).toNat < xs.length - i.toNat; omega, ?_⟩
          · show _ = decide (k < i + 1)
            symm; exact decide_eq_false (by omega)
          · show l2 = max (k - (i + 1)) 0
            omega
          · subst hA
            exact told_less (by simp [toldP, getS, A0, wi, AX.d])
      · have r1 : A.cmp .lss i k = false := by subst hA; exact decide_eq_false (by omega)
        have r2 : A.cmp .geq i k = true := by subst hA; exact decide_eq_true (by omega)
        cbv at r1 r2
        obtain rfl : o = false := by rw [ho]; exact decide_eq_false (by omega)
        obtain rfl : l = 0 := by omega
        have hy := arm_now (q := n) (L := ([] : List FileM)) (nm := nmF) (p := p) (by decide +kernel) hpT
        refine callL hX (app1 nmF p 0 1 ([] : List FileM) rfl rfl (by decide) hcs hm hD9 (by decide) hp hy fun v9 n9 c9 hc9 hn9 => ?_)
        have hF9 := isF_of hc9 hn9 (hD9.okL (by decide))
        cbv
        repeat first
          | (simp only [f1, f2, f2b, f2c, f2d, f2e, f2f, f3, f4, f5, f6, f7, f8, f9, f10, f13, f14, f15, f16, r1, r2]; cbv)
          | refine And.intro (by
               subst hA hX hW hFsQ hFsL hFsRu hFsK
               clear hH hB
               first
                 | exact trivial
                 | exact rfl
                 | (simp [A0]; done)
                 | (intro q; exact q)
                 | (intro q; simpa [A0] using q)
                 | (intro _; trivial)
                 | (show Region.lexB _ _ = true; kernel_rfl)
                 | (show turnsB _ = true; kernel_rfl)
                 | assumption
                 | exact okqM) ?_
          | ((with_reducible refine callB hX hB ?_); cbv; fail_if_success show False)
          | (refine pickL hX (t := true) (by rfl) rfl ?_; cbv)
          | (refine pickL hX (t := false) (by rfl) rfl ?_; cbv)
        refine stepTo (T := fun _ => tabY [43] []) (H := fun _ => [kn_within3 GFsQ, kn_runs GFsRu, kn_same GFsQ]) (tabY_ok _ _) hH follows_mixed hA hX [(1, .d (.slc 1 xs)), (5, .ref 0 0 0), (7, .d (.sc (.int .i64 k))), (8, .d (.sc (.slice none 0 0))), (9, .d (.sc (.int .i64 i))), (10, .d (.slc 1 p)), (74, .d (.sc (.bool false)))] [dB n (.view 3 1 v9 0 n9) true true 0, fB c9 v9] (fun R2 hR2 => ?_) ?_
        · show genG _ _ _ _ _ _ _ _ _ _
          repeat
            (refine genS (fun G hG => ?_)
             cbv
             repeat first
               | (simp only [f1, f2, f2b, f2c, f2d, f2e, f2f, f3, f4, f5, f6, f7, f8, f9, f10, f13, f14, f15, f16, r1, r2]; cbv)
               | refine And.intro (by
                    subst hA hX hW hFsQ hFsL hFsRu hFsK
                    clear hH hB
                    first
                      | exact trivial
                      | exact rfl
                      | (simp [A0]; done)
                      | (intro q; exact q)
                      | (intro q; simpa [A0] using q)
                      | (intro _; trivial)
                      | (show Region.lexB _ _ = true; kernel_rfl)
                      | (show turnsB _ = true; kernel_rfl)
                      | assumption
                      | exact okqM) ?_
               | ((with_reducible refine callB hX hB ?_); cbv; fail_if_success show False)
               | (refine pickL hX (t := true) (by rfl) rfl ?_; cbv)
               | (refine pickL hX (t := false) (by rfl) rfl ?_; cbv)
             subst hG)
          cbv
          clear hH hB hX
          subst hR2
          exact told_less (by simp [toldP, getS])
        refine thenN ?_
        refine condN (b := false) rfl ?_
        refine skipN ?_
        refine thenN ?_
        refine seqN ?_
        cbv
        repeat first
          | (simp only [f1, f2, f2b, f2c, f2d, f2e, f2f, f3, f4, f5, f6, f7, f8, f9, f10, f13, f14, f15, f16, r1, r2]; cbv)
          | refine And.intro (by
               subst hA hX hW hFsQ hFsL hFsRu hFsK
               clear hH hB
               first
                 | exact trivial
                 | exact rfl
                 | (simp [A0]; done)
                 | (intro q; exact q)
                 | (intro q; simpa [A0] using q)
                 | (intro _; trivial)
                 | (show Region.lexB _ _ = true; kernel_rfl)
                 | (show turnsB _ = true; kernel_rfl)
                 | assumption
                 | exact okqM) ?_
          | ((with_reducible refine callB hX hB ?_); cbv; fail_if_success show False)
          | (refine pickL hX (t := true) (by rfl) rfl ?_; cbv)
          | (refine pickL hX (t := false) (by rfl) rfl ?_; cbv)
        replace i0 : 0 ≤ i := i0
        replace hlt : i < (xs.length : Int) := hlt
        replace hlt30 : i < 30 := hlt30
        have wi : IntKind.wrap .i64 (i + 1) = i + 1 := wrap_i64 (by unfold r64; omega)
        subst hR
        refine ⟨(i + 1, true, 0, .e v9 n9 c9, []), ⟨by show 0 ≤ i + 1; omega, by show i + 1 ≤ (xs.length : Int); omega, by show i + 1 ≤ 30; omega, ?_, ?_, ⟨[], rfl, by simp⟩, (by show (0 : Int) ≤ 50 * (i + 1); omega), ⟨rfl, hc9, hn9⟩⟩, by show xs.length - (i + 1).toNat < xs.length - i.toNat; omega, ?_⟩
        · show _ = decide (k < i + 1)
          symm; exact decide_eq_true (by omega)
        · show 0 = max (k - (i + 1)) 0
          omega
        · subst hA
          exact told_less (by simp [toldP, getS, A0, wi, AX.d])
      · have r1 : A.cmp .lss i k = false := by subst hA; exact decide_eq_false (by omega)
        have r2 : A.cmp .geq i k = true := by subst hA; exact decide_eq_true (by omega)
        cbv at r1 r2
        obtain rfl : o = true := by rw [ho]; exact decide_eq_true (by omega)
        have hy := arm_off (q := n) (l := l) (L := ([] : List FileM)) (nm := nmF) (p := p) (a := true)
        refine callL hX (app1 nmF p 0 1 ([] : List FileM) rfl rfl (by decide) hcs hm hD9 (by decide) hp hy fun v9 n9 c9 hc9 hn9 => ?_)
        have hF9 := isF_of hc9 hn9 (hD9.okL (by decide))
        cbv
        repeat first
          | (simp only [f1, f2, f2b, f2c, f2d, f2e, f2f, f3, f4, f5, f6, f7, f8, f9, f10, f13, f14, f15, f16, r1, r2]; cbv)
          | refine And.intro (by
               subst hA hX hW hFsQ hFsL hFsRu hFsK
               clear hH hB
               first
                 | exact trivial
                 | exact rfl
                 | (simp [A0]; done)
                 | (intro q; exact q)
                 | (intro q; simpa [A0] using q)
                 | (intro _; trivial)
                 | (show Region.lexB _ _ = true; kernel_rfl)
                 | (show turnsB _ = true; kernel_rfl)
                 | assumption
                 | exact okqM) ?_
          | ((with_reducible refine callB hX hB ?_); cbv; fail_if_success show False)
          | (refine pickL hX (t := true) (by rfl) rfl ?_; cbv)
          | (refine pickL hX (t := false) (by rfl) rfl ?_; cbv)
        refine stepTo (T := fun _ => tabY [43] []) (H := fun _ => [kn_within3 GFsQ, kn_runs GFsRu, kn_same GFsQ]) (tabY_ok _ _) hH follows_mixed hA hX [(1, .d (.slc 1 xs)), (5, .ref 0 0 0), (7, .d (.sc (.int .i64 k))), (8, .d (.sc (.slice none 0 0))), (9, .d (.sc (.int .i64 i))), (10, .d (.slc 1 p)), (74, .d (.sc (.bool false)))] [dB n (.view 3 1 v9 0 n9) true true l, fB c9 v9] (fun R2 hR2 => ?_) ?_
        · show genG _ _ _ _ _ _ _ _ _ _
          repeat
            (refine genS (fun G hG => ?_)
             cbv
             repeat first
               | (simp only [f1, f2, f2b, f2c, f2d, f2e, f2f, f3, f4, f5, f6, f7, f8, f9, f10, f13, f14, f15, f16, r1, r2]; cbv)
               | refine And.intro (by
                    subst hA hX hW hFsQ hFsL hFsRu hFsK
                    clear hH hB
                    first
                      | exact trivial
                      | exact rfl
                      | (simp [A0]; done)
                      | (intro q; exact q)
                      | (intro q; simpa [A0] using q)
                      | (intro _; trivial)
                      | (show Region.lexB _ _ = true; kernel_rfl)
                      | (show turnsB _ = true; kernel_rfl)
                      | assumption
                      | exact okqM) ?_
               | ((with_reducible refine callB hX hB ?_); cbv; fail_if_success show False)
               | (refine pickL hX (t := true) (by rfl) rfl ?_; cbv)
               | (refine pickL hX (t := false) (by rfl) rfl ?_; cbv)
             subst hG)
          cbv
          clear hH hB hX
          subst hR2
          exact told_less (by simp [toldP, getS])
        refine thenN ?_
        refine condN (b := false) rfl ?_
        refine skipN ?_
        refine thenN ?_
        refine seqN ?_
        cbv
        repeat first
          | (simp only [f1, f2, f2b, f2c, f2d, f2e, f2f, f3, f4, f5, f6, f7, f8, f9, f10, f13, f14, f15, f16, r1, r2]; cbv)
          | refine And.intro (by
               subst hA hX hW hFsQ hFsL hFsRu hFsK
               clear hH hB
               first
                 | exact trivial
                 | exact rfl
                 | (simp [A0]; done)
                 | (intro q; exact q)
                 | (intro q; simpa [A0] using q)
                 | (intro _; trivial)
                 | (show Region.lexB _ _ = true; kernel_rfl)
                 | (show turnsB _ = true; kernel_rfl)
                 | assumption
                 | exact okqM) ?_
          | ((with_reducible refine callB hX hB ?_); cbv; fail_if_success show False)
          | (refine pickL hX (t := true) (by rfl) rfl ?_; cbv)
          | (refine pickL hX (t := false) (by rfl) rfl ?_; cbv)
        replace i0 : 0 ≤ i := i0
        replace hlt : i < (xs.length : Int) := hlt
        replace hlt30 : i < 30 := hlt30
        have wi : IntKind.wrap .i64 (i + 1) = i + 1 := wrap_i64 (by unfold r64; omega)
        subst hR
        refine ⟨(i + 1, true, l, .e v9 n9 c9, []), ⟨by show 0 ≤ i + 1; omega, by show i + 1 ≤ (xs.length : Int); omega, by show i + 1 ≤ 30; omega, ?_, ?_, ⟨[], rfl, by simp⟩, (by show (0 : Int) ≤ 50 * (i + 1); omega), ⟨rfl, hc9, hn9⟩⟩, by show xs.length - (i + 1).toNat < xs.length - i.toNat; omega, ?_⟩
        · show _ = decide (k < i + 1)
          symm; exact decide_eq_true (by omega)
        · show l = max (k - (i + 1)) 0
          omega
        · subst hA
          exact told_less (by simp [toldP, getS, A0, wi, AX.d])

  · obtain ⟨hw0, hcs, hm⟩ : ws = [] ∧ cs = cellsF [⟨nmF, [], 0⟩] ∧ m = 1 := hmd
    subst hw0
    replace hD9 : okD 900 ⟨n, [⟨nmF, [], 0⟩], o, true, l⟩ := hD9
    cbv
    apply cutL2 (X := X) (fun p : List (List PD) => isB p ∧ p.length ≤ 50 ∧ i < xs.length ∧ i < 30) (fun p => [(1, .d (.slc 1 xs)), (5, .ref 0 0 0), (7, .d (.sc (.int .i64 k))), (8, .d (.sc (.slice none 0 0))), (9, .d (.sc (.int .i64 i))), (10, .d (.slc 1 p))]) (fun _ => [dB n (.view 3 1 v 0 m) o true l, fB cs v])
    rotate_left
    · intro key
      repeat' first
        | (refine part (fun h => ?_) (fun h => ?_) <;> try cbv)
        | (refine And.intro ?_ ?_)
      all_goals first
        | (intro q; exact q)
        | (intro _; trivial)
        | (subst hA; intro q; simpa [A0] using q)
        | (have h9 : A.cond (A.cmp .lss i (A.len xs)) (A.cmp .lss i 30) false = true := by assumption
           obtain ⟨hlt, hlt30⟩ : i < xs.length ∧ i < 30 := by
             subst hA
             simp only [A0, cond_eq_ite, decide_eq_true_eq, Bool.if_false_right, Bool.and_eq_true] at h9
             exact h9
           obtain ⟨p, hp0, hpb⟩ := hrow i i0 hlt
           have e : A.gl (A.lift (A.row xs i)) 0 = p := by subst hA; simp only [A0, hp0]; rfl
           first
             | (subst hA; exact ⟨i0, hlt⟩)
             | (subst hA; simp only [A0, hp0]; exact ⟨rfl, Nat.le_refl _, rfl⟩)
             | (have h8 : A.cmp .gtr (A.len (A.gl (A.lift (A.row xs i)) 0)) 50 = true := by assumption
                replace h8 : (50 : Int) < p.length := by
                  rw [e] at h8
                  subst hA
                  simp only [A0, decide_eq_true_eq] at h8
                  exact h8
                first
                  | (show A.bnd 0 50 (A.len (A.gl (A.lift (A.row xs i)) 0)); rw [e]; subst hA; exact (⟨by decide, by decide, by omega⟩ : (0 : Int) ≤ (0 : Int) ∧ (0 : Int) ≤ (50 : Int) ∧ (50 : Int) ≤ (p.length : Int)))
                  | (refine pauseL hX (s' := _) (st' := _) ?_ (key (p.take 50) ⟨isB.take hpb _, by simp only [List.length_take]; omega, hlt, hlt30⟩)
                     subst hA
                     exact told_less (by simp [toldP, getS, e]; simp [A0])))
             | (have h8 : A.cmp .gtr (A.len (A.gl (A.lift (A.row xs i)) 0)) 50 = false := by assumption
                replace h8 : ¬ (50 : Int) < p.length := by
                  rw [e] at h8
                  subst hA
                  simp only [A0, decide_eq_false_iff_not] at h8
                  exact h8
                refine pauseL hX (s' := _) (st' := _) ?_ (key p ⟨hpb, by omega, hlt, hlt30⟩)
                exact told_less (by simp [toldP, getS, e])))
        | skip
      all_goals
        refine pauseL hX (s' := [(5, .ref 0 0 0), (8, .d (.slc 1 []))]) (st' := [dB n (.view 3 1 v 0 m) o true l, fB cs v]) (told_up ⟨.inl (.inl rfl), .inl (.inr ⟨rfl, _, rfl⟩), trivial⟩) ?_
        have rd1 : GFsL.rd cs nmF = [] := by
          subst hFsL
          show readsX cs nmF = _
          unfold readsX
          rw [hcs, rowF_cells]
          exact reads_same nmF [] 0
        have rs : GFsQ.same [] [] = true := by subst hFsQ; exact (sameB_eq _ _).2 rfl
        have z1 : A.len [] = 0 := by subst hA; rfl
        have hB0 : isB [] := ⟨[], rfl, by simp⟩
        have hF9 := isF_of hcs hm (hD9.okL (by decide))
        have hO9 := okD_of hcs hD9
        cbv at rd1 rs z1
        with_reducible refine goL (T := fun _ => tabY [43] []) (H := fun _ => [kn_within3 GFsQ, kn_runs GFsRu, kn_same GFsQ]) (tabY_ok _ _) hH follows_mixed hA hX ?_
        cbv
        repeat first
          | (simp only [f1, f2, f2b, f2c, f2d, f2e, f2f, f3, f4, f5, f6, f7, f8, f9, f10, f13, f14, f15, f16, rd1, rs, z1]; cbv)
          | refine And.intro (by
               subst hA hX hW hFsQ hFsL hFsRu hFsK
               clear hH hB
               first
                 | exact trivial
                 | exact rfl
                 | (simp [A0]; done)
                 | (intro q; exact q)
                 | (intro q; simpa [A0] using q)
                 | (intro _; trivial)
                 | (show Region.lexB _ _ = true; kernel_rfl)
                 | (show turnsB _ = true; kernel_rfl)
                 | assumption
                 | exact okqM
                 | exact hB0
                 | exact fun _ => hB0
                 | exact hws) ?_
          | ((with_reducible refine callB hX hB ?_); cbv; fail_if_success show False)
          | (refine pickL hX (t := true) (by rfl) rfl ?_; cbv)
          | (refine pickL hX (t := false) (by rfl) rfl ?_; cbv)
        have hyC : (Dk.mk n [⟨nmF, [], 0⟩] o true l).crash [] = ⟨n, [⟨nmF, [], 0⟩], false, false, 0⟩ := congrArg (fun z => Dk.mk n z false false 0) (crash_none [])
        have ok6 : okD 900 ⟨n, [⟨nmF, [], 0⟩], false, false, 0⟩ := okD_one (by omega) (by decide) (okF0 _ hB0) (by show (([] : List (List PD)).length : Int) ≤ n; simp; omega)
        have hy7 := app_yes (q := n) (L := [⟨nmF, [], 0⟩]) (nm := nmG) (p := []) (by decide +kernel) (by simp [totF]; omega)
        refine callL hX (FnD.nils (crash1 (e := 0) [] 0 1 [⟨nmF, [], 0⟩] rfl rfl (by decide) hcs hm hD9 (by simp) (by simp) hyC fun v6 n6 c6 hc6 hn6 => ?_) ⟨.inl rfl, .inr ⟨rfl, _, rfl⟩, trivial⟩)
        have rd6 : GFsL.rd c6 nmF = [] := by
          subst hFsL
          show readsX c6 nmF = _
          unfold readsX
          rw [hc6, rowF_cells]
          exact reads_same nmF [] 0
        cbv at rd6
        have hF6 := isF_of hc6 hn6 (ok6.okL (by decide))
        have hO6 := okD_of hc6 ok6
        cbv
        repeat first
          | (simp only [f1, f2, f2b, f2c, f2d, f2e, f2f, f3, f4, f5, f6, f7, f8, f9, f10, f13, f14, f15, f16, rd6, z1]; cbv)
          | refine And.intro (by
               subst hA hX hW hFsQ hFsL hFsRu hFsK
               clear hH hB
               first
                 | exact trivial
                 | exact rfl
                 | (simp [A0]; done)
                 | (intro q; exact q)
                 | (intro q; simpa [A0] using q)
                 | (intro _; trivial)
                 | (show Region.lexB _ _ = true; kernel_rfl)
                 | (show turnsB _ = true; kernel_rfl)
                 | assumption
                 | exact okqM) ?_
          | ((with_reducible refine callB hX hB ?_); cbv; fail_if_success show False)
          | (refine pickL hX (t := true) (by rfl) rfl ?_; cbv)
          | (refine pickL hX (t := false) (by rfl) rfl ?_; cbv)
        refine callL hX (FnD.nils (app1 nmG [] 0 1 [⟨nmF, [], 0⟩] rfl rfl (by decide) hc6 hn6 ok6 (by decide) hB0 hy7 fun v7 n7 c7 hc7 hn7 => ?_) ⟨.inl rfl, .inl rfl, .inr ⟨rfl, _, rfl⟩, trivial⟩)
        cbv
        repeat first
          | (simp only [f1, f2, f2b, f2c, f2d, f2e, f2f, f3, f4, f5, f6, f7, f8, f9, f10, f13, f14, f15, f16, rd6, z1]; cbv)
          | refine And.intro (by
               subst hA hX hW hFsQ hFsL hFsRu hFsK
               clear hH hB
               first
                 | exact trivial
                 | exact rfl
                 | (simp [A0]; done)
                 | (intro q; exact q)
                 | (intro q; simpa [A0] using q)
                 | (intro _; trivial)
                 | (show Region.lexB _ _ = true; kernel_rfl)
                 | (show turnsB _ = true; kernel_rfl)
                 | assumption
                 | exact okqM) ?_
          | ((with_reducible refine callB hX hB ?_); cbv; fail_if_success show False)
          | (refine pickL hX (t := true) (by rfl) rfl ?_; cbv)
          | (refine pickL hX (t := false) (by rfl) rfl ?_; cbv)
        subst hA hX hW hFsQ hFsL hFsRu hFsK
        exact ret_v rfl rfl
    · rintro p ⟨hp, hp1, hlt, hlt30⟩
      replace hlt : i < (xs.length : Int) := hlt
      replace hlt30 : i < 30 := hlt30
      have hpT : totF [⟨nmF, [], 0⟩] + p.length ≤ n := by
        rw [hn]
        simp only [totF, List.length_nil]
        omega
      with_reducible refine goL (T := fun _ => tabY [43] [14, 17, 18]) (H := fun _ => [kn_within3 GFsQ, kn_runs GFsRu, kn_same GFsQ]) (tabY_ok _ _) hH follows_mixed hA hX ?_
      cbv
      rcases Int.lt_trichotomy i k with hik | hik | hik
      · have r1 : A.cmp .lss i k = true := by subst hA; exact decide_eq_true hik
        have r2 : A.cmp .geq i k = false := by subst hA; exact decide_eq_false (by omega)
        cbv at r1 r2
        obtain rfl : o = false := by rw [ho]; exact decide_eq_false (by omega)
        obtain ⟨l2, hl2⟩ : ∃ l2, l2 = l - 1 := ⟨_, rfl⟩
        have hy := arm_yes (q := n) (l := l) (L := [⟨nmF, [], 0⟩]) (nm := nmF) (p := p) (by decide +kernel) hpT (by omega)
        rw [← hl2, show addF [⟨nmF, [], 0⟩] nmF p = [⟨nmF, p, 0⟩] from (add_same nmF [] p).trans rfl] at hy
        refine callL hX (app1 nmF p 0 1 [⟨nmF, [], 0⟩] rfl rfl (by decide) hcs hm hD9 (by decide) hp hy fun v9 n9 c9 hc9 hn9 => ?_)
        have hk9 : okL [⟨nmF, p, 0⟩] := ⟨by simp only [totF, List.length_append]; push_cast; omega, by simp⟩
        have hF9 := isF_of hc9 hn9 hk9
        cbv
        repeat first
          | (simp only [f1, f2, f2b, f2c, f2d, f2e, f2f, f3, f4, f5, f6, f7, f8, f9, f10, f13, f14, f15, f16, r1, r2]; cbv)
          | refine And.intro (by
               subst hA hX hW hFsQ hFsL hFsRu hFsK
               clear hH hB
               first
                 | exact trivial
                 | exact rfl
                 | (simp [A0]; done)
                 | (intro q; exact q)
                 | (intro q; simpa [A0] using q)
                 | (intro _; trivial)
                 | (show Region.lexB _ _ = true; kernel_rfl)
                 | (show turnsB _ = true; kernel_rfl)
                 | assumption
                 | exact okqM) ?_
          | ((with_reducible refine callB hX hB ?_); cbv; fail_if_success show False)
          | (refine pickL hX (t := true) (by rfl) rfl ?_; cbv)
          | (refine pickL hX (t := false) (by rfl) rfl ?_; cbv)
        refine stepTo (T := fun _ => tabY [43] []) (H := fun _ => [kn_within3 GFsQ, kn_runs GFsRu, kn_same GFsQ]) (tabY_ok _ _) hH follows_mixed hA hX [(1, .d (.slc 1 xs)), (5, .ref 0 0 0), (7, .d (.sc (.int .i64 k))), (8, .d (.sc (.slice none 0 0))), (9, .d (.sc (.int .i64 i))), (10, .d (.slc 1 p)), (74, .d (.sc (.bool false)))] [dB n (.view 3 1 v9 0 n9) false true l2, fB c9 v9] (fun R2 hR2 => ?_) ?_
        · show genG _ _ _ _ _ _ _ _ _ _
          repeat
            (refine genS (fun G hG => ?_)
             cbv
             repeat first
               | (simp only [f1, f2, f2b, f2c, f2d, f2e, f2f, f3, f4, f5, f6, f7, f8, f9, f10, f13, f14, f15, f16, r1, r2]; cbv)
               | refine And.intro (by
                    subst hA hX hW hFsQ hFsL hFsRu hFsK
                    clear hH hB
                    first
                      | exact trivial
                      | exact rfl
                      | (simp [A0]; done)
                      | (intro q; exact q)
                      | (intro q; simpa [A0] using q)
                      | (intro _; trivial)
                      | (show Region.lexB _ _ = true; kernel_rfl)
                      | (show turnsB _ = true; kernel_rfl)
                      | assumption
                      | exact okqM) ?_
               | ((with_reducible refine callB hX hB ?_); cbv; fail_if_success show False)
               | (refine pickL hX (t := true) (by rfl) rfl ?_; cbv)
               | (refine pickL hX (t := false) (by rfl) rfl ?_; cbv)
             subst hG)
          cbv
          clear hH hB hX
          subst hR2
          exact told_less (by simp [toldP, getS])
        refine thenN ?_
        refine condN (b := false) rfl ?_
        refine skipN ?_
        refine thenN ?_
        refine seqN ?_
        cbv
        repeat first
          | (simp only [f1, f2, f2b, f2c, f2d, f2e, f2f, f3, f4, f5, f6, f7, f8, f9, f10, f13, f14, f15, f16, r1, r2]; cbv)
          | refine And.intro (by
               subst hA hX hW hFsQ hFsL hFsRu hFsK
               clear hH hB
               first
                 | exact trivial
                 | exact rfl
                 | (simp [A0]; done)
                 | (intro q; exact q)
                 | (intro q; simpa [A0] using q)
                 | (intro _; trivial)
                 | (show Region.lexB _ _ = true; kernel_rfl)
                 | (show turnsB _ = true; kernel_rfl)
                 | assumption
                 | exact okqM) ?_
          | ((with_reducible refine callB hX hB ?_); cbv; fail_if_success show False)
          | (refine pickL hX (t := true) (by rfl) rfl ?_; cbv)
          | (refine pickL hX (t := false) (by rfl) rfl ?_; cbv)
        with_reducible refine goL (T := fun _ => tabY [43] [18]) (H := fun _ => [kn_within3 GFsQ, kn_runs GFsRu, kn_same GFsQ]) (tabY_ok _ _) hH follows_mixed hA hX ?_
        cbv
        refine appendNilL hX (tabY_ok [] []) (t := 27) (e := 5) (sz := 1) (by8 := 1) (z := [.d (.sc (.int .u8 0))]) (xs := p) rfl rfl rfl rfl (by decide) rfl rfl ⟨by omega, by omega⟩ (fun hp0 => ?_) (fun bs2 k2 hbs2 hk2 hne => ?_)
        · cbv
          repeat first
            | (simp only [f1, f2, f2b, f2c, f2d, f2e, f2f, f3, f4, f5, f6, f7, f8, f9, f10, f13, f14, f15, f16, r1, r2]; cbv)
            | refine And.intro (by
                 subst hA hX hW hFsQ hFsL hFsRu hFsK
                 clear hH hB
                 first
                   | exact trivial
                   | exact rfl
                   | (simp [A0]; done)
                   | (intro q; exact q)
                   | (intro q; simpa [A0] using q)
                   | (intro _; trivial)
                   | (show Region.lexB _ _ = true; kernel_rfl)
                   | (show turnsB _ = true; kernel_rfl)
                   | assumption
                   | exact okqM) ?_
            | ((with_reducible refine callB hX hB ?_); cbv; fail_if_success show False)
            | (refine pickL hX (t := true) (by rfl) rfl ?_; cbv)
            | (refine pickL hX (t := false) (by rfl) rfl ?_; cbv)
          subst hp0
          replace i0 : 0 ≤ i := i0
          replace hlt : i < (xs.length : Int) := hlt
          replace hlt30 : i < 30 := hlt30
          have wi : IntKind.wrap .i64 (i + 1) = i + 1 := wrap_i64 (by unfold r64; omega)
          subst hR
          refine ⟨(i + 1, false, l2, .b v9 n9 c9, []), ⟨by show 0 ≤ i + 1; omega, by show i + 1 ≤ (xs.length : Int); omega, by show i + 1 ≤ 30; omega, ?_, ?_, ⟨[], rfl, by simp⟩, (by show (0 : Int) ≤ 50 * (i + 1); omega), ⟨rfl, hc9, hn9⟩⟩, by show xs.length - (i + 1).toNat < xs.length - i.toNat; omega, ?_⟩
          · show _ = decide (k < i + 1)
            symm; exact decide_eq_false (by omega)
          · show l2 = max (k - (i + 1)) 0
            omega
          · subst hA
            exact told_less (by simp [toldP, getS, A0, wi, AX.d])
        · cbv
          repeat first
            | (simp only [f1, f2, f2b, f2c, f2d, f2e, f2f, f3, f4, f5, f6, f7, f8, f9, f10, f13, f14, f15, f16, r1, r2]; cbv)
            | refine And.intro (by
                 subst hA hX hW hFsQ hFsL hFsRu hFsK
                 clear hH hB
                 first
                   | exact trivial
                   | exact rfl
                   | (simp [A0]; done)
                   | (intro q; exact q)
                   | (intro q; simpa [A0] using q)
                   | (intro _; trivial)
                   | (show Region.lexB _ _ = true; kernel_rfl)
                   | (show turnsB _ = true; kernel_rfl)
                   | assumption
                   | exact okqM) ?_
            | ((with_reducible refine callB hX hB ?_); cbv; fail_if_success show False)
            | (refine pickL hX (t := true) (by rfl) rfl ?_; cbv)
            | (refine pickL hX (t := false) (by rfl) rfl ?_; cbv)
          replace i0 : 0 ≤ i := i0
          replace hlt : i < (xs.length : Int) := hlt
          replace hlt30 : i < 30 := hlt30
          have wi : IntKind.wrap .i64 (i + 1) = i + 1 := wrap_i64 (by unfold r64; omega)
          subst hR
          refine ⟨(i + 1, false, l2, .c v9 n9 c9 0 k2 bs2, p), ⟨by show 0 ≤ i + 1; omega, by show i + 1 ≤ (xs.length : Int); omega, by show i + 1 ≤ 30; omega, ?_, ?_, hp, (by show (p.length : Int) ≤ 50 * (i + 1); omega), ⟨hc9, hn9, hbs2, hk2⟩⟩, by show xs.length - (i + 1).toNat < xs.length - i.toNat; omega, ?_⟩
          · show _ = decide (k < i + 1)
            symm; exact decide_eq_false (by omega)
          · show l2 = max (k - (i + 1)) 0
            omega
          · subst hA
            exact told_less (by simp [toldP, getS, A0, wi, AX.d])
      · have r1 : A.cmp .lss i k = false := by subst hA; exact decide_eq_false (by omega)
        have r2 : A.cmp .geq i k = true := by subst hA; exact decide_eq_true (by omega)
        cbv at r1 r2
        obtain rfl : o = false := by rw [ho]; exact decide_eq_false (by omega)
        obtain rfl : l = 0 := by omega
        have hy := arm_now (q := n) (L := [⟨nmF, [], 0⟩]) (nm := nmF) (p := p) (by decide +kernel) hpT
        refine callL hX (app1 nmF p 0 1 [⟨nmF, [], 0⟩] rfl rfl (by decide) hcs hm hD9 (by decide) hp hy fun v9 n9 c9 hc9 hn9 => ?_)
        have hF9 := isF_of hc9 hn9 (hD9.okL (by decide))
        cbv
        repeat first
          | (simp only [f1, f2, f2b, f2c, f2d, f2e, f2f, f3, f4, f5, f6, f7, f8, f9, f10, f13, f14, f15, f16, r1, r2]; cbv)
          | refine And.intro (by
               subst hA hX hW hFsQ hFsL hFsRu hFsK
               clear hH hB
               first
                 | exact trivial
                 | exact rfl
                 | (simp [A0]; done)
                 | (intro q; exact q)
                 | (intro q; simpa [A0] using q)
                 | (intro _; trivial)
                 | (show Region.lexB _ _ = true; kernel_rfl)
                 | (show turnsB _ = true; kernel_rfl)
                 | assumption
                 | exact okqM) ?_
          | ((with_reducible refine callB hX hB ?_); cbv; fail_if_success show False)
          | (refine pickL hX (t := true) (by rfl) rfl ?_; cbv)
          | (refine pickL hX (t := false) (by rfl) rfl ?_; cbv)
        refine stepTo (T := fun _ => tabY [43] []) (H := fun _ => [kn_within3 GFsQ, kn_runs GFsRu, kn_same GFsQ]) (tabY_ok _ _) hH follows_mixed hA hX [(1, .d (.slc 1 xs)), (5, .ref 0 0 0), (7, .d (.sc (.int .i64 k))), (8, .d (.sc (.slice none 0 0))), (9, .d (.sc (.int .i64 i))), (10, .d (.slc 1 p)), (74, .d (.sc (.bool false)))] [dB n (.view 3 1 v9 0 n9) true true 0, fB c9 v9] (fun R2 hR2 => ?_) ?_
        · show genG _ _ _ _ _ _ _ _ _ _
          repeat
            (refine genS (fun G hG => ?_)
             cbv
             repeat first
               | (simp only [f1, f2, f2b, f2c, f2d, f2e, f2f, f3, f4, f5, f6, f7, f8, f9, f10, f13, f14, f15, f16, r1, r2]; cbv)
               | refine And.intro (by
                    subst hA hX hW hFsQ hFsL hFsRu hFsK
                    clear hH hB
                    first
                      | exact trivial
                      | exact rfl
                      | (simp [A0]; done)
                      | (intro q; exact q)
                      | (intro q; simpa [A0] using q)
                      | (intro _; trivial)
                      | (show Region.lexB _ _ = true; kernel_rfl)
                      | (show turnsB _ = true; kernel_rfl)
                      | assumption
                      | exact okqM) ?_
               | ((with_reducible refine callB hX hB ?_); cbv; fail_if_success show False)
               | (refine pickL hX (t := true) (by rfl) rfl ?_; cbv)
               | (refine pickL hX (t := false) (by rfl) rfl ?_; cbv)
             subst hG)
          cbv
          clear hH hB hX
          subst hR2
          exact told_less (by simp [toldP, getS])
        refine thenN ?_
        refine condN (b := false) rfl ?_
        refine skipN ?_
        refine thenN ?_
        refine seqN ?_
        cbv
        repeat first
          | (simp only [f1, f2, f2b, f2c, f2d, f2e, f2f, f3, f4, f5, f6, f7, f8, f9, f10, f13, f14, f15, f16, r1, r2]; cbv)
          | refine And.intro (by
               subst hA hX hW hFsQ hFsL hFsRu hFsK
               clear hH hB
               first
                 | exact trivial
                 | exact rfl
                 | (simp [A0]; done)
                 | (intro q; exact q)
                 | (intro q; simpa [A0] using q)
                 | (intro _; trivial)
                 | (show Region.lexB _ _ = true; kernel_rfl)
                 | (show turnsB _ = true; kernel_rfl)
                 | assumption
                 | exact okqM) ?_
          | ((with_reducible refine callB hX hB ?_); cbv; fail_if_success show False)
          | (refine pickL hX (t := true) (by rfl) rfl ?_; cbv)
          | (refine pickL hX (t := false) (by rfl) rfl ?_; cbv)
        replace i0 : 0 ≤ i := i0
        replace hlt : i < (xs.length : Int) := hlt
        replace hlt30 : i < 30 := hlt30
        have wi : IntKind.wrap .i64 (i + 1) = i + 1 := wrap_i64 (by unfold r64; omega)
        subst hR
        refine ⟨(i + 1, true, 0, .b v9 n9 c9, []), ⟨by show 0 ≤ i + 1; omega, by show i + 1 ≤ (xs.length : Int); omega, by show i + 1 ≤ 30; omega, ?_, ?_, ⟨[], rfl, by simp⟩, (by show (0 : Int) ≤ 50 * (i + 1); omega), ⟨rfl, hc9, hn9⟩⟩, by show xs.length - (i + 1).toNat < xs.length - i.toNat; omega, ?_⟩
        · show _ = decide (k < i + 1)
          symm; exact decide_eq_true (by omega)
        · show 0 = max (k - (i + 1)) 0
          omega
        · subst hA
          exact told_less (by simp [toldP, getS, A0, wi, AX.d])
      · have r1 : A.cmp .lss i k = false := by subst hA; exact decide_eq_false (by omega)
        have r2 : A.cmp .geq i k = true := by subst hA; exact decide_eq_true (by omega)
        cbv at r1 r2
        obtain rfl : o = true := by rw [ho]; exact decide_eq_true (by omega)
        have hy := arm_off (q := n) (l := l) (L := [⟨nmF, [], 0⟩]) (nm := nmF) (p := p) (a := true)
        refine callL hX (app1 nmF p 0 1 [⟨nmF, [], 0⟩] rfl rfl (by decide) hcs hm hD9 (by decide) hp hy fun v9 n9 c9 hc9 hn9 => ?_)
        have hF9 := isF_of hc9 hn9 (hD9.okL (by decide))
        cbv
        repeat first
          | (simp only [f1, f2, f2b, f2c, f2d, f2e, f2f, f3, f4, f5, f6, f7, f8, f9, f10, f13, f14, f15, f16, r1, r2]; cbv)
          | refine And.intro (by
               subst hA hX hW hFsQ hFsL hFsRu hFsK
               clear hH hB
               first
                 | exact trivial
                 | exact rfl
                 | (simp [A0]; done)
                 | (intro q; exact q)
                 | (intro q; simpa [A0] using q)
                 | (intro _; trivial)
                 | (show Region.lexB _ _ = true; kernel_rfl)
                 | (show turnsB _ = true; kernel_rfl)
                 | assumption
                 | exact okqM) ?_
          | ((with_reducible refine callB hX hB ?_); cbv; fail_if_success show False)
          | (refine pickL hX (t := true) (by rfl) rfl ?_; cbv)
          | (refine pickL hX (t := false) (by rfl) rfl ?_; cbv)
        refine stepTo (T := fun _ => tabY [43] []) (H := fun _ => [kn_within3 GFsQ, kn_runs GFsRu, kn_same GFsQ]) (tabY_ok _ _) hH follows_mixed hA hX [(1, .d (.slc 1 xs)), (5, .ref 0 0 0), (7, .d (.sc (.int .i64 k))), (8, .d (.sc (.slice none 0 0))), (9, .d (.sc (.int .i64 i))), (10, .d (.slc 1 p)), (74, .d (.sc (.bool false)))] [dB n (.view 3 1 v9 0 n9) true true l, fB c9 v9] (fun R2 hR2 => ?_) ?_
        · show genG _ _ _ _ _ _ _ _ _ _
          repeat
            (refine genS (fun G hG => ?_)
             cbv
             repeat first
               | (simp only [f1, f2, f2b, f2c, f2d, f2e, f2f, f3, f4, f5, f6, f7, f8, f9, f10, f13, f14, f15, f16, r1, r2]; cbv)
               | refine And.intro (by
                    subst hA hX hW hFsQ hFsL hFsRu hFsK
                    clear hH hB
                    first
                      | exact trivial
                      | exact rfl
                      | (simp [A0]; done)
                      | (intro q; exact q)
                      | (intro q; simpa [A0] using q)
                      | (intro _; trivial)
                      | (show Region.lexB _ _ = true; kernel_rfl)
                      | (show turnsB _ = true; kernel_rfl)
                      | assumption
                      | exact okqM) ?_
               | ((with_reducible refine callB hX hB ?_); cbv; fail_if_success show False)
               | (refine pickL hX (t := true) (by rfl) rfl ?_; cbv)
               | (refine pickL hX (t := false) (by rfl) rfl ?_; cbv)
             subst hG)
          cbv
          clear hH hB hX
          subst hR2
          exact told_less (by simp [toldP, getS])
        refine thenN ?_
        refine condN (b := false) rfl ?_
        refine skipN ?_
        refine thenN ?_
        refine seqN ?_
        cbv
        repeat first
          | (simp only [f1, f2, f2b, f2c, f2d, f2e, f2f, f3, f4, f5, f6, f7, f8, f9, f10, f13, f14, f15, f16, r1, r2]; cbv)
          | refine And.intro (by
               subst hA hX hW hFsQ hFsL hFsRu hFsK
               clear hH hB
               first
                 | exact trivial
                 | exact rfl
                 | (simp [A0]; done)
                 | (intro q; exact q)
                 | (intro q; simpa [A0] using q)
                 | (intro _; trivial)
                 | (show Region.lexB _ _ = true; kernel_rfl)
                 | (show turnsB _ = true; kernel_rfl)
                 | assumption
                 | exact okqM) ?_
          | ((with_reducible refine callB hX hB ?_); cbv; fail_if_success show False)
          | (refine pickL hX (t := true) (by rfl) rfl ?_; cbv)
          | (refine pickL hX (t := false) (by rfl) rfl ?_; cbv)
        replace i0 : 0 ≤ i := i0
        replace hlt : i < (xs.length : Int) := hlt
        replace hlt30 : i < 30 := hlt30
        have wi : IntKind.wrap .i64 (i + 1) = i + 1 := wrap_i64 (by unfold r64; omega)
        subst hR
        refine ⟨(i + 1, true, l, .b v9 n9 c9, []), ⟨by show 0 ≤ i + 1; omega, by show i + 1 ≤ (xs.length : Int); omega, by show i + 1 ≤ 30; omega, ?_, ?_, ⟨[], rfl, by simp⟩, (by show (0 : Int) ≤ 50 * (i + 1); omega), ⟨rfl, hc9, hn9⟩⟩, by show xs.length - (i + 1).toNat < xs.length - i.toNat; omega, ?_⟩
        · show _ = decide (k < i + 1)
          symm; exact decide_eq_true (by omega)
        · show l = max (k - (i + 1)) 0
          omega
        · subst hA
          exact told_less (by simp [toldP, getS, A0, wi, AX.d])

  · obtain ⟨hcs, hm, hbs, hck⟩ : cs = cellsF [⟨nmF, ws, 0⟩] ∧ m = 1 ∧ bs = rowsD ws ∧ ck = ws.length := hmd
    replace hD9 : okD 900 ⟨n, [⟨nmF, ws, 0⟩], o, true, l⟩ := hD9
    cbv
    apply cutL2 (X := X) (fun p : List (List PD) => isB p ∧ p.length ≤ 50 ∧ i < xs.length ∧ i < 30) (fun p => [(1, .d (.slc 1 xs)), (5, .ref 0 0 0), (7, .d (.sc (.int .i64 k))), (8, .view 1 2 w 0 ck), (9, .d (.sc (.int .i64 i))), (10, .d (.slc 1 p))]) (fun _ => [dB n (.view 3 1 v 0 m) o true l, fB cs v, ⟨5, bs, true, w, true⟩])
    rotate_left
    · intro key
      repeat' first
        | (refine part (fun h => ?_) (fun h => ?_) <;> try cbv)
        | (refine And.intro ?_ ?_)
      all_goals first
        | (intro q; exact q)
        | (intro _; trivial)
        | (subst hA; intro q; simpa [A0] using q)
        | (have h9 : A.cond (A.cmp .lss i (A.len xs)) (A.cmp .lss i 30) false = true := by assumption
           obtain ⟨hlt, hlt30⟩ : i < xs.length ∧ i < 30 := by
             subst hA
             simp only [A0, cond_eq_ite, decide_eq_true_eq, Bool.if_false_right, Bool.and_eq_true] at h9
             exact h9
           obtain ⟨p, hp0, hpb⟩ := hrow i i0 hlt
           have e : A.gl (A.lift (A.row xs i)) 0 = p := by subst hA; simp only [A0, hp0]; rfl
           first
             | (subst hA; exact ⟨i0, hlt⟩)
             | (subst hA; simp only [A0, hp0]; exact ⟨rfl, Nat.le_refl _, rfl⟩)
             | (have h8 : A.cmp .gtr (A.len (A.gl (A.lift (A.row xs i)) 0)) 50 = true := by assumption
                replace h8 : (50 : Int) < p.length := by
                  rw [e] at h8
                  subst hA
                  simp only [A0, decide_eq_true_eq] at h8
                  exact h8
                first
                  | (show A.bnd 0 50 (A.len (A.gl (A.lift (A.row xs i)) 0)); rw [e]; subst hA; exact (⟨by decide, by decide, by omega⟩ : (0 : Int) ≤ (0 : Int) ∧ (0 : Int) ≤ (50 : Int) ∧ (50 : Int) ≤ (p.length : Int)))
                  | (refine pauseL hX (s' := _) (st' := _) ?_ (key (p.take 50) ⟨isB.take hpb _, by simp only [List.length_take]; omega, hlt, hlt30⟩)
                     subst hA
                     exact told_less (by simp [toldP, getS, e]; simp [A0])))
             | (have h8 : A.cmp .gtr (A.len (A.gl (A.lift (A.row xs i)) 0)) 50 = false := by assumption
                replace h8 : ¬ (50 : Int) < p.length := by
                  rw [e] at h8
                  subst hA
                  simp only [A0, decide_eq_false_iff_not] at h8
                  exact h8
                refine pauseL hX (s' := _) (st' := _) ?_ (key p ⟨hpb, by omega, hlt, hlt30⟩)
                exact told_less (by simp [toldP, getS, e])))
        | skip
      all_goals
        refine pauseL hX (s' := [(5, .ref 0 0 0), (8, .view 1 2 w 0 ck)]) (st' := [dB n (.view 3 1 v 0 m) o true l, fB cs v, ⟨5, bs, true, w, true⟩]) (told_up ⟨.inl (.inl rfl), .inl (.inl rfl), trivial⟩) ?_
        have rd1 : GFsL.rd cs nmF = ws := by
          subst hFsL
          show readsX cs nmF = _
          unfold readsX
          rw [hcs, rowF_cells]
          exact reads_same nmF ws 0
        have rs : GFsQ.same ws ws = true := by subst hFsQ; exact (sameB_eq _ _).2 rfl
        have z1 : A.len [] = 0 := by subst hA; rfl
        have hB0 : isB [] := ⟨[], rfl, by simp⟩
        have hF9 := isF_of hcs hm (hD9.okL (by decide))
        have hO9 := okD_of hcs hD9
        cbv at rd1 rs z1
        with_reducible refine goL (T := fun _ => tabY [43] []) (H := fun _ => [kn_within3 GFsQ, kn_runs GFsRu, kn_same GFsQ]) (tabY_ok _ _) hH follows_mixed hA hX ?_
        cbv
        repeat first
          | (simp only [f1, f2, f2b, f2c, f2d, f2e, f2f, f3, f4, f5, f6, f7, f8, f9, f10, f13, f14, f15, f16, rd1, rs, z1]; cbv)
          | refine And.intro (by
               subst hA hX hW hFsQ hFsL hFsRu hFsK
               clear hH hB
               first
                 | exact trivial
                 | exact rfl
                 | (simp [A0]; done)
                 | (intro q; exact q)
                 | (intro q; simpa [A0] using q)
                 | (intro _; trivial)
                 | (show Region.lexB _ _ = true; kernel_rfl)
                 | (show turnsB _ = true; kernel_rfl)
                 | assumption
                 | exact okqM
                 | exact hB0
                 | exact fun _ => hB0
                 | exact hws) ?_
          | ((with_reducible refine callB hX hB ?_); cbv; fail_if_success show False)
          | (refine pickL hX (t := true) (by rfl) rfl ?_; cbv)
          | (refine pickL hX (t := false) (by rfl) rfl ?_; cbv)
        subst hck
        have hsz1 : ∀ x ∈ ws, x.length = 1 := by
          obtain ⟨b1, hb1, _⟩ := hws
          rw [hb1]
          exact bytesP_sz b1
        have hfz : fzL 2 w 1 ws cs = cs := by rw [fzF hcs, hcs]
        have hst : fzSt 2 1 ws [dB n (.view 3 1 v 0 m) o true l, fB cs v, ⟨5, bs, true, w, true⟩] = [dB n (.view 3 1 v 0 m) o true l, fB cs v, ⟨5, [], false, w + 1, false⟩] := by
          show [dB n (.view 3 1 v 0 m) o true l, fB (fzL 2 w 1 ws cs) v, ⟨5, [], false, w + 1, false⟩] = _
          rw [hfz]
        refine callL hX (FnV.fz 2 1 ws _ rfl rfl hbs hsz1 (v_same ws ws hws hws) (by simp [fzD]) rfl ?_)
        rw [show sameB ws ws = true from (sameB_eq _ _).2 rfl]
        replace hst : fzSt 2 1 ws _ = _ := hst
        rw [hst]
        cbv
        repeat first
          | (simp only [f1, f2, f2b, f2c, f2d, f2e, f2f, f3, f4, f5, f6, f7, f8, f9, f10, f13, f14, f15, f16, rd1, rs, z1]; cbv)
          | refine And.intro (by
               subst hA hX hW hFsQ hFsL hFsRu hFsK
               clear hH hB
               first
                 | exact trivial
                 | exact rfl
                 | (simp [A0]; done)
                 | (intro q; exact q)
                 | (intro q; simpa [A0] using q)
                 | (intro _; trivial)
                 | (show Region.lexB _ _ = true; kernel_rfl)
                 | (show turnsB _ = true; kernel_rfl)
                 | assumption
                 | exact okqM) ?_
          | ((with_reducible refine callB hX hB ?_); cbv; fail_if_success show False)
          | (refine pickL hX (t := true) (by rfl) rfl ?_; cbv)
          | (refine pickL hX (t := false) (by rfl) rfl ?_; cbv)
        have hyC : (Dk.mk n [⟨nmF, ws, 0⟩] o true l).crash [] = ⟨n, [⟨nmF, [], 0⟩], false, false, 0⟩ := congrArg (fun z => Dk.mk n z false false 0) (crash_none ws)
        have ok6 : okD 900 ⟨n, [⟨nmF, [], 0⟩], false, false, 0⟩ := okD_one (by omega) (by decide) (okF0 _ hB0) (by show (([] : List (List PD)).length : Int) ≤ n; simp; omega)
        have hy7 := app_yes (q := n) (L := [⟨nmF, [], 0⟩]) (nm := nmG) (p := []) (by decide +kernel) (by simp [totF]; omega)
        refine callL hX (FnD.nils (crash1 (e := 0) [] 0 1 [⟨nmF, ws, 0⟩] rfl rfl (by decide) hcs hm hD9 (by simp) (by simp) hyC fun v6 n6 c6 hc6 hn6 => ?_) ⟨.inl rfl, .inr ⟨rfl, _, rfl⟩, trivial⟩)
        have rd6 : GFsL.rd c6 nmF = [] := by
          subst hFsL
          show readsX c6 nmF = _
          unfold readsX
          rw [hc6, rowF_cells]
          exact reads_same nmF [] 0
        cbv at rd6
        have hF6 := isF_of hc6 hn6 (ok6.okL (by decide))
        have hO6 := okD_of hc6 ok6
        cbv
        repeat first
          | (simp only [f1, f2, f2b, f2c, f2d, f2e, f2f, f3, f4, f5, f6, f7, f8, f9, f10, f13, f14, f15, f16, rd6, z1]; cbv)
          | refine And.intro (by
               subst hA hX hW hFsQ hFsL hFsRu hFsK
               clear hH hB
               first
                 | exact trivial
                 | exact rfl
                 | (simp [A0]; done)
                 | (intro q; exact q)
                 | (intro q; simpa [A0] using q)
                 | (intro _; trivial)
                 | (show Region.lexB _ _ = true; kernel_rfl)
                 | (show turnsB _ = true; kernel_rfl)
                 | assumption
                 | exact okqM) ?_
          | ((with_reducible refine callB hX hB ?_); cbv; fail_if_success show False)
          | (refine pickL hX (t := true) (by rfl) rfl ?_; cbv)
          | (refine pickL hX (t := false) (by rfl) rfl ?_; cbv)
        refine callL hX (FnD.nils (app1 nmG [] 0 1 [⟨nmF, [], 0⟩] rfl rfl (by decide) hc6 hn6 ok6 (by decide) hB0 hy7 fun v7 n7 c7 hc7 hn7 => ?_) ⟨.inl rfl, .inl rfl, .inr ⟨rfl, _, rfl⟩, trivial⟩)
        cbv
        repeat first
          | (simp only [f1, f2, f2b, f2c, f2d, f2e, f2f, f3, f4, f5, f6, f7, f8, f9, f10, f13, f14, f15, f16, rd6, z1]; cbv)
          | refine And.intro (by
               subst hA hX hW hFsQ hFsL hFsRu hFsK
               clear hH hB
               first
                 | exact trivial
                 | exact rfl
                 | (simp [A0]; done)
                 | (intro q; exact q)
                 | (intro q; simpa [A0] using q)
                 | (intro _; trivial)
                 | (show Region.lexB _ _ = true; kernel_rfl)
                 | (show turnsB _ = true; kernel_rfl)
                 | assumption
                 | exact okqM) ?_
          | ((with_reducible refine callB hX hB ?_); cbv; fail_if_success show False)
          | (refine pickL hX (t := true) (by rfl) rfl ?_; cbv)
          | (refine pickL hX (t := false) (by rfl) rfl ?_; cbv)
        subst hA hX hW hFsQ hFsL hFsRu hFsK
        exact ret_v rfl rfl
    · rintro p ⟨hp, hp1, hlt, hlt30⟩
      replace hlt : i < (xs.length : Int) := hlt
      replace hlt30 : i < 30 := hlt30
      replace hwl : (ws.length : Int) ≤ 50 * i := hwl
      replace hwN : ws.length ≤ 1500 := hwN
      have hpT : totF [⟨nmF, ws, 0⟩] + p.length ≤ n := by
        rw [hn]
        simp only [totF]
        omega
      with_reducible refine goL (T := fun _ => tabY [43] [14, 17, 18]) (H := fun _ => [kn_within3 GFsQ, kn_runs GFsRu, kn_same GFsQ]) (tabY_ok _ _) hH follows_mixed hA hX ?_
      cbv
      rcases Int.lt_trichotomy i k with hik | hik | hik
      · have r1 : A.cmp .lss i k = true := by subst hA; exact decide_eq_true hik
        have r2 : A.cmp .geq i k = false := by subst hA; exact decide_eq_false (by omega)
        cbv at r1 r2
        obtain rfl : o = false := by rw [ho]; exact decide_eq_false (by omega)
        obtain ⟨l2, hl2⟩ : ∃ l2, l2 = l - 1 := ⟨_, rfl⟩
        have hy := arm_yes (q := n) (l := l) (L := [⟨nmF, ws, 0⟩]) (nm := nmF) (p := p) (by decide +kernel) hpT (by omega)
        rw [← hl2, show addF [⟨nmF, ws, 0⟩] nmF p = [⟨nmF, ws ++ p, 0⟩] from add_same nmF ws p] at hy
        refine callL hX (app1 nmF p 0 1 [⟨nmF, ws, 0⟩] rfl rfl (by decide) hcs hm hD9 (by decide) hp hy fun v9 n9 c9 hc9 hn9 => ?_)
        have hk9 : okL [⟨nmF, ws ++ p, 0⟩] := ⟨by simp only [totF, List.length_append]; push_cast; omega, by simp⟩
        have hF9 := isF_of hc9 hn9 hk9
        cbv
        repeat first
          | (simp only [f1, f2, f2b, f2c, f2d, f2e, f2f, f3, f4, f5, f6, f7, f8, f9, f10, f13, f14, f15, f16, r1, r2]; cbv)
          | refine And.intro (by
               subst hA hX hW hFsQ hFsL hFsRu hFsK
               clear hH hB
               first
                 | exact trivial
                 | exact rfl
                 | (simp [A0]; done)
                 | (intro q; exact q)
                 | (intro q; simpa [A0] using q)
                 | (intro _; trivial)
                 | (show Region.lexB _ _ = true; kernel_rfl)
                 | (show turnsB _ = true; kernel_rfl)
                 | assumption
                 | exact okqM) ?_
          | ((with_reducible refine callB hX hB ?_); cbv; fail_if_success show False)
          | (refine pickL hX (t := true) (by rfl) rfl ?_; cbv)
          | (refine pickL hX (t := false) (by rfl) rfl ?_; cbv)
        refine stepTo (T := fun _ => tabY [43] []) (H := fun _ => [kn_within3 GFsQ, kn_runs GFsRu, kn_same GFsQ]) (tabY_ok _ _) hH follows_mixed hA hX [(1, .d (.slc 1 xs)), (5, .ref 0 0 0), (7, .d (.sc (.int .i64 k))), (8, .view 1 2 w 0 ck), (9, .d (.sc (.int .i64 i))), (10, .d (.slc 1 p)), (74, .d (.sc (.bool false)))] [dB n (.view 3 1 v9 0 n9) false true l2, fB c9 v9, ⟨5, bs, true, w, true⟩] (fun R2 hR2 => ?_) ?_
        · show genG _ _ _ _ _ _ _ _ _ _
          repeat
            (refine genS (fun G hG => ?_)
             cbv
             repeat first
               | (simp only [f1, f2, f2b, f2c, f2d, f2e, f2f, f3, f4, f5, f6, f7, f8, f9, f10, f13, f14, f15, f16, r1, r2]; cbv)
               | refine And.intro (by
                    subst hA hX hW hFsQ hFsL hFsRu hFsK
                    clear hH hB
                    first
                      | exact trivial
                      | exact rfl
                      | (simp [A0]; done)
                      | (intro q; exact q)
                      | (intro q; simpa [A0] using q)
                      | (intro _; trivial)
                      | (show Region.lexB _ _ = true; kernel_rfl)
                      | (show turnsB _ = true; kernel_rfl)
                      | assumption
                      | exact okqM) ?_
               | ((with_reducible refine callB hX hB ?_); cbv; fail_if_success show False)
               | (refine pickL hX (t := true) (by rfl) rfl ?_; cbv)
               | (refine pickL hX (t := false) (by rfl) rfl ?_; cbv)
             subst hG)
          cbv
          clear hH hB hX
          subst hR2
          exact told_less (by simp [toldP, getS])
        refine thenN ?_
        refine condN (b := false) rfl ?_
        refine skipN ?_
        refine thenN ?_
        refine seqN ?_
        cbv
        repeat first
          | (simp only [f1, f2, f2b, f2c, f2d, f2e, f2f, f3, f4, f5, f6, f7, f8, f9, f10, f13, f14, f15, f16, r1, r2]; cbv)
          | refine And.intro (by
               subst hA hX hW hFsQ hFsL hFsRu hFsK
               clear hH hB
               first
                 | exact trivial
                 | exact rfl
                 | (simp [A0]; done)
                 | (intro q; exact q)
                 | (intro q; simpa [A0] using q)
                 | (intro _; trivial)
                 | (show Region.lexB _ _ = true; kernel_rfl)
                 | (show turnsB _ = true; kernel_rfl)
                 | assumption
                 | exact okqM) ?_
          | ((with_reducible refine callB hX hB ?_); cbv; fail_if_success show False)
          | (refine pickL hX (t := true) (by rfl) rfl ?_; cbv)
          | (refine pickL hX (t := false) (by rfl) rfl ?_; cbv)
        with_reducible refine goL (T := fun _ => tabY [43] [18]) (H := fun _ => [kn_within3 GFsQ, kn_runs GFsRu, kn_same GFsQ]) (tabY_ok _ _) hH follows_mixed hA hX ?_
        cbv
        repeat first
          | (simp only [f1, f2, f2b, f2c, f2d, f2e, f2f, f3, f4, f5, f6, f7, f8, f9, f10, f13, f14, f15, f16, r1, r2]; cbv)
          | refine And.intro (by
               subst hA hX hW hFsQ hFsL hFsRu hFsK
               clear hH hB
               first
                 | exact trivial
                 | exact rfl
                 | (simp [A0]; done)
                 | (intro q; exact q)
                 | (intro q; simpa [A0] using q)
                 | (intro _; trivial)
                 | (show Region.lexB _ _ = true; kernel_rfl)
                 | (show turnsB _ = true; kernel_rfl)
                 | assumption
                 | exact okqM) ?_
          | ((with_reducible refine callB hX hB ?_); cbv; fail_if_success show False)
          | (refine pickL hX (t := true) (by rfl) rfl ?_; cbv)
          | (refine pickL hX (t := false) (by rfl) rfl ?_; cbv)
        repeat (refine And.intro (by
           first
             | (subst hA; exact rfl)
             | (subst hA; simp only [A0]; omega)
             | (subst hA; simp only [A0]; decide)
             | (subst hA; obtain ⟨b1, hb1, hbl1⟩ := hws; obtain ⟨b2, hb2, hbl2⟩ := hp; rw [hbs, hb1, hck, hb1]; simp [A0, rowsB_length, bytesP_length]; done)) ?_)
        repeat first
          | (simp only [f1, f2, f2b, f2c, f2d, f2e, f2f, f3, f4, f5, f6, f7, f8, f9, f10, f13, f14, f15, f16, r1, r2]; cbv)
          | refine And.intro (by
               subst hA hX hW hFsQ hFsL hFsRu hFsK
               clear hH hB
               first
                 | exact trivial
                 | exact rfl
                 | (simp [A0]; done)
                 | (intro q; exact q)
                 | (intro q; simpa [A0] using q)
                 | (intro _; trivial)
                 | (show Region.lexB _ _ = true; kernel_rfl)
                 | (show turnsB _ = true; kernel_rfl)
                 | assumption
                 | exact okqM) ?_
          | ((with_reducible refine callB hX hB ?_); cbv; fail_if_success show False)
          | (refine pickL hX (t := true) (by rfl) rfl ?_; cbv)
          | (refine pickL hX (t := false) (by rfl) rfl ?_; cbv)
        replace i0 : 0 ≤ i := i0
        replace hlt : i < (xs.length : Int) := hlt
        replace hlt30 : i < 30 := hlt30
        have wi : IntKind.wrap .i64 (i + 1) = i + 1 := wrap_i64 (by unfold r64; omega)
        subst hR
        refine ⟨(i + 1, false, l2, .c v9 n9 c9 (w + 1) (ck + p.length) (bs ++ rowsD p), ws ++ p), ⟨by show 0 ≤ i + 1; omega, by show i + 1 ≤ (xs.length : Int); omega, by show i + 1 ≤ 30; omega, ?_, ?_, hws.app hp (by omega), (by replace hwl : (ws.length : Int) ≤ 50 * i := hwl; show ((ws ++ p).length : Int) ≤ 50 * (i + 1); rw [List.length_append]; push_cast; omega), ⟨hc9, hn9, (by show _ = rowsD (ws ++ p); rw [hbs, rowsD_append]), (by rw [List.length_append, hck])⟩⟩, by show xs.length - (i + 1).toNat < xs.length - i.toNat; omega, ?_⟩
        · show _ = decide (k < i + 1)
          symm; exact decide_eq_false (by omega)
        · show l2 = max (k - (i + 1)) 0
          omega
        · subst hA
          exact told_less (by simp [toldP, getS, A0, wi, AX.d])
      · have r1 : A.cmp .lss i k = false := by subst hA; exact decide_eq_false (by omega)
        have r2 : A.cmp .geq i k = true := by subst hA; exact decide_eq_true (by omega)
        cbv at r1 r2
        obtain rfl : o = false := by rw [ho]; exact decide_eq_false (by omega)
        obtain rfl : l = 0 := by omega
        have hy := arm_now (q := n) (L := [⟨nmF, ws, 0⟩]) (nm := nmF) (p := p) (by decide +kernel) hpT
        refine callL hX (app1 nmF p 0 1 [⟨nmF, ws, 0⟩] rfl rfl (by decide) hcs hm hD9 (by decide) hp hy fun v9 n9 c9 hc9 hn9 => ?_)
        have hF9 := isF_of hc9 hn9 (hD9.okL (by decide))
        cbv
        repeat first
          | (simp only [f1, f2, f2b, f2c, f2d, f2e, f2f, f3, f4, f5, f6, f7, f8, f9, f10, f13, f14, f15, f16, r1, r2]; cbv)
          | refine And.intro (by
               subst hA hX hW hFsQ hFsL hFsRu hFsK
               clear hH hB
               first
                 | exact trivial
                 | exact rfl
                 | (simp [A0]; done)
                 | (intro q; exact q)
                 | (intro q; simpa [A0] using q)
                 | (intro _; trivial)
                 | (show Region.lexB _ _ = true; kernel_rfl)
                 | (show turnsB _ = true; kernel_rfl)
                 | assumption
                 | exact okqM) ?_
          | ((with_reducible refine callB hX hB ?_); cbv; fail_if_success show False)
          | (refine pickL hX (t := true) (by rfl) rfl ?_; cbv)
          | (refine pickL hX (t := false) (by rfl) rfl ?_; cbv)
        refine stepTo (T := fun _ => tabY [43] []) (H := fun _ => [kn_within3 GFsQ, kn_runs GFsRu, kn_same GFsQ]) (tabY_ok _ _) hH follows_mixed hA hX [(1, .d (.slc 1 xs)), (5, .ref 0 0 0), (7, .d (.sc (.int .i64 k))), (8, .view 1 2 w 0 ck), (9, .d (.sc (.int .i64 i))), (10, .d (.slc 1 p)), (74, .d (.sc (.bool false)))] [dB n (.view 3 1 v9 0 n9) true true 0, fB c9 v9, ⟨5, bs, true, w, true⟩] (fun R2 hR2 => ?_) ?_
        · show genG _ _ _ _ _ _ _ _ _ _
          repeat
            (refine genS (fun G hG => ?_)
             cbv
             repeat first
               | (simp only [f1, f2, f2b, f2c, f2d, f2e, f2f, f3, f4, f5, f6, f7, f8, f9, f10, f13, f14, f15, f16, r1, r2]; cbv)
               | refine And.intro (by
                    subst hA hX hW hFsQ hFsL hFsRu hFsK
                    clear hH hB
                    first
                      | exact trivial
                      | exact rfl
                      | (simp [A0]; done)
                      | (intro q; exact q)
                      | (intro q; simpa [A0] using q)
                      | (intro _; trivial)
                      | (show Region.lexB _ _ = true; kernel_rfl)
                      | (show turnsB _ = true; kernel_rfl)
                      | assumption
                      | exact okqM) ?_
               | ((with_reducible refine callB hX hB ?_); cbv; fail_if_success show False)
               | (refine pickL hX (t := true) (by rfl) rfl ?_; cbv)
               | (refine pickL hX (t := false) (by rfl) rfl ?_; cbv)
             subst hG)
          cbv
          clear hH hB hX
          subst hR2
          exact told_less (by simp [toldP, getS])
        refine thenN ?_
        refine condN (b := false) rfl ?_
        refine skipN ?_
        refine thenN ?_
        refine seqN ?_
        cbv
        repeat first
          | (simp only [f1, f2, f2b, f2c, f2d, f2e, f2f, f3, f4, f5, f6, f7, f8, f9, f10, f13, f14, f15, f16, r1, r2]; cbv)
          | refine And.intro (by
               subst hA hX hW hFsQ hFsL hFsRu hFsK
               clear hH hB
               first
                 | exact trivial
                 | exact rfl
                 | (simp [A0]; done)
                 | (intro q; exact q)
                 | (intro q; simpa [A0] using q)
                 | (intro _; trivial)
                 | (show Region.lexB _ _ = true; kernel_rfl)
                 | (show turnsB _ = true; kernel_rfl)
                 | assumption
                 | exact okqM) ?_
          | ((with_reducible refine callB hX hB ?_); cbv; fail_if_success show False)
          | (refine pickL hX (t := true) (by rfl) rfl ?_; cbv)
          | (refine pickL hX (t := false) (by rfl) rfl ?_; cbv)
        replace i0 : 0 ≤ i := i0
        replace hlt : i < (xs.length : Int) := hlt
        replace hlt30 : i < 30 := hlt30
        have wi : IntKind.wrap .i64 (i + 1) = i + 1 := wrap_i64 (by unfold r64; omega)
        subst hR
        refine ⟨(i + 1, true, 0, .c v9 n9 c9 w ck bs, ws), ⟨by show 0 ≤ i + 1; omega, by show i + 1 ≤ (xs.length : Int); omega, by show i + 1 ≤ 30; omega, ?_, ?_, hws, (by replace hwl : (ws.length : Int) ≤ 50 * i := hwl; show (ws.length : Int) ≤ 50 * (i + 1); omega), ⟨hc9, hn9, hbs, hck⟩⟩, by show xs.length - (i + 1).toNat < xs.length - i.toNat; omega, ?_⟩
        · show _ = decide (k < i + 1)
          symm; exact decide_eq_true (by omega)
        · show 0 = max (k - (i + 1)) 0
          omega
        · subst hA
          exact told_less (by simp [toldP, getS, A0, wi, AX.d])
      · have r1 : A.cmp .lss i k = false := by subst hA; exact decide_eq_false (by omega)
        have r2 : A.cmp .geq i k = true := by subst hA; exact decide_eq_true (by omega)
        cbv at r1 r2
        obtain rfl : o = true := by rw [ho]; exact decide_eq_true (by omega)
        have hy := arm_off (q := n) (l := l) (L := [⟨nmF, ws, 0⟩]) (nm := nmF) (p := p) (a := true)
        refine callL hX (app1 nmF p 0 1 [⟨nmF, ws, 0⟩] rfl rfl (by decide) hcs hm hD9 (by decide) hp hy fun v9 n9 c9 hc9 hn9 => ?_)
        have hF9 := isF_of hc9 hn9 (hD9.okL (by decide))
        cbv
        repeat first
          | (simp only [f1, f2, f2b, f2c, f2d, f2e, f2f, f3, f4, f5, f6, f7, f8, f9, f10, f13, f14, f15, f16, r1, r2]; cbv)
          | refine And.intro (by
               subst hA hX hW hFsQ hFsL hFsRu hFsK
               clear hH hB
               first
                 | exact trivial
                 | exact rfl
                 | (simp [A0]; done)
                 | (intro q; exact q)
                 | (intro q; simpa [A0] using q)
                 | (intro _; trivial)
                 | (show Region.lexB _ _ = true; kernel_rfl)
                 | (show turnsB _ = true; kernel_rfl)
                 | assumption
                 | exact okqM) ?_
          | ((with_reducible refine callB hX hB ?_); cbv; fail_if_success show False)
          | (refine pickL hX (t := true) (by rfl) rfl ?_; cbv)
          | (refine pickL hX (t := false) (by rfl) rfl ?_; cbv)
        refine stepTo (T := fun _ => tabY [43] []) (H := fun _ => [kn_within3 GFsQ, kn_runs GFsRu, kn_same GFsQ]) (tabY_ok _ _) hH follows_mixed hA hX [(1, .d (.slc 1 xs)), (5, .ref 0 0 0), (7, .d (.sc (.int .i64 k))), (8, .view 1 2 w 0 ck), (9, .d (.sc (.int .i64 i))), (10, .d (.slc 1 p)), (74, .d (.sc (.bool false)))] [dB n (.view 3 1 v9 0 n9) true true l, fB c9 v9, ⟨5, bs, true, w, true⟩] (fun R2 hR2 => ?_) ?_
        · show genG _ _ _ _ _ _ _ _ _ _
          repeat
            (refine genS (fun G hG => ?_)
             cbv
             repeat first
               | (simp only [f1, f2, f2b, f2c, f2d, f2e, f2f, f3, f4, f5, f6, f7, f8, f9, f10, f13, f14, f15, f16, r1, r2]; cbv)
               | refine And.intro (by
                    subst hA hX hW hFsQ hFsL hFsRu hFsK
                    clear hH hB
                    first
                      | exact trivial
                      | exact rfl
                      | (simp [A0]; done)
                      | (intro q; exact q)
                      | (intro q; simpa [A0] using q)
                      | (intro _; trivial)
                      | (show Region.lexB _ _ = true; kernel_rfl)
                      | (show turnsB _ = true; kernel_rfl)
                      | assumption
                      | exact okqM) ?_
               | ((with_reducible refine callB hX hB ?_); cbv; fail_if_success show False)
               | (refine pickL hX (t := true) (by rfl) rfl ?_; cbv)
               | (refine pickL hX (t := false) (by rfl) rfl ?_; cbv)
             subst hG)
          cbv
          clear hH hB hX
          subst hR2
          exact told_less (by simp [toldP, getS])
        refine thenN ?_
        refine condN (b := false) rfl ?_
        refine skipN ?_
        refine thenN ?_
        refine seqN ?_
        cbv
        repeat first
          | (simp only [f1, f2, f2b, f2c, f2d, f2e, f2f, f3, f4, f5, f6, f7, f8, f9, f10, f13, f14, f15, f16, r1, r2]; cbv)
          | refine And.intro (by
               subst hA hX hW hFsQ hFsL hFsRu hFsK
               clear hH hB
               first
                 | exact trivial
                 | exact rfl
                 | (simp [A0]; done)
                 | (intro q; exact q)
                 | (intro q; simpa [A0] using q)
                 | (intro _; trivial)
                 | (show Region.lexB _ _ = true; kernel_rfl)
                 | (show turnsB _ = true; kernel_rfl)
                 | assumption
                 | exact okqM) ?_
          | ((with_reducible refine callB hX hB ?_); cbv; fail_if_success show False)
          | (refine pickL hX (t := true) (by rfl) rfl ?_; cbv)
          | (refine pickL hX (t := false) (by rfl) rfl ?_; cbv)
        replace i0 : 0 ≤ i := i0
        replace hlt : i < (xs.length : Int) := hlt
        replace hlt30 : i < 30 := hlt30
        have wi : IntKind.wrap .i64 (i + 1) = i + 1 := wrap_i64 (by unfold r64; omega)
        subst hR
        refine ⟨(i + 1, true, l, .c v9 n9 c9 w ck bs, ws), ⟨by show 0 ≤ i + 1; omega, by show i + 1 ≤ (xs.length : Int); omega, by show i + 1 ≤ 30; omega, ?_, ?_, hws, (by replace hwl : (ws.length : Int) ≤ 50 * i := hwl; show (ws.length : Int) ≤ 50 * (i + 1); omega), ⟨hc9, hn9, hbs, hck⟩⟩, by show xs.length - (i + 1).toNat < xs.length - i.toNat; omega, ?_⟩
        · show _ = decide (k < i + 1)
          symm; exact decide_eq_true (by omega)
        · show l = max (k - (i + 1)) 0
          omega
        · subst hA
          exact told_less (by simp [toldP, getS, A0, wi, AX.d])



theorem v_arms (q : Int) (xs : List (List PD)) (hq : r64 q) (h : isParts xs) : FnV Try.prog 4 [.d (.sc (.int .i64 q)), .d (.slc 1 xs)] (boolD true) := by
  obtain ⟨ps, rfl, h1, h2⟩ := h
  exact v_armsL q ps hq h1 h2

end Go.Proofs.Ytmjmbfcfnhnpmaa
