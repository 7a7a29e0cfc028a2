/- Chapter 8's names: the law's walk. No condition. -/
import Derived.Test.YtmjmbfcfnhnpmaaDkW
namespace Go.Proofs.Ytmjmbfcfnhnpmaa
open Go.RowKit
set_option linter.all false
set_option maxHeartbeats 4000000
/-- A function as a value, told as a closure that captured nothing. -/
theorem told_fn {k : Nat} {s s' : SL} {st : Store} (i : Nat) (f : FuncId) (h : getS s i = .d (.sc (.func (.func f) #[] #[]))) (h2 : toldP id (setS s i (.fn f [])) s') : Told k s st s' st := by
  refine Tells.trans (s' := getS (setS s i (.fn f []))) ?_ (told_less h2)
  intro E N a hc hst hs
  refine ⟨E, rfl, hst, hc, ⟨hs.size, fun j => ?_, hs.defers⟩, fun _ _ _ h => h⟩
  rw [getS_setS]
  split
  · rename_i e
    subst e
    have := hs.rep j
    rw [h] at this
    exact ⟨[], this, trivial⟩
  · exact hs.rep j

theorem okqM : (FsL0.okq 1048576) := ⟨by decide, by decide⟩
theorem ok_n0 : okD 900 ⟨1048576, [], false, false, 0⟩ := okD_nil (by decide) (by decide)
theorem ok_n1 {f : FileM} (h : okFile f) (ht : f.data.length ≤ 4096) : okD 900 ⟨1048576, [f], false, false, 0⟩ := okD_one (by decide) (by decide) h (by omega)
theorem ok_n2 {f : FileM} (h : okFile f) (ht : f.data.length ≤ 4096) : okD 899 ⟨1048576, [f], false, false, 0⟩ := ⟨(⟨by decide, by decide⟩ : (0 : Int) ≤ 1048576 ∧ (1048576 : Int) ≤ 1048576), by simp only [totF]; omega, by simp, by simpa using h, (⟨by decide, by decide⟩ : (0 : Int) ≤ 0 ∧ (0 : Int) ≤ 9223372036854775807)⟩
theorem isB_one : isB (bytesP [1]) := ⟨[1], rfl, by decide⟩
theorem okF0 (a : ByteArray) {p : List (List PD)} (h : isB p) : okFile ⟨a, p, 0⟩ := ⟨h, Int.le_refl 0, by show (0 : Int) ≤ (p.length : Int); omega⟩
theorem no_find {a b : ByteArray} (ha : mayF a = true) (hb : mayF b = false) (d : List (List PD)) (k : Int) : (findF b [⟨a, d, k⟩] 0).2 = false := find_ne (fun e => by rw [e, hb] at ha; cases ha) d k

theorem thenN {next : SL → Store → Prop} {Q : Exit → SL → Store → Prop} {s : SL} {st : Store} (h : next s st) : thenC next Q .normal s st := h
theorem skipN {T : Unit → Tab} {A : Ar} {X : Cps} {H : Unit → Kn} {N : Nat} {Q : Exit → SL → Store → Prop} {s : SL} {st : Store} (h : Q .normal s st) : wpC T A X H N .skip Q s st := by unfold wpC; exact h
theorem seqN {T : Unit → Tab} {A : Ar} {X : Cps} {H : Unit → Kn} {N : Nat} {x y : Code} {Q : Exit → SL → Store → Prop} {s : SL} {st : Store} (h : wpC T A X H N x (thenC (wpC T A X H N y Q) Q) s st) : wpC T A X H N (.seq x y) Q s st := by rw [wpC]; exact h
theorem condN {T : Unit → Tab} {A : Ar} {X : Cps} {H : Unit → Kn} {N : Nat} {t : Nat} {b : Bool} {x y : Code} {Q : Exit → SL → Store → Prop} {s : SL} {st : Store} (hb : getS s t = .d (.sc (.bool b))) (h : wpC T A X H N (bif b then x else y) Q s st) : wpC T A X H N (.cond (.tmp t) x y) Q s st := by
  rw [wpC]
  have e : evL s (.tmp t) = .d (.sc (.bool b)) := hb
  rw [e]
  cases b <;> exact h
theorem app_path {q : Int} {L : List FileM} {nm : ByteArray} {p : List (List PD)} (hm : mayF nm = false) : (Dk.mk q L false false 0).app nm p = (11, ⟨q, L, false, false, 0⟩) := by
  unfold Dk.app
  simp only
  rw [if_neg (by decide), if_pos hm]
set_option maxRecDepth 100000 in
theorem v_names (a b : ByteArray) (p : List (List PD)) (ha : a.size ≤ 1048576) (hb : b.size ≤ 1048576) (hp : isB p) : FnV Try.prog 6 [.d (.sc (.string a)), .d (.sc (.string b)), .d (.slc 1 p)] (boolD true) := by
  obtain ⟨GFsNm, hFsNm⟩ : ∃ F, F = FsNm0 := ⟨_, rfl⟩
  obtain ⟨GFsRu, hFsRu⟩ : ∃ F, F = FsRu0 := ⟨_, rfl⟩
  obtain ⟨GFsQ, hFsQ⟩ : ∃ F, F = FsQ0 := ⟨_, rfl⟩
  obtain ⟨GFsL, hFsL⟩ : ∃ F, F = FsL0 := ⟨_, rfl⟩
  have hH : SoundK Try.prog [kn_rightN GFsNm, kn_runs GFsRu, kn_same GFsQ] := by subst hFsNm hFsRu hFsQ hFsL; exact orK_ok ok_rightN (orK_ok ok_runs (orK_ok ok_same noK_ok))
  have hB : SoundB Try.prog [kb_new GFsL, kb_read GFsL] := by subst hFsNm hFsRu hFsQ hFsL; exact orB_ok okb_new (orB_ok okb_read noB_ok)
  refine FnD_cbv (T := fun _ => tabY [] [5, 6, 17, 18]) (H := fun _ => [kn_rightN GFsNm, kn_runs GFsRu, kn_same GFsQ]) (tabY_ok _ _) hH follows_mixed Try.func6 rfl Try.ntmps6 (by simp) fun A X W hA hX hW => ?_
  cbv
  have f1 : A.cmp .neq 0 0 = false := by subst hA; rfl
  cbv at f1
  have f2 : A.cond false true false = false := by subst hA; rfl
  cbv at f2
  have f2b : A.cond false true true = true := by subst hA; rfl
  cbv at f2b
  have f2c : A.cond false false false = false := by subst hA; rfl
  cbv at f2c
  have f2d : A.cond false false true = true := by subst hA; rfl
  cbv at f2d
  have f2e : A.cond true true true = true := by subst hA; rfl
  cbv at f2e
  have f2f : A.cond true false true = false := by subst hA; rfl
  cbv at f2f
  have f3 : A.not true = false := by subst hA; rfl
  cbv at f3
  have f4 : A.not false = true := by subst hA; rfl
  cbv at f4
  have f5 : A.cmp .neq 11 0 = true := by subst hA; rfl
  cbv at f5
  have f6 : A.cmp .neq 11 11 = false := by subst hA; rfl
  cbv at f6
  have f7 : A.cond true false false = false := by subst hA; rfl
  cbv at f7
  have f8 : A.cond true true false = true := by subst hA; rfl
  cbv at f8
  have f9 : A.cmp .eql 0 0 = true := by subst hA; rfl
  cbv at f9
  have f10 : A.cmp .eql 11 0 = false := by subst hA; rfl
  cbv at f10
  have f11 : A.cmp .eql 11 11 = true := by subst hA; rfl
  cbv at f11
  have f12 : A.cmp .eql 8 8 = true := by subst hA; rfl
  cbv at f12
  have f13 : A.beq true true = true := by subst hA; rfl
  cbv at f13
  have f14 : A.beq false false = true := by subst hA; rfl
  cbv at f14
  have f15 : A.beq true false = false := by subst hA; rfl
  cbv at f15
  have f16 : A.beq false true = false := by subst hA; rfl
  cbv at f16
  by_cases hp3 : p.length ≤ 300
  · have h3 : A.cmp .gtr (A.len p) 300 = false := by
      subst hA
      simp only [A0, decide_eq_false_iff_not]
      show ¬ (300 : Int) < (p.length : Int)
      omega
    cbv at h3
    repeat first
      | (simp only [f1, f2, f2b, f2c, f2d, f2e, f2f, f3, f4, f5, f6, f7, f8, f9, f10, f11, f12, f13, f14, f15, f16, h3]; cbv)
      | refine And.intro (by
           subst hA hX hW hFsQ hFsL hFsNm hFsRu
           clear hH hB
           first
             | exact trivial
             | exact rfl
             | (simp [A0]; done)
             | (intro q; exact q)
             | (intro q; simpa [A0] using q)
             | (intro _; trivial)
             | (show Region.lexB _ _ = true; kernel_rfl)
             | (show turnsB _ = true; kernel_rfl)
             | assumption
             | exact okqM
             | exact ha
             | exact hb) ?_
      | ((with_reducible refine callB hX hB ?_); cbv; fail_if_success show False)
    obtain ⟨n, hn⟩ : ∃ n : Int, n = 1048576 := ⟨_, rfl⟩
    have okn0 : okD 900 ⟨n, [], false, false, 0⟩ := by rw [hn]; exact ok_n0
    refine pauseL hX (s' := [(0, .d (.sc (.string a))), (1, .d (.sc (.string b))), (2, .d (.slc 1 p)), (6, .d (.sc (.bool false))), (7, .ref 0 0 0), (9, .fn 22 [])]) (st' := [dB n (.d (.sc (.slice none 0 0))) false false 0]) (by subst hn; exact told_fn 9 _ rfl (by simp [toldP, getS, setS])) ?_
    with_reducible refine goL (T := fun _ => tabY [] [6,17,18]) (H := fun _ => [kn_rightN GFsNm, kn_runs GFsRu, kn_same GFsQ]) (tabY_ok _ _) hH follows_mixed hA hX ?_
    cbv

    cases hma : mayF a <;> cases hmb : mayF b
    · have hra : GFsNm.rightN a = false := by subst hFsNm; exact hma
      cbv at hra
      have hrb : GFsNm.rightN b = false := by subst hFsNm; exact hmb
      cbv at hrb
      have hy1 : (Dk.mk n [] false false 0).app a p = (11, ⟨n, [], false, false, 0⟩) := app_path hma
      have hy2 : (Dk.mk n ([] : List FileM) false false 0).app b (bytesP [1]) = (11, ⟨n, ([] : List FileM), false, false, 0⟩) := app_path hmb
      have hy3 : (Dk.mk n ([] : List FileM) false false 0).ren a b = (11, ⟨n, ([] : List FileM), false, false, 0⟩) := ren_path hmb
      have hfb : (findF b ([] : List FileM) 0).2 = false := rfl
      refine callL hX (app0 a p 0 rfl okn0 ha hp hy1 (fun _ => ?_) fun v1 n1 c1 hc1 hn1 => ?_)
      · cbv
        repeat first
          | (simp only [f1, f2, f2b, f2c, f2d, f2e, f2f, f3, f4, f5, f6, f7, f8, f9, f10, f11, f12, f13, f14, f15, f16, hra, hrb]; cbv)
          | refine And.intro (by
               subst hA hX hW hFsQ hFsL hFsNm hFsRu
               clear hH hB
               first
                 | exact hb
                 | exact ha
                 | exact trivial
                 | exact rfl
                 | (simp [A0]; done)
                 | (intro q; exact q)
                 | (intro q; simpa [A0] using q)
                 | (intro _; trivial)
                 | (show Region.lexB _ _ = true; kernel_rfl)
                 | (show turnsB _ = true; kernel_rfl)
                 | assumption
                 | exact okqM
                 | exact ha
                 | exact hb) ?_
          | ((with_reducible refine callB hX hB ?_); cbv; fail_if_success show False)
          | (refine pickL hX (t := true) (by rfl) rfl ?_; cbv)
          | (refine pickL hX (t := false) (by rfl) rfl ?_; cbv)
        refine callL hX (FnD.freeze 1 1 (bytesP [1]) _ rfl rfl rfl (by intro x hx; simp [bytesP] at hx; subst hx; rfl) (app0 b (bytesP [1]) 0 rfl okn0 hb isB_one hy2 (fun _ => ?_) fun v2 n2 c2 hc2 hn2 => ?_))
        · cbv
          repeat first
            | (simp only [f1, f2, f2b, f2c, f2d, f2e, f2f, f3, f4, f5, f6, f7, f8, f9, f10, f11, f12, f13, f14, f15, f16, hra, hrb]; cbv)
            | refine And.intro (by
                 subst hA hX hW hFsQ hFsL hFsNm hFsRu
                 clear hH hB
                 first
                   | exact hb
                   | exact ha
                   | exact trivial
                   | exact rfl
                   | (simp [A0]; done)
                   | (intro q; exact q)
                   | (intro q; simpa [A0] using q)
                   | (intro _; trivial)
                   | (show Region.lexB _ _ = true; kernel_rfl)
                   | (show turnsB _ = true; kernel_rfl)
                   | assumption
                   | exact okqM
                   | exact ha
                   | exact hb) ?_
            | ((with_reducible refine callB hX hB ?_); cbv; fail_if_success show False)
            | (refine pickL hX (t := true) (by rfl) rfl ?_; cbv)
            | (refine pickL hX (t := false) (by rfl) rfl ?_; cbv)
          refine stepTo (T := fun _ => tabY [] []) (H := fun _ => [kn_rightN GFsNm, kn_runs GFsRu, kn_same GFsQ]) (tabY_ok _ _) hH follows_mixed hA hX [(0, .d (.sc (.string a))), (1, .d (.sc (.string b))), (2, .d (.slc 1 p)), (7, .ref 0 0 0), (9, .fn 22 []), (10, .d (.sc (.int .i64 11))), (11, .d (.sc (.int .i64 11))), (67, .d (.sc (.bool false)))] [dB n (.d (.sc (.slice none 0 0))) false false 0, ⟨5, [], false, 1, false⟩] (fun R2 hR2 => ?_) ?_
          · show genG _ _ _ _ _ _ _ _ _ _
            repeat
              (refine genS (fun G hG => ?_)
               cbv
               repeat first
                 | (simp only [f1, f2, f2b, f2c, f2d, f2e, f2f, f3, f4, f5, f6, f7, f8, f9, f10, f11, f12, f13, f14, f15, f16, hra, hrb]; cbv)
                 | refine And.intro (by
                      subst hA hX hW hFsQ hFsL hFsNm hFsRu
                      clear hH hB
                      first
                        | exact hb
                        | exact ha
                        | exact trivial
                        | exact rfl
                        | (simp [A0]; done)
                        | (intro q; exact q)
                        | (intro q; simpa [A0] using q)
                        | (intro _; trivial)
                        | (show Region.lexB _ _ = true; kernel_rfl)
                        | (show turnsB _ = true; kernel_rfl)
                        | assumption
                        | exact okqM
                        | exact ha
                        | exact hb) ?_
                 | ((with_reducible refine callB hX hB ?_); cbv; fail_if_success show False)
                 | (refine pickL hX (t := true) (by rfl) rfl ?_; cbv)
                 | (refine pickL hX (t := false) (by rfl) rfl ?_; cbv)
               subst hG)
            cbv
            clear hH hB hX
            subst hR2
            exact told_less (by simp [toldP, getS])
          refine thenN ?_
          refine condN (b := false) rfl ?_
          refine skipN ?_
          refine thenN ?_
          refine seqN ?_
          cbv
          repeat first
            | (simp only [f1, f2, f2b, f2c, f2d, f2e, f2f, f3, f4, f5, f6, f7, f8, f9, f10, f11, f12, f13, f14, f15, f16, hra, hrb]; cbv)
            | refine And.intro (by
                 subst hA hX hW hFsQ hFsL hFsNm hFsRu
                 clear hH hB
                 first
                   | exact hb
                   | exact ha
                   | exact trivial
                   | exact rfl
                   | (simp [A0]; done)
                   | (intro q; exact q)
                   | (intro q; simpa [A0] using q)
                   | (intro _; trivial)
                   | (show Region.lexB _ _ = true; kernel_rfl)
                   | (show turnsB _ = true; kernel_rfl)
                   | assumption
                   | exact okqM
                   | exact ha
                   | exact hb) ?_
            | ((with_reducible refine callB hX hB ?_); cbv; fail_if_success show False)
            | (refine pickL hX (t := true) (by rfl) rfl ?_; cbv)
            | (refine pickL hX (t := false) (by rfl) rfl ?_; cbv)
          refine callL hX (ren0 a b 0 rfl okn0 hb hy3 (fun _ => ?_) fun v3 n3 c3 hc3 hn3 => ?_)
          · have hO0 : okD 900 ⟨n, rowF [], false, false, 0⟩ := okn0
            have q1 : (GFsL.find [] b).2 = false := by
              subst hFsL
              show (findX [] b).2 = _
              unfold findX
              show (findF b [] 0).2 = _
              exact hfb
            cbv at q1
            cbv
            repeat first
              | (simp only [f1, f2, f2b, f2c, f2d, f2e, f2f, f3, f4, f5, f6, f7, f8, f9, f10, f11, f12, f13, f14, f15, f16, hra, hrb, q1]; cbv)
              | refine And.intro (by
                   subst hA hX hW hFsQ hFsL hFsNm hFsRu
                   clear hH hB
                   first
                     | exact hb
                     | exact ha
                     | exact trivial
                     | exact rfl
                     | (simp [A0]; done)
                     | (intro q; exact q)
                     | (intro q; simpa [A0] using q)
                     | (intro _; trivial)
                     | (show Region.lexB _ _ = true; kernel_rfl)
                     | (show turnsB _ = true; kernel_rfl)
                     | assumption
                     | exact okqM
                     | exact ha
                     | exact hb) ?_
              | ((with_reducible refine callB hX hB ?_); cbv; fail_if_success show False)
              | (refine pickL hX (t := true) (by rfl) rfl ?_; cbv)
              | (refine pickL hX (t := false) (by rfl) rfl ?_; cbv)
            subst hA hX hW hFsQ hFsL hFsNm hFsRu
            exact ret_v rfl rfl
          · have hF3 := isF_of hc3 hn3 (okn0.okL (by decide))
            have hO3 := okD_of hc3 okn0
            have q1 : (GFsL.find c3 b).2 = false := by
              subst hFsL
              show (findX c3 b).2 = _
              unfold findX
              rw [hc3, rowF_cells]
              exact hfb
            cbv at q1
            cbv
            repeat first
              | (simp only [f1, f2, f2b, f2c, f2d, f2e, f2f, f3, f4, f5, f6, f7, f8, f9, f10, f11, f12, f13, f14, f15, f16, hra, hrb, q1]; cbv)
              | refine And.intro (by
                   subst hA hX hW hFsQ hFsL hFsNm hFsRu
                   clear hH hB
                   first
                     | exact hb
                     | exact ha
                     | exact trivial
                     | exact rfl
                     | (simp [A0]; done)
                     | (intro q; exact q)
                     | (intro q; simpa [A0] using q)
                     | (intro _; trivial)
                     | (show Region.lexB _ _ = true; kernel_rfl)
                     | (show turnsB _ = true; kernel_rfl)
                     | assumption
                     | exact okqM
                     | exact ha
                     | exact hb) ?_
              | ((with_reducible refine callB hX hB ?_); cbv; fail_if_success show False)
              | (refine pickL hX (t := true) (by rfl) rfl ?_; cbv)
              | (refine pickL hX (t := false) (by rfl) rfl ?_; cbv)
            subst hA hX hW hFsQ hFsL hFsNm hFsRu
            exact ret_v rfl rfl
        · cbv
          repeat first
            | (simp only [f1, f2, f2b, f2c, f2d, f2e, f2f, f3, f4, f5, f6, f7, f8, f9, f10, f11, f12, f13, f14, f15, f16, hra, hrb]; cbv)
            | refine And.intro (by
                 subst hA hX hW hFsQ hFsL hFsNm hFsRu
                 clear hH hB
                 first
                   | exact hb
                   | exact ha
                   | exact trivial
                   | exact rfl
                   | (simp [A0]; done)
                   | (intro q; exact q)
                   | (intro q; simpa [A0] using q)
                   | (intro _; trivial)
                   | (show Region.lexB _ _ = true; kernel_rfl)
                   | (show turnsB _ = true; kernel_rfl)
                   | assumption
                   | exact okqM
                   | exact ha
                   | exact hb) ?_
            | ((with_reducible refine callB hX hB ?_); cbv; fail_if_success show False)
            | (refine pickL hX (t := true) (by rfl) rfl ?_; cbv)
            | (refine pickL hX (t := false) (by rfl) rfl ?_; cbv)
          refine stepTo (T := fun _ => tabY [] []) (H := fun _ => [kn_rightN GFsNm, kn_runs GFsRu, kn_same GFsQ]) (tabY_ok _ _) hH follows_mixed hA hX [(0, .d (.sc (.string a))), (1, .d (.sc (.string b))), (2, .d (.slc 1 p)), (7, .ref 0 0 0), (9, .fn 22 []), (10, .d (.sc (.int .i64 11))), (11, .d (.sc (.int .i64 11))), (67, .d (.sc (.bool false)))] [dB n (.view 3 2 v2 0 n2) false false 0, ⟨5, [], false, 1, false⟩, fB c2 v2] (fun R2 hR2 => ?_) ?_
          · show genG _ _ _ _ _ _ _ _ _ _
            repeat
              (refine genS (fun G hG => ?_)
               cbv
               repeat first
                 | (simp only [f1, f2, f2b, f2c, f2d, f2e, f2f, f3, f4, f5, f6, f7, f8, f9, f10, f11, f12, f13, f14, f15, f16, hra, hrb]; cbv)
                 | refine And.intro (by
                      subst hA hX hW hFsQ hFsL hFsNm hFsRu
                      clear hH hB
                      first
                        | exact hb
                        | exact ha
                        | exact trivial
                        | exact rfl
                        | (simp [A0]; done)
                        | (intro q; exact q)
                        | (intro q; simpa [A0] using q)
                        | (intro _; trivial)
                        | (show Region.lexB _ _ = true; kernel_rfl)
                        | (show turnsB _ = true; kernel_rfl)
                        | assumption
                        | exact okqM
                        | exact ha
                        | exact hb) ?_
                 | ((with_reducible refine callB hX hB ?_); cbv; fail_if_success show False)
                 | (refine pickL hX (t := true) (by rfl) rfl ?_; cbv)
                 | (refine pickL hX (t := false) (by rfl) rfl ?_; cbv)
               subst hG)
            cbv
            clear hH hB hX
            subst hR2
            exact told_less (by simp [toldP, getS])
          refine thenN ?_
          refine condN (b := false) rfl ?_
          refine skipN ?_
          refine thenN ?_
          refine seqN ?_
          cbv
          repeat first
            | (simp only [f1, f2, f2b, f2c, f2d, f2e, f2f, f3, f4, f5, f6, f7, f8, f9, f10, f11, f12, f13, f14, f15, f16, hra, hrb]; cbv)
            | refine And.intro (by
                 subst hA hX hW hFsQ hFsL hFsNm hFsRu
                 clear hH hB
                 first
                   | exact hb
                   | exact ha
                   | exact trivial
                   | exact rfl
                   | (simp [A0]; done)
                   | (intro q; exact q)
                   | (intro q; simpa [A0] using q)
                   | (intro _; trivial)
                   | (show Region.lexB _ _ = true; kernel_rfl)
                   | (show turnsB _ = true; kernel_rfl)
                   | assumption
                   | exact okqM
                   | exact ha
                   | exact hb) ?_
            | ((with_reducible refine callB hX hB ?_); cbv; fail_if_success show False)
            | (refine pickL hX (t := true) (by rfl) rfl ?_; cbv)
            | (refine pickL hX (t := false) (by rfl) rfl ?_; cbv)
          refine callL hX (ren1 a b 0 2 ([] : List FileM) rfl rfl (by decide) hc2 hn2 okn0 hb hy3 fun v4 n4 c4 hc4 hn4 => ?_)
          have hF4 := isF_of hc4 hn4 (okn0.okL (by decide))
          have hO4 := okD_of hc4 okn0
          have q1 : (GFsL.find c4 b).2 = false := by
            subst hFsL
            show (findX c4 b).2 = _
            unfold findX
            rw [hc4, rowF_cells]
            exact hfb
          cbv at q1
          cbv
          repeat first
            | (simp only [f1, f2, f2b, f2c, f2d, f2e, f2f, f3, f4, f5, f6, f7, f8, f9, f10, f11, f12, f13, f14, f15, f16, hra, hrb, q1]; cbv)
            | refine And.intro (by
                 subst hA hX hW hFsQ hFsL hFsNm hFsRu
                 clear hH hB
                 first
                   | exact hb
                   | exact ha
                   | exact trivial
                   | exact rfl
                   | (simp [A0]; done)
                   | (intro q; exact q)
                   | (intro q; simpa [A0] using q)
                   | (intro _; trivial)
                   | (show Region.lexB _ _ = true; kernel_rfl)
                   | (show turnsB _ = true; kernel_rfl)
                   | assumption
                   | exact okqM
                   | exact ha
                   | exact hb) ?_
            | ((with_reducible refine callB hX hB ?_); cbv; fail_if_success show False)
            | (refine pickL hX (t := true) (by rfl) rfl ?_; cbv)
            | (refine pickL hX (t := false) (by rfl) rfl ?_; cbv)
          subst hA hX hW hFsQ hFsL hFsNm hFsRu
          exact ret_v rfl rfl
      · cbv
        repeat first
          | (simp only [f1, f2, f2b, f2c, f2d, f2e, f2f, f3, f4, f5, f6, f7, f8, f9, f10, f11, f12, f13, f14, f15, f16, hra, hrb]; cbv)
          | refine And.intro (by
               subst hA hX hW hFsQ hFsL hFsNm hFsRu
               clear hH hB
               first
                 | exact hb
                 | exact ha
                 | exact trivial
                 | exact rfl
                 | (simp [A0]; done)
                 | (intro q; exact q)
                 | (intro q; simpa [A0] using q)
                 | (intro _; trivial)
                 | (show Region.lexB _ _ = true; kernel_rfl)
                 | (show turnsB _ = true; kernel_rfl)
                 | assumption
                 | exact okqM
                 | exact ha
                 | exact hb) ?_
          | ((with_reducible refine callB hX hB ?_); cbv; fail_if_success show False)
          | (refine pickL hX (t := true) (by rfl) rfl ?_; cbv)
          | (refine pickL hX (t := false) (by rfl) rfl ?_; cbv)
        refine callL hX (FnD.freeze 2 1 (bytesP [1]) _ rfl rfl rfl (by intro x hx; simp [bytesP] at hx; subst hx; rfl) (app1 b (bytesP [1]) 0 1 ([] : List FileM) rfl rfl (by decide) (fzF hc1) hn1 okn0 hb isB_one hy2 fun v5 n5 c5 hc5 hn5 => ?_))
        cbv
        repeat first
          | (simp only [f1, f2, f2b, f2c, f2d, f2e, f2f, f3, f4, f5, f6, f7, f8, f9, f10, f11, f12, f13, f14, f15, f16, hra, hrb]; cbv)
          | refine And.intro (by
               subst hA hX hW hFsQ hFsL hFsNm hFsRu
               clear hH hB
               first
                 | exact hb
                 | exact ha
                 | exact trivial
                 | exact rfl
                 | (simp [A0]; done)
                 | (intro q; exact q)
                 | (intro q; simpa [A0] using q)
                 | (intro _; trivial)
                 | (show Region.lexB _ _ = true; kernel_rfl)
                 | (show turnsB _ = true; kernel_rfl)
                 | assumption
                 | exact okqM
                 | exact ha
                 | exact hb) ?_
          | ((with_reducible refine callB hX hB ?_); cbv; fail_if_success show False)
          | (refine pickL hX (t := true) (by rfl) rfl ?_; cbv)
          | (refine pickL hX (t := false) (by rfl) rfl ?_; cbv)
        refine stepTo (T := fun _ => tabY [] []) (H := fun _ => [kn_rightN GFsNm, kn_runs GFsRu, kn_same GFsQ]) (tabY_ok _ _) hH follows_mixed hA hX [(0, .d (.sc (.string a))), (1, .d (.sc (.string b))), (2, .d (.slc 1 p)), (7, .ref 0 0 0), (9, .fn 22 []), (10, .d (.sc (.int .i64 11))), (11, .d (.sc (.int .i64 11))), (67, .d (.sc (.bool false)))] [dB n (.view 3 1 v5 0 n5) false false 0, fB c5 v5, ⟨5, [], false, 1, false⟩] (fun R2 hR2 => ?_) ?_
        · show genG _ _ _ _ _ _ _ _ _ _
          repeat
            (refine genS (fun G hG => ?_)
             cbv
             repeat first
               | (simp only [f1, f2, f2b, f2c, f2d, f2e, f2f, f3, f4, f5, f6, f7, f8, f9, f10, f11, f12, f13, f14, f15, f16, hra, hrb]; cbv)
               | refine And.intro (by
                    subst hA hX hW hFsQ hFsL hFsNm hFsRu
                    clear hH hB
                    first
                      | exact hb
                      | exact ha
                      | exact trivial
                      | exact rfl
                      | (simp [A0]; done)
                      | (intro q; exact q)
                      | (intro q; simpa [A0] using q)
                      | (intro _; trivial)
                      | (show Region.lexB _ _ = true; kernel_rfl)
                      | (show turnsB _ = true; kernel_rfl)
                      | assumption
                      | exact okqM
                      | exact ha
                      | exact hb) ?_
               | ((with_reducible refine callB hX hB ?_); cbv; fail_if_success show False)
               | (refine pickL hX (t := true) (by rfl) rfl ?_; cbv)
               | (refine pickL hX (t := false) (by rfl) rfl ?_; cbv)
             subst hG)
          cbv
          clear hH hB hX
          subst hR2
          exact told_less (by simp [toldP, getS])
        refine thenN ?_
        refine condN (b := false) rfl ?_
        refine skipN ?_
        refine thenN ?_
        refine seqN ?_
        cbv
        repeat first
          | (simp only [f1, f2, f2b, f2c, f2d, f2e, f2f, f3, f4, f5, f6, f7, f8, f9, f10, f11, f12, f13, f14, f15, f16, hra, hrb]; cbv)
          | refine And.intro (by
               subst hA hX hW hFsQ hFsL hFsNm hFsRu
               clear hH hB
               first
                 | exact hb
                 | exact ha
                 | exact trivial
                 | exact rfl
                 | (simp [A0]; done)
                 | (intro q; exact q)
                 | (intro q; simpa [A0] using q)
                 | (intro _; trivial)
                 | (show Region.lexB _ _ = true; kernel_rfl)
                 | (show turnsB _ = true; kernel_rfl)
                 | assumption
                 | exact okqM
                 | exact ha
                 | exact hb) ?_
          | ((with_reducible refine callB hX hB ?_); cbv; fail_if_success show False)
          | (refine pickL hX (t := true) (by rfl) rfl ?_; cbv)
          | (refine pickL hX (t := false) (by rfl) rfl ?_; cbv)
        refine callL hX (ren1 a b 0 1 ([] : List FileM) rfl rfl (by decide) hc5 hn5 okn0 hb hy3 fun v6 n6 c6 hc6 hn6 => ?_)
        have hF6 := isF_of hc6 hn6 (okn0.okL (by decide))
        have hO6 := okD_of hc6 okn0
        have q1 : (GFsL.find c6 b).2 = false := by
          subst hFsL
          show (findX c6 b).2 = _
          unfold findX
          rw [hc6, rowF_cells]
          exact hfb
        cbv at q1
        cbv
        repeat first
          | (simp only [f1, f2, f2b, f2c, f2d, f2e, f2f, f3, f4, f5, f6, f7, f8, f9, f10, f11, f12, f13, f14, f15, f16, hra, hrb, q1]; cbv)
          | refine And.intro (by
               subst hA hX hW hFsQ hFsL hFsNm hFsRu
               clear hH hB
               first
                 | exact hb
                 | exact ha
                 | exact trivial
                 | exact rfl
                 | (simp [A0]; done)
                 | (intro q; exact q)
                 | (intro q; simpa [A0] using q)
                 | (intro _; trivial)
                 | (show Region.lexB _ _ = true; kernel_rfl)
                 | (show turnsB _ = true; kernel_rfl)
                 | assumption
                 | exact okqM
                 | exact ha
                 | exact hb) ?_
          | ((with_reducible refine callB hX hB ?_); cbv; fail_if_success show False)
          | (refine pickL hX (t := true) (by rfl) rfl ?_; cbv)
          | (refine pickL hX (t := false) (by rfl) rfl ?_; cbv)
        subst hA hX hW hFsQ hFsL hFsNm hFsRu
        exact ret_v rfl rfl
    · have hra : GFsNm.rightN a = false := by subst hFsNm; exact hma
      cbv at hra
      have hrb : GFsNm.rightN b = true := by subst hFsNm; exact hmb
      cbv at hrb
      have hy1 : (Dk.mk n [] false false 0).app a p = (11, ⟨n, [], false, false, 0⟩) := app_path hma
      have hy2 : (Dk.mk n [] false false 0).app b (bytesP [1]) = (0, ⟨n, [⟨b, bytesP [1], 0⟩], false, false, 0⟩) := app_yes hmb (by simp only [totF, bytesP_length, List.length_singleton]; omega)
      have okB : okD 900 ⟨n, [⟨b, bytesP [1], 0⟩], false, false, 0⟩ := by rw [hn]; exact ok_n1 (okF0 b isB_one) (by simp only [bytesP_length, List.length_singleton]; omega)
      have hy3 : (Dk.mk n [⟨b, bytesP [1], 0⟩] false false 0).ren a b = (8, ⟨n, [⟨b, bytesP [1], 0⟩], false, false, 0⟩) := ren_none hmb (no_find hmb hma _ _)
      have hfb : (findF b [⟨b, bytesP [1], 0⟩] 0).2 = true := by rw [find_same]
      refine callL hX (app0 a p 0 rfl okn0 ha hp hy1 (fun _ => ?_) fun v7 n7 c7 hc7 hn7 => ?_)
      · cbv
        repeat first
          | (simp only [f1, f2, f2b, f2c, f2d, f2e, f2f, f3, f4, f5, f6, f7, f8, f9, f10, f11, f12, f13, f14, f15, f16, hra, hrb]; cbv)
          | refine And.intro (by
               subst hA hX hW hFsQ hFsL hFsNm hFsRu
               clear hH hB
               first
                 | exact hb
                 | exact ha
                 | exact trivial
                 | exact rfl
                 | (simp [A0]; done)
                 | (intro q; exact q)
                 | (intro q; simpa [A0] using q)
                 | (intro _; trivial)
                 | (show Region.lexB _ _ = true; kernel_rfl)
                 | (show turnsB _ = true; kernel_rfl)
                 | assumption
                 | exact okqM
                 | exact ha
                 | exact hb) ?_
          | ((with_reducible refine callB hX hB ?_); cbv; fail_if_success show False)
          | (refine pickL hX (t := true) (by rfl) rfl ?_; cbv)
          | (refine pickL hX (t := false) (by rfl) rfl ?_; cbv)
        refine callL hX (FnD.freeze 1 1 (bytesP [1]) _ rfl rfl rfl (by intro x hx; simp [bytesP] at hx; subst hx; rfl) (app0 b (bytesP [1]) 0 rfl okn0 hb isB_one hy2 (fun h => by cases h) fun v8 n8 c8 hc8 hn8 => ?_))
        cbv
        repeat first
          | (simp only [f1, f2, f2b, f2c, f2d, f2e, f2f, f3, f4, f5, f6, f7, f8, f9, f10, f11, f12, f13, f14, f15, f16, hra, hrb]; cbv)
          | refine And.intro (by
               subst hA hX hW hFsQ hFsL hFsNm hFsRu
               clear hH hB
               first
                 | exact hb
                 | exact ha
                 | exact trivial
                 | exact rfl
                 | (simp [A0]; done)
                 | (intro q; exact q)
                 | (intro q; simpa [A0] using q)
                 | (intro _; trivial)
                 | (show Region.lexB _ _ = true; kernel_rfl)
                 | (show turnsB _ = true; kernel_rfl)
                 | assumption
                 | exact okqM
                 | exact ha
                 | exact hb) ?_
          | ((with_reducible refine callB hX hB ?_); cbv; fail_if_success show False)
          | (refine pickL hX (t := true) (by rfl) rfl ?_; cbv)
          | (refine pickL hX (t := false) (by rfl) rfl ?_; cbv)
        refine stepTo (T := fun _ => tabY [] []) (H := fun _ => [kn_rightN GFsNm, kn_runs GFsRu, kn_same GFsQ]) (tabY_ok _ _) hH follows_mixed hA hX [(0, .d (.sc (.string a))), (1, .d (.sc (.string b))), (2, .d (.slc 1 p)), (7, .ref 0 0 0), (9, .fn 22 []), (10, .d (.sc (.int .i64 11))), (11, .d (.sc (.int .i64 0))), (67, .d (.sc (.bool false)))] [dB n (.view 3 2 v8 0 n8) false false 0, ⟨5, [], false, 1, false⟩, fB c8 v8] (fun R2 hR2 => ?_) ?_
        · show genG _ _ _ _ _ _ _ _ _ _
          repeat
            (refine genS (fun G hG => ?_)
             cbv
             repeat first
               | (simp only [f1, f2, f2b, f2c, f2d, f2e, f2f, f3, f4, f5, f6, f7, f8, f9, f10, f11, f12, f13, f14, f15, f16, hra, hrb]; cbv)
               | refine And.intro (by
                    subst hA hX hW hFsQ hFsL hFsNm hFsRu
                    clear hH hB
                    first
                      | exact hb
                      | exact ha
                      | exact trivial
                      | exact rfl
                      | (simp [A0]; done)
                      | (intro q; exact q)
                      | (intro q; simpa [A0] using q)
                      | (intro _; trivial)
                      | (show Region.lexB _ _ = true; kernel_rfl)
                      | (show turnsB _ = true; kernel_rfl)
                      | assumption
                      | exact okqM
                      | exact ha
                      | exact hb) ?_
               | ((with_reducible refine callB hX hB ?_); cbv; fail_if_success show False)
               | (refine pickL hX (t := true) (by rfl) rfl ?_; cbv)
               | (refine pickL hX (t := false) (by rfl) rfl ?_; cbv)
             subst hG)
          cbv
          clear hH hB hX
          subst hR2
          exact told_less (by simp [toldP, getS])
        refine thenN ?_
        refine condN (b := false) rfl ?_
        refine skipN ?_
        refine thenN ?_
        refine seqN ?_
        cbv
        repeat first
          | (simp only [f1, f2, f2b, f2c, f2d, f2e, f2f, f3, f4, f5, f6, f7, f8, f9, f10, f11, f12, f13, f14, f15, f16, hra, hrb]; cbv)
          | refine And.intro (by
               subst hA hX hW hFsQ hFsL hFsNm hFsRu
               clear hH hB
               first
                 | exact hb
                 | exact ha
                 | exact trivial
                 | exact rfl
                 | (simp [A0]; done)
                 | (intro q; exact q)
                 | (intro q; simpa [A0] using q)
                 | (intro _; trivial)
                 | (show Region.lexB _ _ = true; kernel_rfl)
                 | (show turnsB _ = true; kernel_rfl)
                 | assumption
                 | exact okqM
                 | exact ha
                 | exact hb) ?_
          | ((with_reducible refine callB hX hB ?_); cbv; fail_if_success show False)
          | (refine pickL hX (t := true) (by rfl) rfl ?_; cbv)
          | (refine pickL hX (t := false) (by rfl) rfl ?_; cbv)
        refine callL hX (ren1 a b 0 2 [⟨b, bytesP [1], 0⟩] rfl rfl (by decide) hc8 hn8 okB hb hy3 fun v9 n9 c9 hc9 hn9 => ?_)
        have hF9 := isF_of hc9 hn9 (okB.okL (by decide))
        have hO9 := okD_of hc9 okB
        have q1 : (GFsL.find c9 b).2 = true := by
          subst hFsL
          show (findX c9 b).2 = _
          unfold findX
          rw [hc9, rowF_cells]
          exact hfb
        cbv at q1
        cbv
        repeat first
          | (simp only [f1, f2, f2b, f2c, f2d, f2e, f2f, f3, f4, f5, f6, f7, f8, f9, f10, f11, f12, f13, f14, f15, f16, hra, hrb, q1]; cbv)
          | refine And.intro (by
               subst hA hX hW hFsQ hFsL hFsNm hFsRu
               clear hH hB
               first
                 | exact hb
                 | exact ha
                 | exact trivial
                 | exact rfl
                 | (simp [A0]; done)
                 | (intro q; exact q)
                 | (intro q; simpa [A0] using q)
                 | (intro _; trivial)
                 | (show Region.lexB _ _ = true; kernel_rfl)
                 | (show turnsB _ = true; kernel_rfl)
                 | assumption
                 | exact okqM
                 | exact ha
                 | exact hb) ?_
          | ((with_reducible refine callB hX hB ?_); cbv; fail_if_success show False)
          | (refine pickL hX (t := true) (by rfl) rfl ?_; cbv)
          | (refine pickL hX (t := false) (by rfl) rfl ?_; cbv)
        subst hA hX hW hFsQ hFsL hFsNm hFsRu
        exact ret_v rfl rfl
      · cbv
        repeat first
          | (simp only [f1, f2, f2b, f2c, f2d, f2e, f2f, f3, f4, f5, f6, f7, f8, f9, f10, f11, f12, f13, f14, f15, f16, hra, hrb]; cbv)
          | refine And.intro (by
               subst hA hX hW hFsQ hFsL hFsNm hFsRu
               clear hH hB
               first
                 | exact hb
                 | exact ha
                 | exact trivial
                 | exact rfl
                 | (simp [A0]; done)
                 | (intro q; exact q)
                 | (intro q; simpa [A0] using q)
                 | (intro _; trivial)
                 | (show Region.lexB _ _ = true; kernel_rfl)
                 | (show turnsB _ = true; kernel_rfl)
                 | assumption
                 | exact okqM
                 | exact ha
                 | exact hb) ?_
          | ((with_reducible refine callB hX hB ?_); cbv; fail_if_success show False)
          | (refine pickL hX (t := true) (by rfl) rfl ?_; cbv)
          | (refine pickL hX (t := false) (by rfl) rfl ?_; cbv)
        refine callL hX (FnD.freeze 2 1 (bytesP [1]) _ rfl rfl rfl (by intro x hx; simp [bytesP] at hx; subst hx; rfl) (app1 b (bytesP [1]) 0 1 ([] : List FileM) rfl rfl (by decide) (fzF hc7) hn7 okn0 hb isB_one hy2 fun v10 n10 c10 hc10 hn10 => ?_))
        cbv
        repeat first
          | (simp only [f1, f2, f2b, f2c, f2d, f2e, f2f, f3, f4, f5, f6, f7, f8, f9, f10, f11, f12, f13, f14, f15, f16, hra, hrb]; cbv)
          | refine And.intro (by
               subst hA hX hW hFsQ hFsL hFsNm hFsRu
               clear hH hB
               first
                 | exact hb
                 | exact ha
                 | exact trivial
                 | exact rfl
                 | (simp [A0]; done)
                 | (intro q; exact q)
                 | (intro q; simpa [A0] using q)
                 | (intro _; trivial)
                 | (show Region.lexB _ _ = true; kernel_rfl)
                 | (show turnsB _ = true; kernel_rfl)
                 | assumption
                 | exact okqM
                 | exact ha
                 | exact hb) ?_
          | ((with_reducible refine callB hX hB ?_); cbv; fail_if_success show False)
          | (refine pickL hX (t := true) (by rfl) rfl ?_; cbv)
          | (refine pickL hX (t := false) (by rfl) rfl ?_; cbv)
        refine stepTo (T := fun _ => tabY [] []) (H := fun _ => [kn_rightN GFsNm, kn_runs GFsRu, kn_same GFsQ]) (tabY_ok _ _) hH follows_mixed hA hX [(0, .d (.sc (.string a))), (1, .d (.sc (.string b))), (2, .d (.slc 1 p)), (7, .ref 0 0 0), (9, .fn 22 []), (10, .d (.sc (.int .i64 11))), (11, .d (.sc (.int .i64 0))), (67, .d (.sc (.bool false)))] [dB n (.view 3 1 v10 0 n10) false false 0, fB c10 v10, ⟨5, [], false, 1, false⟩] (fun R2 hR2 => ?_) ?_
        · show genG _ _ _ _ _ _ _ _ _ _
          repeat
            (refine genS (fun G hG => ?_)
             cbv
             repeat first
               | (simp only [f1, f2, f2b, f2c, f2d, f2e, f2f, f3, f4, f5, f6, f7, f8, f9, f10, f11, f12, f13, f14, f15, f16, hra, hrb]; cbv)
               | refine And.intro (by
                    subst hA hX hW hFsQ hFsL hFsNm hFsRu
                    clear hH hB
                    first
                      | exact hb
                      | exact ha
                      | exact trivial
                      | exact rfl
                      | (simp [A0]; done)
                      | (intro q; exact q)
                      | (intro q; simpa [A0] using q)
                      | (intro _; trivial)
                      | (show Region.lexB _ _ = true; kernel_rfl)
                      | (show turnsB _ = true; kernel_rfl)
                      | assumption
                      | exact okqM
                      | exact ha
                      | exact hb) ?_
               | ((with_reducible refine callB hX hB ?_); cbv; fail_if_success show False)
               | (refine pickL hX (t := true) (by rfl) rfl ?_; cbv)
               | (refine pickL hX (t := false) (by rfl) rfl ?_; cbv)
             subst hG)
          cbv
          clear hH hB hX
          subst hR2
          exact told_less (by simp [toldP, getS])
        refine thenN ?_
        refine condN (b := false) rfl ?_
        refine skipN ?_
        refine thenN ?_
        refine seqN ?_
        cbv
        repeat first
          | (simp only [f1, f2, f2b, f2c, f2d, f2e, f2f, f3, f4, f5, f6, f7, f8, f9, f10, f11, f12, f13, f14, f15, f16, hra, hrb]; cbv)
          | refine And.intro (by
               subst hA hX hW hFsQ hFsL hFsNm hFsRu
               clear hH hB
               first
                 | exact hb
                 | exact ha
                 | exact trivial
                 | exact rfl
                 | (simp [A0]; done)
                 | (intro q; exact q)
                 | (intro q; simpa [A0] using q)
                 | (intro _; trivial)
                 | (show Region.lexB _ _ = true; kernel_rfl)
                 | (show turnsB _ = true; kernel_rfl)
                 | assumption
                 | exact okqM
                 | exact ha
                 | exact hb) ?_
          | ((with_reducible refine callB hX hB ?_); cbv; fail_if_success show False)
          | (refine pickL hX (t := true) (by rfl) rfl ?_; cbv)
          | (refine pickL hX (t := false) (by rfl) rfl ?_; cbv)
        refine callL hX (ren1 a b 0 1 [⟨b, bytesP [1], 0⟩] rfl rfl (by decide) hc10 hn10 okB hb hy3 fun v11 n11 c11 hc11 hn11 => ?_)
        have hF11 := isF_of hc11 hn11 (okB.okL (by decide))
        have hO11 := okD_of hc11 okB
        have q1 : (GFsL.find c11 b).2 = true := by
          subst hFsL
          show (findX c11 b).2 = _
          unfold findX
          rw [hc11, rowF_cells]
          exact hfb
        cbv at q1
        cbv
        repeat first
          | (simp only [f1, f2, f2b, f2c, f2d, f2e, f2f, f3, f4, f5, f6, f7, f8, f9, f10, f11, f12, f13, f14, f15, f16, hra, hrb, q1]; cbv)
          | refine And.intro (by
               subst hA hX hW hFsQ hFsL hFsNm hFsRu
               clear hH hB
               first
                 | exact hb
                 | exact ha
                 | exact trivial
                 | exact rfl
                 | (simp [A0]; done)
                 | (intro q; exact q)
                 | (intro q; simpa [A0] using q)
                 | (intro _; trivial)
                 | (show Region.lexB _ _ = true; kernel_rfl)
                 | (show turnsB _ = true; kernel_rfl)
                 | assumption
                 | exact okqM
                 | exact ha
                 | exact hb) ?_
          | ((with_reducible refine callB hX hB ?_); cbv; fail_if_success show False)
          | (refine pickL hX (t := true) (by rfl) rfl ?_; cbv)
          | (refine pickL hX (t := false) (by rfl) rfl ?_; cbv)
        subst hA hX hW hFsQ hFsL hFsNm hFsRu
        exact ret_v rfl rfl
    · have hra : GFsNm.rightN a = true := by subst hFsNm; exact hma
      cbv at hra
      have hrb : GFsNm.rightN b = false := by subst hFsNm; exact hmb
      cbv at hrb
      have hy1 : (Dk.mk n [] false false 0).app a p = (0, ⟨n, [⟨a, p, 0⟩], false, false, 0⟩) := app_yes hma (by simp only [totF]; omega)
      have okA : okD 900 ⟨n, [⟨a, p, 0⟩], false, false, 0⟩ := by rw [hn]; exact ok_n1 (okF0 a hp) (by simp only; omega)
      have hy2 : (Dk.mk n [⟨a, p, 0⟩] false false 0).app b (bytesP [1]) = (11, ⟨n, [⟨a, p, 0⟩], false, false, 0⟩) := app_path hmb
      have hy3 : (Dk.mk n [⟨a, p, 0⟩] false false 0).ren a b = (11, ⟨n, [⟨a, p, 0⟩], false, false, 0⟩) := ren_path hmb
      have hfb : (findF b [⟨a, p, 0⟩] 0).2 = false := by exact no_find hma hmb _ _
      refine callL hX (app0 a p 0 rfl okn0 ha hp hy1 (fun h => by cases h) fun v12 n12 c12 hc12 hn12 => ?_)
      cbv
      repeat first
        | (simp only [f1, f2, f2b, f2c, f2d, f2e, f2f, f3, f4, f5, f6, f7, f8, f9, f10, f11, f12, f13, f14, f15, f16, hra, hrb]; cbv)
        | refine And.intro (by
             subst hA hX hW hFsQ hFsL hFsNm hFsRu
             clear hH hB
             first
               | exact hb
               | exact ha
               | exact trivial
               | exact rfl
               | (simp [A0]; done)
               | (intro q; exact q)
               | (intro q; simpa [A0] using q)
               | (intro _; trivial)
               | (show Region.lexB _ _ = true; kernel_rfl)
               | (show turnsB _ = true; kernel_rfl)
               | assumption
               | exact okqM
               | exact ha
               | exact hb) ?_
        | ((with_reducible refine callB hX hB ?_); cbv; fail_if_success show False)
        | (refine pickL hX (t := true) (by rfl) rfl ?_; cbv)
        | (refine pickL hX (t := false) (by rfl) rfl ?_; cbv)
      refine callL hX (FnD.freeze 2 1 (bytesP [1]) _ rfl rfl rfl (by intro x hx; simp [bytesP] at hx; subst hx; rfl) (app1 b (bytesP [1]) 0 1 [⟨a, p, 0⟩] rfl rfl (by decide) (fzF hc12) hn12 okA hb isB_one hy2 fun v13 n13 c13 hc13 hn13 => ?_))
      cbv
      repeat first
        | (simp only [f1, f2, f2b, f2c, f2d, f2e, f2f, f3, f4, f5, f6, f7, f8, f9, f10, f11, f12, f13, f14, f15, f16, hra, hrb]; cbv)
        | refine And.intro (by
             subst hA hX hW hFsQ hFsL hFsNm hFsRu
             clear hH hB
             first
               | exact hb
               | exact ha
               | exact trivial
               | exact rfl
               | (simp [A0]; done)
               | (intro q; exact q)
               | (intro q; simpa [A0] using q)
               | (intro _; trivial)
               | (show Region.lexB _ _ = true; kernel_rfl)
               | (show turnsB _ = true; kernel_rfl)
               | assumption
               | exact okqM
               | exact ha
               | exact hb) ?_
        | ((with_reducible refine callB hX hB ?_); cbv; fail_if_success show False)
        | (refine pickL hX (t := true) (by rfl) rfl ?_; cbv)
        | (refine pickL hX (t := false) (by rfl) rfl ?_; cbv)
      refine stepTo (T := fun _ => tabY [] []) (H := fun _ => [kn_rightN GFsNm, kn_runs GFsRu, kn_same GFsQ]) (tabY_ok _ _) hH follows_mixed hA hX [(0, .d (.sc (.string a))), (1, .d (.sc (.string b))), (2, .d (.slc 1 p)), (7, .ref 0 0 0), (9, .fn 22 []), (10, .d (.sc (.int .i64 0))), (11, .d (.sc (.int .i64 11))), (67, .d (.sc (.bool false)))] [dB n (.view 3 1 v13 0 n13) false false 0, fB c13 v13, ⟨5, [], false, 1, false⟩] (fun R2 hR2 => ?_) ?_
      · show genG _ _ _ _ _ _ _ _ _ _
        repeat
          (refine genS (fun G hG => ?_)
           cbv
           repeat first
             | (simp only [f1, f2, f2b, f2c, f2d, f2e, f2f, f3, f4, f5, f6, f7, f8, f9, f10, f11, f12, f13, f14, f15, f16, hra, hrb]; cbv)
             | refine And.intro (by
                  subst hA hX hW hFsQ hFsL hFsNm hFsRu
                  clear hH hB
                  first
                    | exact hb
                    | exact ha
                    | exact trivial
                    | exact rfl
                    | (simp [A0]; done)
                    | (intro q; exact q)
                    | (intro q; simpa [A0] using q)
                    | (intro _; trivial)
                    | (show Region.lexB _ _ = true; kernel_rfl)
                    | (show turnsB _ = true; kernel_rfl)
                    | assumption
                    | exact okqM
                    | exact ha
                    | exact hb) ?_
             | ((with_reducible refine callB hX hB ?_); cbv; fail_if_success show False)
             | (refine pickL hX (t := true) (by rfl) rfl ?_; cbv)
             | (refine pickL hX (t := false) (by rfl) rfl ?_; cbv)
           subst hG)
        cbv
        clear hH hB hX
        subst hR2
        exact told_less (by simp [toldP, getS])
      refine thenN ?_
      refine condN (b := false) rfl ?_
      refine skipN ?_
      refine thenN ?_
      refine seqN ?_
      cbv
      repeat first
        | (simp only [f1, f2, f2b, f2c, f2d, f2e, f2f, f3, f4, f5, f6, f7, f8, f9, f10, f11, f12, f13, f14, f15, f16, hra, hrb]; cbv)
        | refine And.intro (by
             subst hA hX hW hFsQ hFsL hFsNm hFsRu
             clear hH hB
             first
               | exact hb
               | exact ha
               | exact trivial
               | exact rfl
               | (simp [A0]; done)
               | (intro q; exact q)
               | (intro q; simpa [A0] using q)
               | (intro _; trivial)
               | (show Region.lexB _ _ = true; kernel_rfl)
               | (show turnsB _ = true; kernel_rfl)
               | assumption
               | exact okqM
               | exact ha
               | exact hb) ?_
        | ((with_reducible refine callB hX hB ?_); cbv; fail_if_success show False)
        | (refine pickL hX (t := true) (by rfl) rfl ?_; cbv)
        | (refine pickL hX (t := false) (by rfl) rfl ?_; cbv)
      refine callL hX (ren1 a b 0 1 [⟨a, p, 0⟩] rfl rfl (by decide) hc13 hn13 okA hb hy3 fun v14 n14 c14 hc14 hn14 => ?_)
      have hF14 := isF_of hc14 hn14 (okA.okL (by decide))
      have hO14 := okD_of hc14 okA
      have q1 : (GFsL.find c14 b).2 = false := by
        subst hFsL
        show (findX c14 b).2 = _
        unfold findX
        rw [hc14, rowF_cells]
        exact hfb
      cbv at q1
      cbv
      repeat first
        | (simp only [f1, f2, f2b, f2c, f2d, f2e, f2f, f3, f4, f5, f6, f7, f8, f9, f10, f11, f12, f13, f14, f15, f16, hra, hrb, q1]; cbv)
        | refine And.intro (by
             subst hA hX hW hFsQ hFsL hFsNm hFsRu
             clear hH hB
             first
               | exact hb
               | exact ha
               | exact trivial
               | exact rfl
               | (simp [A0]; done)
               | (intro q; exact q)
               | (intro q; simpa [A0] using q)
               | (intro _; trivial)
               | (show Region.lexB _ _ = true; kernel_rfl)
               | (show turnsB _ = true; kernel_rfl)
               | assumption
               | exact okqM
               | exact ha
               | exact hb) ?_
        | ((with_reducible refine callB hX hB ?_); cbv; fail_if_success show False)
        | (refine pickL hX (t := true) (by rfl) rfl ?_; cbv)
        | (refine pickL hX (t := false) (by rfl) rfl ?_; cbv)
      subst hA hX hW hFsQ hFsL hFsNm hFsRu
      exact ret_v rfl rfl
    · have hra : GFsNm.rightN a = true := by subst hFsNm; exact hma
      cbv at hra
      have hrb : GFsNm.rightN b = true := by subst hFsNm; exact hmb
      cbv at hrb
      have hy1 : (Dk.mk n [] false false 0).app a p = (0, ⟨n, [⟨a, p, 0⟩], false, false, 0⟩) := app_yes hma (by simp only [totF]; omega)
      have okA : okD 900 ⟨n, [⟨a, p, 0⟩], false, false, 0⟩ := by rw [hn]; exact ok_n1 (okF0 a hp) (by simp only; omega)
      obtain ⟨L2, hL2⟩ : ∃ L2, L2 = addF [⟨a, p, 0⟩] b (bytesP [1]) := ⟨_, rfl⟩
      have hy2 : (Dk.mk n [⟨a, p, 0⟩] false false 0).app b (bytesP [1]) = (0, ⟨n, L2, false, false, 0⟩) := by rw [hL2]; exact app_yes hmb (by simp only [totF, bytesP_length, List.length_singleton]; omega)
      have okL2 : okD 900 ⟨n, L2, false, false, 0⟩ := by
        have h1 := (hn ▸ ok_n2 (okF0 a hp) (by simp only; omega) : okD 899 ⟨n, [⟨a, p, 0⟩], false, false, 0⟩).app (name := b) isB_one
        rw [hy2] at h1
        exact h1.mono (by decide)
      obtain ⟨d, hd⟩ : ∃ d, d = (if a = b then p ++ bytesP [1] else p) := ⟨_, rfl⟩
      have hy3 : (Dk.mk n L2 false false 0).ren a b = (0, ⟨n, [⟨b, d, 0⟩], false, false, 0⟩) := by rw [hL2, hd]; exact (names_both hmb p (bytesP [1]))
      have hdB : isB d := by
        rw [hd]
        split
        · exact hp.app isB_one (by rw [bytesP_length, List.length_singleton]; omega)
        · exact hp
      obtain ⟨L3, hL3⟩ : ∃ L3 : List FileM, L3 = [⟨b, d, 0⟩] := ⟨_, rfl⟩
      rw [← hL3] at hy3
      have okL3 : okD 900 ⟨n, L3, false, false, 0⟩ := by
        rw [hL3, hn]
        refine ok_n1 (okF0 b hdB) ?_
        simp only
        rw [hd]
        split
        · rw [List.length_append, bytesP_length, List.length_singleton]; omega
        · omega
      have hfb : (findF b L3 0).2 = true := by rw [hL3]; rw [find_same]
      refine callL hX (app0 a p 0 rfl okn0 ha hp hy1 (fun h => by cases h) fun v15 n15 c15 hc15 hn15 => ?_)
      cbv
      repeat first
        | (simp only [f1, f2, f2b, f2c, f2d, f2e, f2f, f3, f4, f5, f6, f7, f8, f9, f10, f11, f12, f13, f14, f15, f16, hra, hrb]; cbv)
        | refine And.intro (by
             subst hA hX hW hFsQ hFsL hFsNm hFsRu
             clear hH hB
             first
               | exact hb
               | exact ha
               | exact trivial
               | exact rfl
               | (simp [A0]; done)
               | (intro q; exact q)
               | (intro q; simpa [A0] using q)
               | (intro _; trivial)
               | (show Region.lexB _ _ = true; kernel_rfl)
               | (show turnsB _ = true; kernel_rfl)
               | assumption
               | exact okqM
               | exact ha
               | exact hb) ?_
        | ((with_reducible refine callB hX hB ?_); cbv; fail_if_success show False)
        | (refine pickL hX (t := true) (by rfl) rfl ?_; cbv)
        | (refine pickL hX (t := false) (by rfl) rfl ?_; cbv)
      refine callL hX (FnD.freeze 2 1 (bytesP [1]) _ rfl rfl rfl (by intro x hx; simp [bytesP] at hx; subst hx; rfl) (app1 b (bytesP [1]) 0 1 [⟨a, p, 0⟩] rfl rfl (by decide) (fzF hc15) hn15 okA hb isB_one hy2 fun v16 n16 c16 hc16 hn16 => ?_))
      cbv
      repeat first
        | (simp only [f1, f2, f2b, f2c, f2d, f2e, f2f, f3, f4, f5, f6, f7, f8, f9, f10, f11, f12, f13, f14, f15, f16, hra, hrb]; cbv)
        | refine And.intro (by
             subst hA hX hW hFsQ hFsL hFsNm hFsRu
             clear hH hB
             first
               | exact hb
               | exact ha
               | exact trivial
               | exact rfl
               | (simp [A0]; done)
               | (intro q; exact q)
               | (intro q; simpa [A0] using q)
               | (intro _; trivial)
               | (show Region.lexB _ _ = true; kernel_rfl)
               | (show turnsB _ = true; kernel_rfl)
               | assumption
               | exact okqM
               | exact ha
               | exact hb) ?_
        | ((with_reducible refine callB hX hB ?_); cbv; fail_if_success show False)
        | (refine pickL hX (t := true) (by rfl) rfl ?_; cbv)
        | (refine pickL hX (t := false) (by rfl) rfl ?_; cbv)
      refine stepTo (T := fun _ => tabY [] []) (H := fun _ => [kn_rightN GFsNm, kn_runs GFsRu, kn_same GFsQ]) (tabY_ok _ _) hH follows_mixed hA hX [(0, .d (.sc (.string a))), (1, .d (.sc (.string b))), (2, .d (.slc 1 p)), (7, .ref 0 0 0), (9, .fn 22 []), (10, .d (.sc (.int .i64 0))), (11, .d (.sc (.int .i64 0))), (67, .d (.sc (.bool false)))] [dB n (.view 3 1 v16 0 n16) false false 0, fB c16 v16, ⟨5, [], false, 1, false⟩] (fun R2 hR2 => ?_) ?_
      · show genG _ _ _ _ _ _ _ _ _ _
        repeat
          (refine genS (fun G hG => ?_)
           cbv
           repeat first
             | (simp only [f1, f2, f2b, f2c, f2d, f2e, f2f, f3, f4, f5, f6, f7, f8, f9, f10, f11, f12, f13, f14, f15, f16, hra, hrb]; cbv)
             | refine And.intro (by
                  subst hA hX hW hFsQ hFsL hFsNm hFsRu
                  clear hH hB
                  first
                    | exact hb
                    | exact ha
                    | exact trivial
                    | exact rfl
                    | (simp [A0]; done)
                    | (intro q; exact q)
                    | (intro q; simpa [A0] using q)
                    | (intro _; trivial)
                    | (show Region.lexB _ _ = true; kernel_rfl)
                    | (show turnsB _ = true; kernel_rfl)
                    | assumption
                    | exact okqM
                    | exact ha
                    | exact hb) ?_
             | ((with_reducible refine callB hX hB ?_); cbv; fail_if_success show False)
             | (refine pickL hX (t := true) (by rfl) rfl ?_; cbv)
             | (refine pickL hX (t := false) (by rfl) rfl ?_; cbv)
           subst hG)
        cbv
        clear hH hB hX
        subst hR2
        exact told_less (by simp [toldP, getS])
      refine thenN ?_
      refine condN (b := false) rfl ?_
      refine skipN ?_
      refine thenN ?_
      refine seqN ?_
      cbv
      repeat first
        | (simp only [f1, f2, f2b, f2c, f2d, f2e, f2f, f3, f4, f5, f6, f7, f8, f9, f10, f11, f12, f13, f14, f15, f16, hra, hrb]; cbv)
        | refine And.intro (by
             subst hA hX hW hFsQ hFsL hFsNm hFsRu
             clear hH hB
             first
               | exact hb
               | exact ha
               | exact trivial
               | exact rfl
               | (simp [A0]; done)
               | (intro q; exact q)
               | (intro q; simpa [A0] using q)
               | (intro _; trivial)
               | (show Region.lexB _ _ = true; kernel_rfl)
               | (show turnsB _ = true; kernel_rfl)
               | assumption
               | exact okqM
               | exact ha
               | exact hb) ?_
        | ((with_reducible refine callB hX hB ?_); cbv; fail_if_success show False)
        | (refine pickL hX (t := true) (by rfl) rfl ?_; cbv)
        | (refine pickL hX (t := false) (by rfl) rfl ?_; cbv)
      refine callL hX (ren1 a b 0 1 L2 rfl rfl (by decide) hc16 hn16 okL2 hb hy3 fun v17 n17 c17 hc17 hn17 => ?_)
      have hF17 := isF_of hc17 hn17 (okL3.okL (by decide))
      have hO17 := okD_of hc17 okL3
      have q1 : (GFsL.find c17 b).2 = true := by
        subst hFsL
        show (findX c17 b).2 = _
        unfold findX
        rw [hc17, rowF_cells]
        exact hfb
      cbv at q1
      have q2 : GFsL.rd c17 b = d := by
        subst hFsL
        show readsX c17 b = _
        unfold readsX
        rw [hc17, rowF_cells]
        rw [hL3]
        exact reads_same _ _ _
      cbv at q2
      by_cases hab : a = b
      · have q3 : (GFsL.find c17 a).2 = true := by
          subst hFsL
          show (findX c17 a).2 = _
          unfold findX
          rw [hc17, rowF_cells]
          rw [hL3, hab, find_same]
        cbv at q3
        have q4 : A.scmp .eql a b = true := by subst hA; exact decide_eq_true hab
        cbv at q4
        have hdw : d = p ++ bytesP [1] := by rw [hd, if_pos hab]
        have q5 : GFsQ.same d d = true := by
          subst hFsQ
          exact (sameB_eq _ _).2 rfl
        cbv at q5
        cbv
        repeat first
          | (simp only [f1, f2, f2b, f2c, f2d, f2e, f2f, f3, f4, f5, f6, f7, f8, f9, f10, f11, f12, f13, f14, f15, f16, hra, hrb, q1, q2, q3, q4, q5]; cbv)
          | refine And.intro (by
               subst hA hX hW hFsQ hFsL hFsNm hFsRu
               clear hH hB
               first
                 | exact hb
                 | exact ha
                 | exact trivial
                 | exact rfl
                 | (simp [A0]; done)
                 | (intro q; exact q)
                 | (intro q; simpa [A0] using q)
                 | (intro _; trivial)
                 | (show Region.lexB _ _ = true; kernel_rfl)
                 | (show turnsB _ = true; kernel_rfl)
                 | assumption
                 | exact okqM
                 | exact ha
                 | exact hb) ?_
          | ((with_reducible refine callB hX hB ?_); cbv; fail_if_success show False)
          | (refine pickL hX (t := true) (by rfl) rfl ?_; cbv)
          | (refine pickL hX (t := false) (by rfl) rfl ?_; cbv)
        refine afterL (T := fun _ => tabY [] []) (H := fun _ => [kn_rightN GFsNm, kn_runs GFsRu, kn_same GFsQ]) (tabY_ok _ _) hH follows_mixed hA hX ?_
        cbv
        repeat first
          | (simp only [f1, f2, f2b, f2c, f2d, f2e, f2f, f3, f4, f5, f6, f7, f8, f9, f10, f11, f12, f13, f14, f15, f16, hra, hrb]; cbv)
          | refine And.intro (by
               subst hA hX hW hFsQ hFsL hFsNm hFsRu
               clear hH hB
               first
                 | exact hb
                 | exact ha
                 | exact trivial
                 | exact rfl
                 | (simp [A0]; done)
                 | (intro q; exact q)
                 | (intro q; simpa [A0] using q)
                 | (intro _; trivial)
                 | (show Region.lexB _ _ = true; kernel_rfl)
                 | (show turnsB _ = true; kernel_rfl)
                 | assumption
                 | exact okqM
                 | exact ha
                 | exact hb) ?_
          | ((with_reducible refine callB hX hB ?_); cbv; fail_if_success show False)
          | (refine pickL hX (t := true) (by rfl) rfl ?_; cbv)
          | (refine pickL hX (t := false) (by rfl) rfl ?_; cbv)
        repeat (refine And.intro (by
           first
             | (subst hA; exact rfl)
             | (subst hA; simp only [A0]; omega)
             | (subst hA; simp only [A0]; decide)
             | (subst hA; obtain ⟨bs, hbs, hl⟩ := hp; subst hbs; simp [A0, rowsB_length, bytesP_length]; done)) ?_)
        refine ⟨[(0, .d (.sc (.string a))), (1, .d (.sc (.string b))), (12, .d (.sc (.int .i64 0))), (13, .d (.slc 1 d)), (14, .d (.sc (.bool true))), (16, .d (.sc (.bool true))), (17, .d (.slc 1 d))], [dB n (.view 3 1 v17 0 n17) false false 0, fB c17 v17, ⟨5, [], false, 1, false⟩], ?_, ?_⟩
        · have hsz1 : ∀ x ∈ d, x.length = 1 := by
            rw [hdw]
            obtain ⟨bs, hbs, _⟩ := hp
            rw [hbs, bytesP_append]
            intro x hx
            simp only [bytesP, List.mem_map] at hx
            obtain ⟨_, _, rfl⟩ := hx
            rfl
          have hps : ∀ κ, pullL κ c17 = c17 := fun κ => by rw [hc17, pullL_eq]; exact pull_rows κ _
          have hfz : fzL 3 (0 + 1 + 1) 1 d c17 = c17 := by rw [fzF hc17, hc17]
          subst hA
          refine Told.trans (told_freeze (s' := [(0, .d (.sc (.string a))), (1, .d (.sc (.string b))), (12, .d (.sc (.int .i64 0))), (13, .d (.slc 1 d)), (14, .d (.sc (.bool true))), (16, .d (.sc (.bool true))), (17, .d (.slc 1 d))]) 3 1 d _ rfl rfl (Nat.le_refl 3) ?_ hsz1 rfl ?_) (told_keep [0, 1, 2] rfl ?_ ?_)
          · show [] ++ rowsD p ++ _ = _
            rw [hdw, rowsD_append]
            rfl
          · simp [toldP, getS, fzD, A0, hdw, bytesP_length]
            done
          · show _ = [dB n (.view 3 1 v17 0 n17) false false 0, fB (pullL [0, 1, 2] (fzL 3 (0 + 1 + 1) 1 d c17)) v17, ⟨5, [], false, 1, false⟩]
            rw [hfz, hps]
          · simp [toldP, getS, pullD]
            done
        · refine thenN ?_
          cbv
          with_reducible refine goL (T := fun _ => tabY [] []) (H := fun _ => [kn_rightN GFsNm, kn_runs GFsRu, kn_same GFsQ]) (tabY_ok _ _) hH follows_mixed hA hX ?_
          cbv
          repeat first
            | (simp only [f1, f2, f2b, f2c, f2d, f2e, f2f, f3, f4, f5, f6, f7, f8, f9, f10, f11, f12, f13, f14, f15, f16, hra, hrb, q1, q2, q3, q4, q5]; cbv)
            | refine And.intro (by
                 subst hA hX hW hFsQ hFsL hFsNm hFsRu
                 clear hH hB
                 first
                   | exact hb
                   | exact ha
                   | exact trivial
                   | exact rfl
                   | (simp [A0]; done)
                   | (intro q; exact q)
                   | (intro q; simpa [A0] using q)
                   | (intro _; trivial)
                   | (show Region.lexB _ _ = true; kernel_rfl)
                   | (show turnsB _ = true; kernel_rfl)
                   | assumption
                   | exact okqM
                   | exact ha
                   | exact hb) ?_
            | ((with_reducible refine callB hX hB ?_); cbv; fail_if_success show False)
            | (refine pickL hX (t := true) (by rfl) rfl ?_; cbv)
            | (refine pickL hX (t := false) (by rfl) rfl ?_; cbv)
          subst hA hX hW hFsQ hFsL hFsNm hFsRu
          exact ret_v rfl rfl
      · have q3 : (GFsL.find c17 a).2 = false := by
          subst hFsL
          show (findX c17 a).2 = _
          unfold findX
          rw [hc17, rowF_cells]
          rw [hL3]
          exact find_ne (fun e => hab e.symm) _ _
        cbv at q3
        have q4 : A.scmp .eql a b = false := by subst hA; exact decide_eq_false hab
        cbv at q4
        have hdw : d = p := by rw [hd, if_neg hab]
        have q5 : GFsQ.same d p = true := by
          subst hFsQ
          exact (sameB_eq _ _).2 hdw
        cbv at q5
        cbv
        repeat first
          | (simp only [f1, f2, f2b, f2c, f2d, f2e, f2f, f3, f4, f5, f6, f7, f8, f9, f10, f11, f12, f13, f14, f15, f16, hra, hrb, q1, q2, q3, q4, q5]; cbv)
          | refine And.intro (by
               subst hA hX hW hFsQ hFsL hFsNm hFsRu
               clear hH hB
               first
                 | exact hb
                 | exact ha
                 | exact trivial
                 | exact rfl
                 | (simp [A0]; done)
                 | (intro q; exact q)
                 | (intro q; simpa [A0] using q)
                 | (intro _; trivial)
                 | (show Region.lexB _ _ = true; kernel_rfl)
                 | (show turnsB _ = true; kernel_rfl)
                 | assumption
                 | exact okqM
                 | exact ha
                 | exact hb) ?_
          | ((with_reducible refine callB hX hB ?_); cbv; fail_if_success show False)
          | (refine pickL hX (t := true) (by rfl) rfl ?_; cbv)
          | (refine pickL hX (t := false) (by rfl) rfl ?_; cbv)
        with_reducible refine goL (T := fun _ => tabY [] []) (H := fun _ => [kn_rightN GFsNm, kn_runs GFsRu, kn_same GFsQ]) (tabY_ok _ _) hH follows_mixed hA hX ?_
        cbv
        repeat first
          | (simp only [f1, f2, f2b, f2c, f2d, f2e, f2f, f3, f4, f5, f6, f7, f8, f9, f10, f11, f12, f13, f14, f15, f16, hra, hrb, q1, q2, q3, q4, q5]; cbv)
          | refine And.intro (by
               subst hA hX hW hFsQ hFsL hFsNm hFsRu
               clear hH hB
               first
                 | exact hb
                 | exact ha
                 | exact trivial
                 | exact rfl
                 | (simp [A0]; done)
                 | (intro q; exact q)
                 | (intro q; simpa [A0] using q)
                 | (intro _; trivial)
                 | (show Region.lexB _ _ = true; kernel_rfl)
                 | (show turnsB _ = true; kernel_rfl)
                 | assumption
                 | exact okqM
                 | exact ha
                 | exact hb) ?_
          | ((with_reducible refine callB hX hB ?_); cbv; fail_if_success show False)
          | (refine pickL hX (t := true) (by rfl) rfl ?_; cbv)
          | (refine pickL hX (t := false) (by rfl) rfl ?_; cbv)
        subst hA hX hW hFsQ hFsL hFsNm hFsRu
        exact ret_v rfl rfl 
  · have h3 : A.cmp .gtr (A.len p) 300 = true := by
      subst hA
      simp only [A0, decide_eq_true_eq]
      show (300 : Int) < (p.length : Int)
      omega
    cbv at h3
    repeat first
      | (simp only [f1, f2, f2b, f2c, f2d, f2e, f2f, f3, f4, f5, f6, f7, f8, f9, f10, f11, f12, f13, f14, f15, f16, h3]; cbv)
      | refine And.intro (by
           subst hA hX hW hFsQ hFsL hFsNm hFsRu
           clear hH hB
           first
             | exact trivial
             | exact rfl
             | (simp [A0]; done)
             | (intro q; exact q)
             | (intro q; simpa [A0] using q)
             | (intro _; trivial)
             | (show Region.lexB _ _ = true; kernel_rfl)
             | (show turnsB _ = true; kernel_rfl)
             | assumption
             | exact okqM
             | exact ha
             | exact hb) ?_
      | ((with_reducible refine callB hX hB ?_); cbv; fail_if_success show False)
    subst hA hX hW hFsQ hFsL hFsNm hFsRu
    exact ret_v rfl rfl

end Go.Proofs.Ytmjmbfcfnhnpmaa
