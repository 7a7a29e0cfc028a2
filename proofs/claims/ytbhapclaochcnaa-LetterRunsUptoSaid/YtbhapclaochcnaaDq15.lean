/- Attributes as bytes, written and read. No condition. -/
import Derived.Test.YtbhapclaochcnaaDi15
namespace Go.Proofs.Ytbhapclaochcnaa
open Go.RowKit
set_option linter.all false
set_option maxHeartbeats 4000000

/-- The bytes of attributes. -/
def putD (a : Attr) : List UInt8 := numB a.seq ++ (numB a.d0 ++ (numB a.d1 ++ (numB a.d2 ++ (numB a.d3 ++ (numB a.d4 ++ (numB a.d5 ++ numB a.d6))))))
noncomputable def putA (xs : List (List PD)) (a : Attr) : List (List PD) := numX (numX (numX (numX (numX (numX (numX (numX xs a.seq) a.d0) a.d1) a.d2) a.d3) a.d4) a.d5) a.d6
def isBn (k : Nat) (xs : List (List PD)) : Prop := ∃ bs, xs = bytesP bs ∧ bs.length ≤ k
theorem isBn.le {k : Nat} {xs : List (List PD)} (h : isBn k xs) (hk : k ≤ 8000000) : isB xs := by
  obtain ⟨bs, h1, h2⟩ := h
  exact ⟨bs, h1, by omega⟩
theorem isBn.num {k : Nat} {xs : List (List PD)} (h : isBn k xs) (n : Int) : isBn (k + 10) (numX xs n) := by
  obtain ⟨bs, rfl, h2⟩ := h
  have := numB_length n
  exact ⟨bs ++ numB n, by simp only [numX, bytesP_append], by rw [List.length_append]; omega⟩
theorem putA_eq (xs : List (List PD)) (a : Attr) : putA xs a = xs ++ bytesP (putD a) := by
  simp only [putA, putD, numX, bytesP_append, List.append_assoc]
/-- Attributes, read. -/
def getN (xs : List (List PD)) (a w : Int) : Attr × Int × Int :=
  let r0 := numR xs a w
  let r1 := numR xs r0.2.1 r0.2.2
  let r2 := numR xs r1.2.1 r1.2.2
  let r3 := numR xs r2.2.1 r2.2.2
  let r4 := numR xs r3.2.1 r3.2.2
  let r5 := numR xs r4.2.1 r4.2.2
  let r6 := numR xs r5.2.1 r5.2.2
  let r7 := numR xs r6.2.1 r6.2.2
  (⟨r0.1, r1.1, r2.1, r3.1, r4.1, r5.1, r6.1, r7.1⟩, r7.2)
def getA (xs : List (List PD)) (a w : Int) : Attr × Int × Int :=
  let g := getN xs a w
  if g.2.2 = 0 then (if rightA g.1 = true then g else (zeroA, g.2.1, 4)) else (zeroA, g.2.1, g.2.2)
theorem getN_rd {xs : List (List PD)} {a w : Int} (h : isRd xs a w) : isRd xs (getN xs a w).2.1 (getN xs a w).2.2 := (num_rd (num_rd (num_rd (num_rd (num_rd (num_rd (num_rd (num_rd h).1).1).1).1).1).1).1).1
theorem getA_rd {xs : List (List PD)} {a w : Int} (h : isRd xs a w) : isRd xs (getA xs a w).2.1 (getA xs a w).2.2 := by
  have h1 := getN_rd h
  unfold getA
  simp only
  split
  · split
    · exact h1
    · exact ⟨h.1, h1.2.1, h1.2.2.1, by simp only; omega, by simp only; omega⟩
  · exact h1

structure FsDq where
  dput : List (List PD) → Attr → List (List PD)
  isBn : Nat → List (List PD) → Prop
  rAttr : Attr → Prop
  get : List (List PD) → Int → Int → Attr × Int × Int
  rd : List (List PD) → Int → Int → Prop
noncomputable def FsDq0 : FsDq where
  dput := putA
  isBn := isBn
  rAttr := rAttr
  get := getA
  rd := isRd
set_option maxRecDepth 100000 in
theorem v_dput (xs : List (List PD)) (a : Attr) (hp0 : FsDq0.isBn 4000000 xs) (hp1 : FsDq0.rAttr a) : FnV Try.prog 34 [.d (.slc 1 xs), Attr.D a] (.d (.slc 1 (putA xs a))) := by
  obtain ⟨a_seq, a_d0, a_d1, a_d2, a_d3, a_d4, a_d5, a_d6⟩ := a
  obtain ⟨GFsQ, hGFsQ⟩ : ∃ F, F = FsQ0 := ⟨_, rfl⟩
  have hH : SoundK Try.prog [kn_num GFsQ] := by subst hGFsQ; exact orK_ok ok_num noK_ok
  refine FnD_cbv (T := fun _ => tabY [5003] []) (H := fun _ => [kn_num GFsQ]) (tabY_ok _ _) hH follows_mixed Try.func34 rfl Try.ntmps34 (by simp) fun A X W hA hX hW => ?_
  cbv
  have l0 : A.cmp .lss 0 7 = true := by subst hA; rfl
  cbv at l0
  have l1 : A.cmp .lss 1 7 = true := by subst hA; rfl
  cbv at l1
  have l2 : A.cmp .lss 2 7 = true := by subst hA; rfl
  cbv at l2
  have l3 : A.cmp .lss 3 7 = true := by subst hA; rfl
  cbv at l3
  have l4 : A.cmp .lss 4 7 = true := by subst hA; rfl
  cbv at l4
  have l5 : A.cmp .lss 5 7 = true := by subst hA; rfl
  cbv at l5
  have l6 : A.cmp .lss 6 7 = true := by subst hA; rfl
  cbv at l6
  have l7 : A.cmp .lss 7 7 = false := by subst hA; rfl
  cbv at l7
  have b0 : A.bin .add .i64 0 1 = 1 := by subst hA; rfl
  cbv at b0
  have b1 : A.bin .add .i64 1 1 = 2 := by subst hA; rfl
  cbv at b1
  have b2 : A.bin .add .i64 2 1 = 3 := by subst hA; rfl
  cbv at b2
  have b3 : A.bin .add .i64 3 1 = 4 := by subst hA; rfl
  cbv at b3
  have b4 : A.bin .add .i64 4 1 = 5 := by subst hA; rfl
  cbv at b4
  have b5 : A.bin .add .i64 5 1 = 6 := by subst hA; rfl
  cbv at b5
  have b6 : A.bin .add .i64 6 1 = 7 := by subst hA; rfl
  cbv at b6
  have o0_0 : A.off 0 0 1 = 0 := by subst hA; rfl
  cbv at o0_0
  have o0_1 : A.off 0 1 1 = 1 := by subst hA; rfl
  cbv at o0_1
  have o0_2 : A.off 0 2 1 = 2 := by subst hA; rfl
  cbv at o0_2
  have o0_3 : A.off 0 3 1 = 3 := by subst hA; rfl
  cbv at o0_3
  have o0_4 : A.off 0 4 1 = 4 := by subst hA; rfl
  cbv at o0_4
  have o0_5 : A.off 0 5 1 = 5 := by subst hA; rfl
  cbv at o0_5
  have o0_6 : A.off 0 6 1 = 6 := by subst hA; rfl
  cbv at o0_6
  refine And.intro ?_ (And.intro ?_ ?_)
  rotate_left 2
  refine unrollL (T := fun _ => tabY [5003] []) (H := fun _ => [kn_num GFsQ]) (tabY_ok _ _) hH follows_mixed hA hX 8 fun R hR => ?_
  repeat' first
    | (simp only [l0, l1, l2, l3, l4, l5, l6, l7, b0, b1, b2, b3, b4, b5, b6, o0_0, o0_1, o0_2, o0_3, o0_4, o0_5, o0_6, decide_true]; cbv)
    | (refine part (fun h => ?_) (fun h => ?_) <;> try cbv)
    | (refine And.intro ?_ ?_)
    | (refine hR _ _ _ ?_; cbv)
  all_goals clear l0 l1 l2 l3 l4 l5 l6 l7 b0 b1 b2 b3 b4 b5 b6 o0_0 o0_1 o0_2 o0_3 o0_4 o0_5 o0_6 hH
  all_goals try clear hR
  all_goals subst hA hX hW hGFsQ
  all_goals have b0 : isBn 4000000 xs := hp0
  all_goals have b1 := b0.num a_seq
  all_goals have b2 := b1.num a_d0
  all_goals have b3 := b2.num a_d1
  all_goals have b4 := b3.num a_d2
  all_goals have b5 := b4.num a_d3
  all_goals have b6 := b5.num a_d4
  all_goals have b7 := b6.num a_d5
  all_goals obtain ⟨k0, k1, k2, k3, k4, k5, k6, k7⟩ := hp1
  all_goals simp only at k0 k1 k2 k3 k4 k5 k6 k7
  all_goals try simp only [A0, nc, FsQ0, List.getElem?_cons_zero, List.getElem?_cons_succ]
  all_goals first
    | exact ⟨by decide, by decide⟩
    | exact b0.le (by omega)
    | exact b1.le (by omega)
    | exact b2.le (by omega)
    | exact b3.le (by omega)
    | exact b4.le (by omega)
    | exact b5.le (by omega)
    | exact b6.le (by omega)
    | exact b7.le (by omega)
    | assumption
    | (simp; done)
    | (refine ret_v ?_ rfl; rfl)
def kn_dput (F : FsDq) : FuncId × (List DV → RV) := (34, fun args => match args with
  | [.d (.slc 1 xs), .agg [.d (.sc (.int .i64 a_seq)), .d (.sc (.int .i64 a_d0)), .d (.sc (.int .i64 a_d1)), .d (.sc (.int .i64 a_d2)), .d (.sc (.int .i64 a_d3)), .d (.sc (.int .i64 a_d4)), .d (.sc (.int .i64 a_d5)), .d (.sc (.int .i64 a_d6))]] => some ([F.isBn 4000000 xs, F.rAttr ⟨a_seq, a_d0, a_d1, a_d2, a_d3, a_d4, a_d5, a_d6⟩], .d (.slc 1 (F.dput xs ⟨a_seq, a_d0, a_d1, a_d2, a_d3, a_d4, a_d5, a_d6⟩)))
  | [.d (.sc (.slice none 0 0)), .agg [.d (.sc (.int .i64 a_seq)), .d (.sc (.int .i64 a_d0)), .d (.sc (.int .i64 a_d1)), .d (.sc (.int .i64 a_d2)), .d (.sc (.int .i64 a_d3)), .d (.sc (.int .i64 a_d4)), .d (.sc (.int .i64 a_d5)), .d (.sc (.int .i64 a_d6))]] => some ([F.isBn 4000000 [], F.rAttr ⟨a_seq, a_d0, a_d1, a_d2, a_d3, a_d4, a_d5, a_d6⟩], .d (.slc 1 (F.dput [] ⟨a_seq, a_d0, a_d1, a_d2, a_d3, a_d4, a_d5, a_d6⟩)))
  | _ => none)
theorem ok_dput (args : List DV) (cs : List Prop) (r : DV) (h : (kn_dput FsDq0).2 args = some (cs, r)) (hc : allP cs True) : FnV Try.prog 34 args r ∧ closedL 0 args = true := by
  unfold kn_dput at h
  simp only at h
  split at h
  · cases h; exact ⟨v_dput _ ⟨_, _, _, _, _, _, _, _⟩ hc.1 hc.2.1, rfl⟩
  · cases h; exact ⟨FnP.nils (v_dput [] ⟨_, _, _, _, _, _, _, _⟩ hc.1 hc.2.1) ⟨.inr ⟨rfl, _, rfl⟩, ⟨.inl rfl, trivial⟩⟩, rfl⟩
  · cases h
set_option maxRecDepth 100000 in
theorem v_dGet (xs : List (List PD)) (a w : Int) (hp0 : FsDq0.rd xs a w) : FnD Try.prog 69 [.ref 0 0 0] [rdB 95 xs a w] (fun r st' => r = Attr.D ((FsDq0.get xs a w).1) ∧ st' = [rdB 95 xs (FsDq0.get xs a w).2.1 (FsDq0.get xs a w).2.2]) := by
  obtain ⟨GFsA, hFsA⟩ : ∃ F, F = FsA0 := ⟨_, rfl⟩
  obtain ⟨GFsR, hFsR⟩ : ∃ F, F = FsR0 := ⟨_, rfl⟩
  have hH : SoundK Try.prog [kn_rightA GFsA] := by subst hFsA hFsR; exact orK_ok ok_rightA noK_ok
  have hB : SoundB Try.prog [kb_pNum GFsR, kb_pwrong GFsR, kb_pFail GFsR] := by subst hFsA hFsR; exact orB_ok okb_pNum (orB_ok okb_pwrong (orB_ok okb_pFail noB_ok))
  refine FnD_cbv (T := fun _ => tabY [5003] []) (H := fun _ => [kn_rightA GFsA]) (tabY_ok _ _) hH follows_mixed Try.func69 rfl Try.ntmps69 (by simp) fun A X W hA hX hW => ?_
  cbv
  have l0 : A.cmp .lss 0 7 = true := by subst hA; rfl
  cbv at l0
  have l1 : A.cmp .lss 1 7 = true := by subst hA; rfl
  cbv at l1
  have l2 : A.cmp .lss 2 7 = true := by subst hA; rfl
  cbv at l2
  have l3 : A.cmp .lss 3 7 = true := by subst hA; rfl
  cbv at l3
  have l4 : A.cmp .lss 4 7 = true := by subst hA; rfl
  cbv at l4
  have l5 : A.cmp .lss 5 7 = true := by subst hA; rfl
  cbv at l5
  have l6 : A.cmp .lss 6 7 = true := by subst hA; rfl
  cbv at l6
  have l7 : A.cmp .lss 7 7 = false := by subst hA; rfl
  cbv at l7
  have b0 : A.bin .add .i64 0 1 = 1 := by subst hA; rfl
  cbv at b0
  have b1 : A.bin .add .i64 1 1 = 2 := by subst hA; rfl
  cbv at b1
  have b2 : A.bin .add .i64 2 1 = 3 := by subst hA; rfl
  cbv at b2
  have b3 : A.bin .add .i64 3 1 = 4 := by subst hA; rfl
  cbv at b3
  have b4 : A.bin .add .i64 4 1 = 5 := by subst hA; rfl
  cbv at b4
  have b5 : A.bin .add .i64 5 1 = 6 := by subst hA; rfl
  cbv at b5
  have b6 : A.bin .add .i64 6 1 = 7 := by subst hA; rfl
  cbv at b6
  have o0_0 : A.off 0 0 1 = 0 := by subst hA; rfl
  cbv at o0_0
  have o0_1 : A.off 0 1 1 = 1 := by subst hA; rfl
  cbv at o0_1
  have o0_2 : A.off 0 2 1 = 2 := by subst hA; rfl
  cbv at o0_2
  have o0_3 : A.off 0 3 1 = 3 := by subst hA; rfl
  cbv at o0_3
  have o0_4 : A.off 0 4 1 = 4 := by subst hA; rfl
  cbv at o0_4
  have o0_5 : A.off 0 5 1 = 5 := by subst hA; rfl
  cbv at o0_5
  have o0_6 : A.off 0 6 1 = 6 := by subst hA; rfl
  cbv at o0_6
  refine callB hX hB ?_
  cbv
  refine And.intro ?_ ?_
  rotate_left 1
  refine unrollL (T := fun _ => tabY [5003] []) (H := fun _ => [kn_rightA GFsA]) (tabY_ok _ _) hH follows_mixed hA hX 8 fun R hR => ?_
  cbv
  repeat' first
    | (simp only [l0, l1, l2, l3, l4, l5, l6, l7, b0, b1, b2, b3, b4, b5, b6, o0_0, o0_1, o0_2, o0_3, o0_4, o0_5, o0_6, decide_true]; cbv)
    | (refine part (fun h => ?_) (fun h => ?_) <;> try cbv)
    | (refine And.intro ?_ ?_)
    | ((with_reducible refine callB hX hB ?_) <;> cbv)
    | (refine hR _ _ _ ?_; cbv)
  all_goals try clear hR
  all_goals clear l0 l1 l2 l3 l4 l5 l6 l7 b0 b1 b2 b3 b4 b5 b6 o0_0 o0_1 o0_2 o0_3 o0_4 o0_5 o0_6 hH hB
  all_goals subst hA hX hW hFsA hFsR
  all_goals simp only [A0, nc, FsA0, FsR0, decide_eq_true_eq, decide_eq_false_iff_not, Bool.not_eq_true', Bool.not_eq_false'] at *
  all_goals have h0 := (num_rd hp0).1
  all_goals generalize e0 : numR xs a w = q at *
  all_goals obtain ⟨n0, a0, w0⟩ := q
  all_goals try simp only at *
  all_goals have h1 := (num_rd h0).1
  all_goals generalize e1 : numR xs a0 w0 = q at *
  all_goals obtain ⟨n1, a1, w1⟩ := q
  all_goals try simp only at *
  all_goals have h2 := (num_rd h1).1
  all_goals generalize e2 : numR xs a1 w1 = q at *
  all_goals obtain ⟨n2, a2, w2⟩ := q
  all_goals try simp only at *
  all_goals have h3 := (num_rd h2).1
  all_goals generalize e3 : numR xs a2 w2 = q at *
  all_goals obtain ⟨n3, a3, w3⟩ := q
  all_goals try simp only at *
  all_goals have h4 := (num_rd h3).1
  all_goals generalize e4 : numR xs a3 w3 = q at *
  all_goals obtain ⟨n4, a4, w4⟩ := q
  all_goals try simp only at *
  all_goals have h5 := (num_rd h4).1
  all_goals generalize e5 : numR xs a4 w4 = q at *
  all_goals obtain ⟨n5, a5, w5⟩ := q
  all_goals try simp only at *
  all_goals have h6 := (num_rd h5).1
  all_goals generalize e6 : numR xs a5 w5 = q at *
  all_goals obtain ⟨n6, a6, w6⟩ := q
  all_goals try simp only at *
  all_goals have h7 := (num_rd h6).1
  all_goals generalize e7 : numR xs a6 w6 = q at *
  all_goals obtain ⟨n7, a7, w7⟩ := q
  all_goals try simp only at *
  all_goals first
    | assumption
    | exact fail_rd ‹_›
    | (intros; first | assumption | trivial | (simp_all; done))
    | (exfalso; simp_all; done)
    | (refine ret_keep [0] rfl ⟨?_, ?_⟩ <;> (simp_all [FsDq0, pullD, pullL, keepSt, pullBox, getA, getN, failR, Attr.D, zeroA, intD, strD]; done))
def kb_dGet (F : FsDq) : FuncId × (List DV → Store → SV) := (69, fun args st => match args with
  | [.ref b ver o] => (match st[b]? with
    | some ⟨t, [.d (.slc 1 xs), .d (.sc (.int .i64 a)), .d (.sc (.int .i64 w))], false, v, true⟩ => (bif (ver == 0) && (o == 0) && (v == 0) && (t == 95) then some ([F.rd xs a w], Attr.D ((F.get xs a w).1), st.set b (rdB 95 xs (F.get xs a w).2.1 (F.get xs a w).2.2)) else none)
    | _ => none)
  | _ => none)
theorem okb_dGet (args : List DV) (st : Store) (cs : List Prop) (r : DV) (st' : Store) (h : (kb_dGet FsDq0).2 args st = some (cs, r, st')) (hc : allP cs True) (K : DV → Store → Prop) (hk : K r st') : FnD Try.prog 69 args st K := by
  unfold kb_dGet at h
  simp only at h
  split at h
  · split at h
    · rename_i hb
      simp only [cond_eq_ite, Bool.and_eq_true, beq_iff_eq, Option.ite_none_right_eq_some] at h
      obtain ⟨⟨⟨⟨rfl, rfl⟩, rfl⟩, rfl⟩, h⟩ := h
      cases h
      exact FnD.one _ (v_dGet _ _ _ hc.1) hb rfl rfl rfl rfl hk
    · cases h
  · cases h
end Go.Proofs.Ytbhapclaochcnaa
