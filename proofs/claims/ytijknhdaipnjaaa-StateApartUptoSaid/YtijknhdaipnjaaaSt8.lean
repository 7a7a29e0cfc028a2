/- Gets and ranges tell what is there. No condition. -/
import Derived.Test.YtijknhdaipnjaaaSp1
import Derived.Test.YtijknhdaipnjaaaSt7
namespace Go.Proofs.Ytijknhdaipnjaaa
open Go.RowKit
set_option linter.all false
set_option maxHeartbeats 4000000
def shortX (xs : List (List PD)) : List (List PD) := if 60 < xs.length then xs.take 60 else xs
theorem isC.short {xs : List (List PD)} (h : isC xs) : isC (shortX xs) := by
  unfold shortX
  split
  · obtain ⟨l, rfl, hl⟩ := h
    exact ⟨l.take 60, by simp [cmdsX], by rw [List.length_take]; omega⟩
  · exact h
theorem short_len (xs : List (List PD)) : (shortX xs).length ≤ 60 := by
  unfold shortX
  split
  · rw [List.length_take]; omega
  · omega

structure FsSh where
  short : List (List PD) → List (List PD)
  isC : List (List PD) → Prop
def FsSh0 : FsSh where
  short := shortX
  isC := isC
set_option maxRecDepth 100000 in
theorem v_short (xs : List (List PD)) (hp0 : FsSh0.isC xs) : FnV Try.prog 14 [.d (.slc 7 xs)] (.d (.slc 7 (shortX xs))) := by
  refine FnD_cbv (T := fun _ => tabY [] []) (H := fun _ => []) (tabY_ok _ _) noK_ok follows_mixed Try.func14 rfl Try.ntmps14 (by simp) fun A X W hA hX hW => ?_
  cbv
  obtain ⟨l, hxs, hl⟩ := hp0
  have hlen : xs.length = l.length := by rw [hxs]; simp [cmdsX]
  repeat' first
    | (refine part (fun h => ?_) (fun h => ?_) <;> try cbv)
    | (refine And.intro ?_ ?_)
  all_goals subst hA hX hW
  all_goals simp only [A0, nc, decide_eq_true_eq, decide_eq_false_iff_not] at *
  all_goals first
    | omega
    | (refine ret_v ?_ rfl
       unfold shortX
       first
         | (rw [if_pos (by omega)]; rfl)
         | (rw [if_neg (by omega)]))
    | fail
def kn_short (F : FsSh) : FuncId × (List DV → RV) := (14, fun args => match args with
  | [.d (.slc 7 xs)] => some ([F.isC xs], .d (.slc 7 (F.short xs)))
  | [.d (.sc (.slice none 0 0))] => some ([F.isC []], .d (.slc 7 (F.short [])))
  | _ => none)
theorem ok_short (args : List DV) (cs : List Prop) (r : DV) (h : (kn_short FsSh0).2 args = some (cs, r)) (hc : allP cs True) : FnV Try.prog 14 args r ∧ closedL 0 args = true := by
  unfold kn_short at h
  simp only at h
  split at h
  · cases h; exact ⟨v_short _ hc.1, rfl⟩
  · cases h; exact ⟨FnP.nils (v_short [] hc.1) ⟨.inr ⟨rfl, _, rfl⟩, trivial⟩, rfl⟩
  · cases h
theorem play0 {xs : List (List PD)} (h : isC xs) : ∃ ps os rs, playX Z49 (shortX xs) = (cellsS ps os, repsX rs) ∧ okSt 60 ps os := by
  obtain ⟨l, e, _⟩ := h.short
  have hl := short_len xs
  have hz : upS Z49 = cellsS [] (List.replicate 8 ⟨0, zeroRep⟩) := rfl
  have h60 : l.length ≤ 60 := by rw [e] at hl; simpa [cmdsX] using hl
  obtain ⟨qs, rs, e2, h2⟩ := playL_st l [] zero_st (by decide) (by omega)
  refine ⟨qs, rs, (playL (upS Z49) l []).2, ?_, h2.mono (by omega)⟩
  unfold playX
  rw [e, cmdsOf_X, hz, e2]
/-- The head of a state's cells. -/
theorem cells_head {k : Int} {ps : List Pair} {os : List Owner} (h : okSt k ps os) : ∃ cs, cellsS ps os = .d (.slc 3 (pairsX ps)) :: .d (.sc (.int .i64 (ownAt os 1).seq)) :: cs := by
  obtain ⟨a, b, c, d, e, f, g, i, rfl⟩ := list8 h.2.1
  exact ⟨_, rfl⟩
theorem reads_ok {xs : List (List PD)} (h : isC xs) (key lo hi : ByteArray) : ∃ ps sq cs rr, playX Z49 (shortX xs) = (.d (.slc 3 (pairsX ps)) :: .d (.sc (.int .i64 sq)) :: cs, rr) ∧ isP (pairsX ps) ∧ isSt (.d (.slc 3 (pairsX ps)) :: .d (.sc (.int .i64 sq)) :: cs) ∧
    (∃ p1 s1 c1 r1, applyS (.d (.slc 3 (pairsX ps)) :: .d (.sc (.int .i64 sq)) :: cs) ⟨1, 1, IntKind.wrap .i64 (sq + 1), key, none8, none8, none8⟩ = (.d (.slc 3 p1) :: .d (.sc (.int .i64 s1)) :: c1, r1) ∧ isP p1 ∧ isSt (.d (.slc 3 p1) :: .d (.sc (.int .i64 s1)) :: c1) ∧
      (rightC ⟨1, 1, IntKind.wrap .i64 (sq + 1), key, none8, none8, none8⟩ = true → p1 = pairsX ps ∧ r1 = ⟨0, (getP (pairsX ps) key).2, (getP (pairsX ps) key).1.value, (getP (pairsX ps) key).1.version, []⟩)) ∧
    (∃ p2 s2 c2 r2, applyS (.d (.slc 3 (pairsX ps)) :: .d (.sc (.int .i64 sq)) :: cs) ⟨5, 1, IntKind.wrap .i64 (sq + 1), lo, hi, none8, none8⟩ = (.d (.slc 3 p2) :: .d (.sc (.int .i64 s2)) :: c2, r2) ∧ isP p2 ∧ isP r2.pairs ∧ isSt (.d (.slc 3 p2) :: .d (.sc (.int .i64 s2)) :: c2) ∧
      (rightC ⟨5, 1, IntKind.wrap .i64 (sq + 1), lo, hi, none8, none8⟩ = true → p2 = pairsX ps ∧ s2 = IntKind.wrap .i64 (sq + 1) ∧ r2 = ⟨0, (rangeX (pairsX ps) ⟨lo, hi⟩).2, none8, 0, (rangeX (pairsX ps) ⟨lo, hi⟩).1⟩)) := by
  obtain ⟨ps, os, rs, e, hok⟩ := play0 h
  obtain ⟨cs, ec⟩ := cells_head hok
  have hseq := hok.2.2 _ (ownAt_mem hok.2.1 (client := 1) (by decide) (by decide))
  have hw : IntKind.wrap .i64 ((ownAt os 1).seq + 1) = (ownAt os 1).seq + 1 := wrap_i64 (by unfold r64; have := hseq.1; have := hseq.2.1; omega)
  refine ⟨ps, (ownAt os 1).seq, cs, repsX rs, by rw [e, ec], hok.1.isP, by rw [← ec]; exact hok.is, ?_, ?_⟩
  · obtain ⟨qs, ro, ea, hb⟩ := apply_ok hok (by decide) (by decide) ⟨1, 1, IntKind.wrap .i64 ((ownAt os 1).seq + 1), key, none8, none8, none8⟩
    obtain ⟨ds, ed⟩ := cells_head hb
    rw [ed] at ea
    refine ⟨pairsX qs, (ownAt ro 1).seq, ds, (applyS (cellsS ps os) ⟨1, 1, IntKind.wrap .i64 ((ownAt os 1).seq + 1), key, none8, none8, none8⟩).2, ?_, hb.1.isP, by rw [← ed]; exact hb.is, fun hr => ?_⟩
    · rw [← ec]; exact Prod.ext ea rfl
    · have hz : ¬ (⟨1, 1, IntKind.wrap .i64 ((ownAt os 1).seq + 1), key, none8, none8, none8⟩ : Cmd) = .zero := fun e => by injection e with e1; exact absurd e1 (by decide)
      rcases apply_cases hok (by decide) (by decide) ⟨1, 1, IntKind.wrap .i64 ((ownAt os 1).seq + 1), key, none8, none8, none8⟩ with ⟨k1, _⟩ | ⟨_, k2, _⟩ | ⟨_, _, k3, _⟩ | ⟨_, _, k3, _⟩ | ⟨_, _, k3, q2, r2, k4, _, _, k6, k5⟩
      · exact absurd k1 hz
      · rw [hr] at k2; cases k2
      · rw [hw] at k3
        replace k3 : (ownAt os 1).seq + 1 = (ownAt os 1).seq := k3
        omega
      · rw [hw] at k3
        replace k3 : (ownAt os 1).seq + 1 < (ownAt os 1).seq := k3
        omega
      · have hq : q2 = ps := k6 rfl
        subst hq
        have hd : doneX (pairsX q2) ⟨1, 1, IntKind.wrap .i64 ((ownAt os 1).seq + 1), key, none8, none8, none8⟩ = (pairsX q2, ⟨0, (getP (pairsX q2) key).2, (getP (pairsX q2) key).1.value, (getP (pairsX q2) key).1.version, []⟩) := rfl
        rw [hd] at k4
        injection k4 with k7 k8
        rw [k5] at ea ⊢
        refine ⟨?_, k8.symm⟩
        have e9 : cellsS q2 (os.set ((1 : Int) - 1).toNat ⟨IntKind.wrap .i64 ((ownAt os 1).seq + 1), r2⟩) = .d (.slc 3 (pairsX qs)) :: .d (.sc (.int .i64 (ownAt ro 1).seq)) :: ds := ea
        have e10 := List.head_eq_of_cons_eq e9
        injection e10 with e11
        injection e11 with _ e12
        exact e12.symm
  · obtain ⟨qs, ro, ea, hb⟩ := apply_ok hok (by decide) (by decide) ⟨5, 1, IntKind.wrap .i64 ((ownAt os 1).seq + 1), lo, hi, none8, none8⟩
    obtain ⟨ds, ed⟩ := cells_head hb
    rw [ed] at ea
    refine ⟨pairsX qs, (ownAt ro 1).seq, ds, (applyS (cellsS ps os) ⟨5, 1, IntKind.wrap .i64 ((ownAt os 1).seq + 1), lo, hi, none8, none8⟩).2, ?_, hb.1.isP, hok.is.rep _, by rw [← ed]; exact hb.is, fun hr => ?_⟩
    · rw [← ec]; exact Prod.ext ea rfl
    · have hz : ¬ (⟨5, 1, IntKind.wrap .i64 ((ownAt os 1).seq + 1), lo, hi, none8, none8⟩ : Cmd) = .zero := fun e => by injection e with e1; exact absurd e1 (by decide)
      rcases apply_cases hok (by decide) (by decide) ⟨5, 1, IntKind.wrap .i64 ((ownAt os 1).seq + 1), lo, hi, none8, none8⟩ with ⟨k1, _⟩ | ⟨_, k2, _⟩ | ⟨_, _, k3, _⟩ | ⟨_, _, k3, _⟩ | ⟨_, _, k3, q2, r2, k4, _, _, k6, k5⟩
      · exact absurd k1 hz
      · rw [hr] at k2; cases k2
      · rw [hw] at k3
        replace k3 : (ownAt os 1).seq + 1 = (ownAt os 1).seq := k3
        omega
      · rw [hw] at k3
        replace k3 : (ownAt os 1).seq + 1 < (ownAt os 1).seq := k3
        omega
      · have hq : q2 = ps := k6 rfl
        subst hq
        have hd : doneX (pairsX q2) ⟨5, 1, IntKind.wrap .i64 ((ownAt os 1).seq + 1), lo, hi, none8, none8⟩ = (pairsX q2, ⟨0, (rangeX (pairsX q2) ⟨lo, hi⟩).2, none8, 0, (rangeX (pairsX q2) ⟨lo, hi⟩).1⟩) := rfl
        rw [hd] at k4
        injection k4 with k7 k8
        rw [k5] at ea ⊢
        obtain ⟨o0, o1, o2, o3, o4, o5, o6, o7, eos⟩ := list8 hok.2.1
        subst eos
        have e9 : (.d (.slc 3 (pairsX q2)) :: .d (.sc (.int .i64 (IntKind.wrap .i64 ((ownAt [o0, o1, o2, o3, o4, o5, o6, o7] 1).seq + 1)))) :: _ : List DV) = .d (.slc 3 (pairsX qs)) :: .d (.sc (.int .i64 (ownAt ro 1).seq)) :: ds := ea
        have e10 := List.head_eq_of_cons_eq e9
        have e13 := List.head_eq_of_cons_eq (List.tail_eq_of_cons_eq e9)
        injection e10 with e11
        injection e11 with _ e12
        injection e13 with e14
        injection e14 with e15
        injection e15 with _ e16
        exact ⟨e12.symm, e16.symm, k8.symm⟩

end Go.Proofs.Ytijknhdaipnjaaa
