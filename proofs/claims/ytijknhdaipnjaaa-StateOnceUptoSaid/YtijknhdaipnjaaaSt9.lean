/- Gets and ranges tell what is there: the law over plain data. No condition but sizes. -/
import Derived.Test.YtijknhdaipnjaaaSt8
namespace Go.Proofs.Ytijknhdaipnjaaa
open Go.RowKit
set_option linter.all false
set_option maxHeartbeats 4000000
theorem sameX_refl (xs : List (List PD)) : sameX xs xs = true := by simp [sameX]

structure FsS9 where
  isC : List (List PD) → Prop
def FsS90 : FsS9 where
  isC := isC
set_option maxRecDepth 100000 in
theorem v_reads (xs : List (List PD)) (key : ByteArray) (lo : ByteArray) (hi : ByteArray) (hp0 : FsS90.isC xs) : FnV Try.prog 4 [.d (.slc 7 xs), strD key, strD lo, strD hi] (boolD (((fun (_ : List (List PD)) (_ _ _ : ByteArray) => true) xs key lo hi))) := by
  obtain ⟨ps, sq, cs, rr, ep, hps, hst, ⟨p1, s1, c1, r1, ea, h1p, h1s, hf1⟩, ⟨p2, s2, c2, r2, eb, h2p, h2r, h2s, hf2⟩⟩ := reads_ok hp0 key lo hi
  obtain ⟨nx, hnx⟩ : ∃ nx, nx = IntKind.wrap .i64 (sq + 1) := ⟨_, rfl⟩
  obtain ⟨x0, hx0⟩ : ∃ x0, x0 = pairsX ps := ⟨_, rfl⟩
  rw [← hnx] at ea eb hf1 hf2
  rw [← hx0] at ep hps hst ea hf1 eb hf2
  have hsh := hp0.short
  have hl1 := h1s.len
  have hl2 := h2s.len
  have hl0 := hst.len
  obtain ⟨w1, f1, v1, n1, q1⟩ := r1
  obtain ⟨w2, f2, v2, n2, q2⟩ := r2
  obtain ⟨GFsSh, hGFsSh⟩ : ∃ F, F = FsSh0 := ⟨_, rfl⟩
  obtain ⟨GFsS6, hGFsS6⟩ : ∃ F, F = FsS60 := ⟨_, rfl⟩
  obtain ⟨GFs5, hGFs5⟩ : ∃ F, F = Fs50 := ⟨_, rfl⟩
  obtain ⟨GFsS5, hGFsS5⟩ : ∃ F, F = FsS50 := ⟨_, rfl⟩
  obtain ⟨GFsE, hGFsE⟩ : ∃ F, F = FsE0 := ⟨_, rfl⟩
  obtain ⟨GFsF, hGFsF⟩ : ∃ F, F = FsF0 := ⟨_, rfl⟩
  obtain ⟨GFsS, hGFsS⟩ : ∃ F, F = FsS0 := ⟨_, rfl⟩
  obtain ⟨GFsS7, hGFsS7⟩ : ∃ F, F = FsS70 := ⟨_, rfl⟩
  have hH : SoundK Try.prog [kn_short GFsSh, kn_play GFsS6, kn_cright GFs5, kn_apply GFsS5, kn_getR GFsE, kn_rangeR GFsF, kn_same GFsS, kn_runs GFsS7] := by subst hGFsSh hGFsS6 hGFs5 hGFsS5 hGFsE hGFsF hGFsS hGFsS7; exact orK_ok ok_short (orK_ok ok_play (orK_ok ok_cright (orK_ok ok_apply (orK_ok ok_getR (orK_ok ok_rangeR (orK_ok ok_same (orK_ok ok_runs noK_ok)))))))
  refine FnD_cbv (T := fun _ => tabY [1027, 1009, 1054, 1060, 5003, 5004] [2, 8, 9]) (H := fun _ => [kn_short GFsSh, kn_play GFsS6, kn_cright GFs5, kn_apply GFsS5, kn_getR GFsE, kn_rangeR GFsF, kn_same GFsS, kn_runs GFsS7]) (tabY_ok _ _) hH follows_mixed Try.func4 rfl Try.ntmps4 (by simp) fun A X W hA hX hW => ?_
  cbv
  have e0 : A.bin .add .i64 sq 1 = nx := by subst hA; exact hnx.symm
  have e1 : GFsS6.play Z49 (GFsSh.short xs) = ((.d (.slc 3 x0) :: .d (.sc (.int .i64 sq)) :: cs), rr) := by subst hGFsS6 hGFsSh; exact ep
  have e2 : GFsS5.apply (.d (.slc 3 x0) :: .d (.sc (.int .i64 sq)) :: cs) ⟨1, 1, nx, key, none8, none8, none8⟩ = (.d (.slc 3 p1) :: .d (.sc (.int .i64 s1)) :: c1, ⟨w1, f1, v1, n1, q1⟩) := by subst hGFsS5; exact ea
  have e3 : GFsS5.apply (.d (.slc 3 x0) :: .d (.sc (.int .i64 sq)) :: cs) ⟨5, 1, nx, lo, hi, none8, none8⟩ = (.d (.slc 3 p2) :: .d (.sc (.int .i64 s2)) :: c2, ⟨w2, f2, v2, n2, q2⟩) := by subst hGFsS5; exact eb
  cbv at e0
  cbv at e1
  cbv at e2
  cbv at e3
  simp only [e1]
  repeat' first
    | (refine part (fun h => ?_) (fun h => ?_) <;> try cbv)
    | (refine And.intro ?_ ?_)
    | (simp only [e0, e2, e3]; (with_reducible refine goL (T := fun _ => tabY [1027, 1009, 1054, 1060, 5003, 5004] []) (H := fun _ => [kn_short GFsSh, kn_play GFsS6, kn_cright GFs5, kn_apply GFsS5, kn_getR GFsE, kn_rangeR GFsF, kn_same GFsS, kn_runs GFsS7]) (tabY_ok _ _) hH follows_mixed hA hX ?_) <;> cbv)
    | ((with_reducible refine goL (T := fun _ => tabY [1027, 1009, 1054, 1060, 5003, 5004] []) (H := fun _ => [kn_short GFsSh, kn_play GFsS6, kn_cright GFs5, kn_apply GFsS5, kn_getR GFsE, kn_rangeR GFsF, kn_same GFsS, kn_runs GFsS7]) (tabY_ok _ _) hH follows_mixed hA hX ?_) <;> cbv)
  all_goals subst hA hX hW hGFsSh hGFsS6 hGFs5 hGFsS5 hGFsE hGFsF hGFsS hGFsS7
  all_goals clear hH
  all_goals first
    | exact rfl
    | (show Region.lexB _ _ = true; kernel_rfl)
    | (show turnsB _ = true; kernel_rfl)
    | exact hp0
    | exact hsh
    | exact z49
    | exact hst
    | exact hps
    | (show List.length _ = 49 * 1; exact hl0)
    | (show List.length _ = 49 * 1; rw [e2]; exact hl1)
    | (show List.length _ = 49 * 1; rw [e3]; exact hl2)
    | (have e4 : A0.bin .add .i64 sq 1 = nx := hnx.symm
       show List.length (applyS _ ⟨1, 1, A0.bin .add .i64 sq 1, key, none8, none8, none8⟩).1 = 49 * 1
       rw [e4, ea]
       exact hl1)
    | (show List.length (applyS _ ⟨5, 1, nx, lo, hi, none8, none8⟩).1 = 49 * 1
       rw [eb]
       exact hl2)
    | (intro hq; exact hq)
    | (intro hq; simpa [A0] using hq)
    | (intro _; first | exact trivial | exact rfl | exact hps | exact h1p | exact h2p | exact h2r | exact range_isP _ _)
    | (refine ret_v ?_ rfl; rfl)
    | (have hc1 : rightC ⟨1, 1, nx, key, none8, none8, none8⟩ = true ∧ rightC ⟨5, 1, nx, lo, hi, none8, none8⟩ = true := by
         have h2 := h
         simp only [A0, Fs50, ← hnx] at h2
         cases hc1 : rightC ⟨1, 1, nx, key, none8, none8, none8⟩ <;> cases hc2 : rightC ⟨5, 1, nx, lo, hi, none8, none8⟩ <;> simp only [hc1, hc2] at h2 <;> first
           | exact ⟨rfl, rfl⟩
           | exact absurd h2 (by decide)
       obtain ⟨hp1, hr1⟩ := hf1 hc1.1
       obtain ⟨hp2, hs2, hr2⟩ := hf2 hc1.2
       injection hr1 with j1 j2 j3 j4 j5
       injection hr2 with j6 j7 j8 j9 j10
       refine ret_v (congrArg boolD ?_) rfl
       simp only [A0, nc, FsSh0, FsS60, Fs50, FsS50, FsE0, FsF0, FsS0, FsS70, hp1, hp2, hs2, j2, j3, j4, j7, j10, sameX_refl, decide_true, cond_true]
       done)
    | fail
end Go.Proofs.Ytijknhdaipnjaaa
