/- A state comes back from its bytes and goes on as itself: the law over plain data. No condition but sizes. -/
import Derived.Test.YtghkcmgiagodlaaGB
import Derived.Test.YtghkcmgiagodlaaGA
namespace Go.Proofs.Ytghkcmgiagodlaa
open Go.RowKit
set_option linter.all false
set_option maxHeartbeats 4000000
theorem sameB_refl (xs : List (List PD)) : sameB xs xs = true := by simp [sameB]
theorem okSt.v {k : Int} {ps : List Pair} {os : List Owner} (h : okSt k ps os) (hk : k ≤ 4611686018427387904) : okV (cellsS ps os) := by
  refine ⟨?_, ?_⟩
  · intro p hp
    rw [show prsS (cellsS ps os) = pairsX ps from rfl, pairsOf_X] at hp
    have := (h.1.2.2 p hp).2.2.2
    unfold r64
    omega
  · intro o ho
    rw [show ownS (cellsS ps os) = ownsD os from own_mk h.own, ownersOf_D h.2.1 rfl] at ho
    obtain ⟨_, _, ⟨_, _, h5, h6, qs, h7, h8, _⟩, _⟩ := h.2.2 o ho
    refine ⟨by unfold r64; omega, ?_⟩
    rw [h7]
    intro p hp
    rw [pairsOf_X] at hp
    have := (h8.2.2 p hp).2.2.2
    unfold r64
    omega
theorem okSt.bytes {k : Int} {ps : List Pair} {os : List Owner} (h : okSt k ps os) (hk : k ≤ 4611686018427387904) : isB8 (bytesSt (cellsS ps os)) := by
  have hv := h.v hk
  have h1 : isPs (pairsX ps) := right_isPs h.1.isP h.1.right hv.1
  have h2 : ∀ o ∈ os, okBo o := fun o ho => by
    have hv2 := hv.2 o (by rw [show ownS (cellsS ps os) = ownsD os from own_mk h.own, ownersOf_D h.2.1 rfl]; exact ho)
    exact okO_bo ((h.2.2 o ho).right) ((h.2.2 o ho).2.2.1.isP) hv2.1 hv2.2
  have h3 := (isLn.nil.prs h1).ows h2
  have e : bytesSt (cellsS ps os) = owsX (prX [] (pairsX ps)) os := by
    unfold bytesSt
    rw [h.right, show prsS (cellsS ps os) = pairsX ps from rfl, show ownS (cellsS ps os) = ownsD os from own_mk h.own, ownersOf_D h.2.1 rfl]
    rfl
  rw [e]
  obtain ⟨bs, e2, h4⟩ := h3
  have := h.2.1
  exact ⟨bs, e2, by omega⟩
theorem back_ok {xs ys : List (List PD)} (h1 : isC xs) (h2 : isC ys) : ∃ s0 rr s1 rr1 bx, playX Z49 (shortX xs) = (s0, rr) ∧ bytesSt s0 = bx ∧ getSt bx = (s0, 0) ∧ playX s0 (shortX ys) = (s1, rr1) ∧ isSt s0 ∧ okV s0 ∧ isSt s1 ∧ isB8 bx := by
  obtain ⟨ps, os, rs, e, hk⟩ := play0 h1
  obtain ⟨l, hl, _⟩ := h2.short
  have hs := short_len ys
  have hp := playL_st l [] hk (by decide) (by rw [hl] at hs; simp only [cmdsX, List.length_map] at hs; omega)
  obtain ⟨qs, rs2, e2, hk2⟩ := hp
  refine ⟨_, _, cellsS qs rs2, repsX (playL (cellsS ps os) l []).2, _, e, rfl, getSt_back hk (by decide), ?_, hk.is, hk.v (by decide), hk2.is, ?_⟩
  · unfold playX
    rw [hl, cmdsOf_X, upS_cells hk, e2]
  · exact okSt.bytes hk (by decide)

structure FsGB where
  isC : List (List PD) → Prop
  isB : List (List PD) → Prop
def FsGB0 : FsGB where
  isC := isC
  isB := isB8
set_option maxRecDepth 100000 in
theorem v_back (xs : List (List PD)) (ys : List (List PD)) (zs : List (List PD)) (hp0 : FsGB0.isC xs) (hp1 : FsGB0.isC ys) (hp2 : FsGB0.isB zs) : FnV Try.prog 8 [.d (.slc 7 xs), .d (.slc 7 ys), .d (.slc 1 zs)] (boolD (((fun (_ _ _ : List (List PD)) => true) xs ys zs))) := by
  obtain ⟨s0, rr, s1, rr1, bx, h1, h2, h3, h4, hs0, hv0, hs1, hbx⟩ := back_ok hp0 hp1
  obtain ⟨zb, hzb, hzl⟩ := id hp2
  obtain ⟨⟨sz, fz⟩, h5⟩ : ∃ q, getSt zs = q := ⟨_, rfl⟩
  have hz1 := getSt_is hzl
  have hz2 := getSt_took hzl
  rw [← hzb, h5] at hz1 hz2
  replace hz2 : fz = 0 → bytesSt sz = zs := hz2
  have hzs : isSt sz := hz1.1
  have hzv : okV sz := hz1.2
  have hx1 := hp0.short
  have hx2 := hp1.short
  have l0 := hs0.len
  have l1 := hs1.len
  have lz := hzs.len
  obtain ⟨GFsSh, hGFsSh⟩ : ∃ F, F = FsSh0 := ⟨_, rfl⟩
  obtain ⟨GFsS6, hGFsS6⟩ : ∃ F, F = FsS60 := ⟨_, rfl⟩
  obtain ⟨GFsPu, hGFsPu⟩ : ∃ F, F = FsPu0 := ⟨_, rfl⟩
  obtain ⟨GFsGs, hGFsGs⟩ : ∃ F, F = FsGs0 := ⟨_, rfl⟩
  obtain ⟨GFsS4, hGFsS4⟩ : ∃ F, F = FsS40 := ⟨_, rfl⟩
  obtain ⟨GFsPq, hGFsPq⟩ : ∃ F, F = FsPq0 := ⟨_, rfl⟩
  obtain ⟨GFsS7, hGFsS7⟩ : ∃ F, F = FsS70 := ⟨_, rfl⟩
  have hH : SoundK Try.prog [kn_short GFsSh, kn_play GFsS6, kn_stPut GFsPu, kn_getS GFsGs, kn_sameSt GFsS4, kn_sameB GFsPq, kn_runs GFsS7] := by subst hGFsSh hGFsS6 hGFsPu hGFsGs hGFsS4 hGFsPq hGFsS7; exact orK_ok ok_short (orK_ok ok_play (orK_ok ok_stPut (orK_ok ok_getS (orK_ok ok_sameSt (orK_ok ok_sameB (orK_ok ok_runs noK_ok))))))
  refine FnD_cbv (T := fun _ => tabY [1023, 1030, 1037, 1044, 1049, 1007, 1010, 1012, 1014, 1016, 1018, 1022, 1027, 1029, 1032, 1036, 1039, 1043, 1046, 1048, 5004] [2, 3, 4, 5, 6, 7]) (H := fun _ => [kn_short GFsSh, kn_play GFsS6, kn_stPut GFsPu, kn_getS GFsGs, kn_sameSt GFsS4, kn_sameB GFsPq, kn_runs GFsS7]) (tabY_ok _ _) hH follows_mixed Try.func8 rfl Try.ntmps8 (by simp) fun A X W hA hX hW => ?_
  cbv
  have e1 : GFsS6.play Z49 (GFsSh.short xs) = (s0, rr) := by subst hGFsS6 hGFsSh; exact h1
  have e2 : GFsPu.stPut s0 = bx := by subst hGFsPu; exact h2
  have e3 : GFsGs.getS bx = (s0, 0) := by subst hGFsGs; exact h3
  have e4 : GFsS6.play s0 (GFsSh.short ys) = (s1, rr1) := by subst hGFsS6 hGFsSh; exact h4
  have e5 : GFsGs.getS zs = (sz, fz) := by subst hGFsGs; exact h5
  cbv at e1
  cbv at e2
  cbv at e3
  cbv at e4
  cbv at e5
  repeat' first
    | (refine part (fun h => ?_) (fun h => ?_) <;> try cbv)
    | (refine And.intro ?_ ?_)
    | (simp only [e1, e2, e3, e4, e5]; (with_reducible refine goL (T := fun _ => tabY [1023, 1030, 1037, 1044, 1049, 1007, 1010, 1012, 1014, 1016, 1018, 1022, 1027, 1029, 1032, 1036, 1039, 1043, 1046, 1048, 5004] []) (H := fun _ => [kn_short GFsSh, kn_play GFsS6, kn_stPut GFsPu, kn_getS GFsGs, kn_sameSt GFsS4, kn_sameB GFsPq, kn_runs GFsS7]) (tabY_ok _ _) hH follows_mixed hA hX ?_) <;> cbv)
    | ((with_reducible refine goL (T := fun _ => tabY [1023, 1030, 1037, 1044, 1049, 1007, 1010, 1012, 1014, 1016, 1018, 1022, 1027, 1029, 1032, 1036, 1039, 1043, 1046, 1048, 5004] []) (H := fun _ => [kn_short GFsSh, kn_play GFsS6, kn_stPut GFsPu, kn_getS GFsGs, kn_sameSt GFsS4, kn_sameB GFsPq, kn_runs GFsS7]) (tabY_ok _ _) hH follows_mixed hA hX ?_) <;> cbv)
  all_goals subst hA hX hW hGFsSh hGFsS6 hGFsPu hGFsGs hGFsS4 hGFsPq hGFsS7
  all_goals clear hH
  all_goals first
    | exact rfl
    | (show Region.lexB _ _ = true; kernel_rfl)
    | (show turnsB _ = true; kernel_rfl)
    | assumption
    | exact z49
    | (show List.length (playX Z49 (shortX xs)).1 = 49 * 1; rw [h1]; exact l0)
    | (show List.length (playX s0 (shortX ys)).1 = 49 * 1; rw [h4]; exact l1)
    | (show List.length (getSt bx).1 = 49 * 1; rw [h3]; exact l0)
    | (show List.length (getSt zs).1 = 49 * 1; rw [h5]; exact lz)
    | (show List.length _ = 49 * 1; first | exact l0 | exact l1 | exact lz)
    | (intro _; first | exact trivial | exact rfl | assumption | exact l0 | exact l1 | exact lz)
    | exact id
    | (intro hq; exact hq)
    | (intro hq; simpa [A0] using hq)
    | skip
  · intro hq
    have q : fz = 0 := Classical.byContradiction fun q => by
      revert hq
      show ¬ (_ && A0.is (!decide (fz = 0)) false) = true
      rw [decide_eq_false q]
      show ¬ (_ && false) = true
      simp
    show FsPq0.isB (bytesSt sz)
    rw [hz2 q]
    exact hp2
  · refine ret_v (congrArg boolD ?_) rfl
    show A0.cond (A0.cond (A0.cond (A0.cond (A0.cmp .eql 0 0) (sameSt s0 s0) false) (sameSt s1 s1) false) (A0.cond (A0.cmp .neq fz 0) true (sameB (bytesSt sz) zs)) false) true false = true
    rw [sameSt_refl, sameSt_refl]
    by_cases q : fz = 0
    · rw [hz2 q, sameB_refl]
      simp [A0]
    · simp [A0, q]
end Go.Proofs.Ytghkcmgiagodlaa
