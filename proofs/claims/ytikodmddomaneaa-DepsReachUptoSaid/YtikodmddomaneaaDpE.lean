/- What is listed from nothing on is reached, once each, rising. No condition. -/
import Derived.Test.YtikodmddomaneaaDp8
import Derived.Test.YtikodmddomaneaaDpD
namespace Go.Proofs.Ytikodmddomaneaa
open Go.RowKit
set_option linter.all false
set_option maxHeartbeats 4000000

theorem inst_at {D : Deps} {L : List Inst} {xs : List (List PD)} (hx : xs = instsX L) (hre : ∀ k, (h : k < L.length) → reachD D L[k] = true) (hle : ∀ k, (h0 : 0 < k) → (h : k < L.length) → lessI (L[k - 1]'(by omega)) L[k] = true) {i : Int} (i0 : 0 ≤ i) (hl : i < (L.length : Int)) :
    ∃ p q : Inst, xs.getD i.toNat [] = p.row ∧ (0 < i → xs.getD (i - 1).toNat [] = q.row) ∧ reachD D p = true ∧ (0 < i → lessI q p = true) ∧ ∀ I : Inst, decide (I ∈ L.take (i + 1).toNat) = (decide (I ∈ L.take i.toNat) || decide (p = I)) := by
  have h1 : i.toNat < L.length := by omega
  have h2 : i.toNat - 1 < L.length := by omega
  refine ⟨L[i.toNat], L[i.toNat - 1], ?_, fun h => ?_, hre _ h1, fun h => hle _ (by omega) h1, fun I => ?_⟩
  · subst hx; simp [instsX, List.getD_eq_getElem?_getD, h1]
  · subst hx
    rw [show (i - 1).toNat = i.toNat - 1 by omega]
    simp [instsX, List.getD_eq_getElem?_getD, h2]
  · rw [show (i + 1).toNat = i.toNat + 1 by omega, List.take_succ_eq_append_getElem h1]
    rw [Bool.eq_iff_iff]
    simp only [Bool.or_eq_true, decide_eq_true_eq, List.mem_append, List.mem_singleton]
    exact ⟨fun h => h.imp_right Eq.symm, fun h => h.imp_right Eq.symm⟩
theorem eq_inst (a b c d : Int) : (decide (a = c) && (decide (b = d) && true)) = decide ((⟨a, b⟩ : Inst) = ⟨c, d⟩) := by
  rw [Bool.eq_iff_iff]
  simp

structure FsX where
  reachL : Deps → Inst → Bool
  rDeps : Deps → Prop
def FsX0 : FsX where
  reachL := fun _ _ => true
  rDeps := rDeps
set_option maxRecDepth 100000 in
theorem v_reachL (d : Deps) (i : Inst) (hp0 : FsX0.rDeps d) : FnV Try.prog 4 [Deps.D d, Inst.D i] (boolD (((fun (_ : Deps) (_ : Inst) => true) d i))) := by
  obtain ⟨d_d0, d_d1, d_d2, d_d3, d_d4, d_d5, d_d6⟩ := d
  obtain ⟨i_replica, i_slot⟩ := i
  obtain ⟨GFsW, hGFsW⟩ : ∃ F, F = FsW0 := ⟨_, rfl⟩
  obtain ⟨GFsI, hGFsI⟩ : ∃ F, F = FsI0 := ⟨_, rfl⟩
  obtain ⟨GFsA, hGFsA⟩ : ∃ F, F = FsA0 := ⟨_, rfl⟩
  obtain ⟨GFsR, hGFsR⟩ : ∃ F, F = FsR0 := ⟨_, rfl⟩
  have hH : SoundK Try.prog [kn_within3 GFsW, kn_list GFsI, kn_reach GFsA, kn_less GFsA, kn_runs GFsR] := by subst hGFsW hGFsI hGFsA hGFsR; exact orK_ok ok_within3 (orK_ok ok_list (orK_ok ok_reach (orK_ok ok_less (orK_ok ok_runs noK_ok))))
  refine FnD_cbv (T := fun _ => tabY [5003, 37, 38, 48, 49, 52, 53, 62, 63] [7]) (H := fun _ => [kn_within3 GFsW, kn_list GFsI, kn_reach GFsA, kn_less GFsA, kn_runs GFsR]) (tabY_ok _ _) hH follows_mixed Try.func4 rfl Try.ntmps4 (by simp) fun A X W hA hX hW => ?_
  cbv
  have hd : rDeps ⟨d_d0, d_d1, d_d2, d_d3, d_d4, d_d5, d_d6⟩ := hp0
  obtain ⟨w0, e0⟩ : ∃ w, GFsW.within3 d_d0 0 60 = w := ⟨_, rfl⟩
  have g0 : 0 ≤ w0 ∧ w0 ≤ 60 := by
    subst e0 hGFsW
    show 0 ≤ 0 + d_d0 % (60 - 0 + 1) ∧ 0 + d_d0 % (60 - 0 + 1) ≤ 60
    omega
  have p0 : GFsW.r64 d_d0 := by subst hGFsW; exact hd.1
  cbv at e0 p0
  obtain ⟨w1, e1⟩ : ∃ w, GFsW.within3 d_d1 0 60 = w := ⟨_, rfl⟩
  have g1 : 0 ≤ w1 ∧ w1 ≤ 60 := by
    subst e1 hGFsW
    show 0 ≤ 0 + d_d1 % (60 - 0 + 1) ∧ 0 + d_d1 % (60 - 0 + 1) ≤ 60
    omega
  have p1 : GFsW.r64 d_d1 := by subst hGFsW; exact hd.2.1
  cbv at e1 p1
  obtain ⟨w2, e2⟩ : ∃ w, GFsW.within3 d_d2 0 60 = w := ⟨_, rfl⟩
  have g2 : 0 ≤ w2 ∧ w2 ≤ 60 := by
    subst e2 hGFsW
    show 0 ≤ 0 + d_d2 % (60 - 0 + 1) ∧ 0 + d_d2 % (60 - 0 + 1) ≤ 60
    omega
  have p2 : GFsW.r64 d_d2 := by subst hGFsW; exact hd.2.2.1
  cbv at e2 p2
  obtain ⟨w3, e3⟩ : ∃ w, GFsW.within3 d_d3 0 60 = w := ⟨_, rfl⟩
  have g3 : 0 ≤ w3 ∧ w3 ≤ 60 := by
    subst e3 hGFsW
    show 0 ≤ 0 + d_d3 % (60 - 0 + 1) ∧ 0 + d_d3 % (60 - 0 + 1) ≤ 60
    omega
  have p3 : GFsW.r64 d_d3 := by subst hGFsW; exact hd.2.2.2.1
  cbv at e3 p3
  obtain ⟨w4, e4⟩ : ∃ w, GFsW.within3 d_d4 0 60 = w := ⟨_, rfl⟩
  have g4 : 0 ≤ w4 ∧ w4 ≤ 60 := by
    subst e4 hGFsW
    show 0 ≤ 0 + d_d4 % (60 - 0 + 1) ∧ 0 + d_d4 % (60 - 0 + 1) ≤ 60
    omega
  have p4 : GFsW.r64 d_d4 := by subst hGFsW; exact hd.2.2.2.2.1
  cbv at e4 p4
  obtain ⟨w5, e5⟩ : ∃ w, GFsW.within3 d_d5 0 60 = w := ⟨_, rfl⟩
  have g5 : 0 ≤ w5 ∧ w5 ≤ 60 := by
    subst e5 hGFsW
    show 0 ≤ 0 + d_d5 % (60 - 0 + 1) ∧ 0 + d_d5 % (60 - 0 + 1) ≤ 60
    omega
  have p5 : GFsW.r64 d_d5 := by subst hGFsW; exact hd.2.2.2.2.2.1
  cbv at e5 p5
  obtain ⟨w6, e6⟩ : ∃ w, GFsW.within3 d_d6 0 60 = w := ⟨_, rfl⟩
  have g6 : 0 ≤ w6 ∧ w6 ≤ 60 := by
    subst e6 hGFsW
    show 0 ≤ 0 + d_d6 % (60 - 0 + 1) ∧ 0 + d_d6 % (60 - 0 + 1) ≤ 60
    omega
  have p6 : GFsW.r64 d_d6 := by subst hGFsW; exact hd.2.2.2.2.2.2
  cbv at e6 p6
  have ps : GFsW.span3 0 60 := by subst hGFsW; exact ⟨by decide, by decide, by decide⟩
  cbv at ps
  have l0 : A.cmp .lss 0 7 = true := by subst hA; rfl
  cbv at l0
  have l1 : A.cmp .lss 1 7 = true := by subst hA; rfl
  cbv at l1
  have l2 : A.cmp .lss 2 7 = true := by subst hA; rfl
  cbv at l2
  have l3 : A.cmp .lss 3 7 = true := by subst hA; rfl
  cbv at l3
  have l4 : A.cmp .lss 4 7 = true := by subst hA; rfl
  cbv at l4
  have l5 : A.cmp .lss 5 7 = true := by subst hA; rfl
  cbv at l5
  have l6 : A.cmp .lss 6 7 = true := by subst hA; rfl
  cbv at l6
  have l7 : A.cmp .lss 7 7 = false := by subst hA; rfl
  cbv at l7
  have b0 : A.bin .add .i64 0 1 = 1 := by subst hA; rfl
  cbv at b0
  have b1 : A.bin .add .i64 1 1 = 2 := by subst hA; rfl
  cbv at b1
  have b2 : A.bin .add .i64 2 1 = 3 := by subst hA; rfl
  cbv at b2
  have b3 : A.bin .add .i64 3 1 = 4 := by subst hA; rfl
  cbv at b3
  have b4 : A.bin .add .i64 4 1 = 5 := by subst hA; rfl
  cbv at b4
  have b5 : A.bin .add .i64 5 1 = 6 := by subst hA; rfl
  cbv at b5
  have b6 : A.bin .add .i64 6 1 = 7 := by subst hA; rfl
  cbv at b6
  have o0_0 : A.off 0 0 1 = 0 := by subst hA; rfl
  cbv at o0_0
  have o0_1 : A.off 0 1 1 = 1 := by subst hA; rfl
  cbv at o0_1
  have o0_2 : A.off 0 2 1 = 2 := by subst hA; rfl
  cbv at o0_2
  have o0_3 : A.off 0 3 1 = 3 := by subst hA; rfl
  cbv at o0_3
  have o0_4 : A.off 0 4 1 = 4 := by subst hA; rfl
  cbv at o0_4
  have o0_5 : A.off 0 5 1 = 5 := by subst hA; rfl
  cbv at o0_5
  have o0_6 : A.off 0 6 1 = 6 := by subst hA; rfl
  cbv at o0_6
  refine unrollL (T := fun _ => tabY [5003, 37, 38, 48, 49, 52, 53, 62, 63] [7]) (H := fun _ => [kn_within3 GFsW, kn_list GFsI, kn_reach GFsA, kn_less GFsA, kn_runs GFsR]) (tabY_ok _ _) hH follows_mixed hA hX 8 fun R hR => ?_
  repeat' first
    | (simp only [l0, l1, l2, l3, l4, l5, l6, l7, b0, b1, b2, b3, b4, b5, b6, o0_0, o0_1, o0_2, o0_3, o0_4, o0_5, o0_6, e0, e1, e2, e3, e4, e5, e6, decide_true]; cbv)
    | (refine part (fun h => ?_) (fun h => ?_) <;> try cbv)
    | (refine And.intro ?_ ?_)
    | (refine hR _ _ _ ?_; cbv)
  all_goals try assumption
  all_goals clear l0 l1 l2 l3 l4 l5 l6 l7 b0 b1 b2 b3 b4 b5 b6 o0_0 o0_1 o0_2 o0_3 o0_4 o0_5 o0_6 hR
  obtain ⟨n, hn⟩ : ∃ n, (A.bin .add .i64 (A.bin .add .i64 (A.bin .add .i64 (A.bin .add .i64 (A.bin .add .i64 (A.bin .add .i64 (A.bin .add .i64 0 w0) w1) w2) w3) w4) w5) w6) = n := ⟨_, rfl⟩
  have en : n = w0 + w1 + w2 + w3 + w4 + w5 + w6 := by
    subst hA
    rw [← hn]
    simp only [A0]
    rw [wrap_i64 (a := 0 + w0) (by unfold r64; omega), wrap_i64 (a := 0 + w0 + w1) (by unfold r64; omega), wrap_i64 (a := 0 + w0 + w1 + w2) (by unfold r64; omega), wrap_i64 (a := 0 + w0 + w1 + w2 + w3) (by unfold r64; omega), wrap_i64 (a := 0 + w0 + w1 + w2 + w3 + w4) (by unfold r64; omega), wrap_i64 (a := 0 + w0 + w1 + w2 + w3 + w4 + w5) (by unfold r64; omega), wrap_i64 (a := 0 + w0 + w1 + w2 + w3 + w4 + w5 + w6) (by unfold r64; omega)]
    omega
  cbv at hn
  simp only [hn]
  refine pauseL hX (s' := [(2, .ref 0 0 0), (3, .ref 1 0 0), (4, .d (.sc (.bool false))), (5, .d (.sc (.int .i64 n)))]) (st' := [⟨23, [.d (.sc (.int .i64 w0)), .d (.sc (.int .i64 w1)), .d (.sc (.int .i64 w2)), .d (.sc (.int .i64 w3)), .d (.sc (.int .i64 w4)), .d (.sc (.int .i64 w5)), .d (.sc (.int .i64 w6))], false, 0, true⟩, ⟨34, [.d (.sc (.int .i64 i_replica)), .d (.sc (.int .i64 i_slot))], false, 0, true⟩]) (told_less (by simp [toldP, getS])) ?_
  have hsm : small ⟨w0, w1, w2, w3, w4, w5, w6⟩ := ⟨g0, g1, g2, g3, g4, g5, g6⟩
  obtain ⟨xs, hxs⟩ : ∃ xs, GFsI.list ⟨w0, w1, w2, w3, w4, w5, w6⟩ ⟨0, 0, 0, 0, 0, 0, 0⟩ = xs := ⟨_, rfl⟩
  have hxl : xs = instsX (listD ⟨w0, w1, w2, w3, w4, w5, w6⟩ noDeps) := by subst hxs hGFsI; rfl
  have q1 : GFsI.rDeps ⟨w0, w1, w2, w3, w4, w5, w6⟩ := by subst hGFsI; exact hsm.r
  have q2 : GFsI.rDeps ⟨0, 0, 0, 0, 0, 0, 0⟩ := by subst hGFsI; exact small.r (d := noDeps) (by unfold small noDeps; simp)
  cbv at hxs q1 q2
  with_reducible refine goL (T := fun _ => tabY [5003, 37, 38, 48, 49, 52, 53, 62, 63] []) (H := fun _ => [kn_within3 GFsW, kn_list GFsI, kn_reach GFsA, kn_less GFsA, kn_runs GFsR]) (tabY_ok _ _) hH follows_mixed hA hX ?_
  cbv
  simp only [hxs]
  refine And.intro q1 (And.intro q2 ?_)
  obtain ⟨L, hL⟩ : ∃ L, L = listD ⟨w0, w1, w2, w3, w4, w5, w6⟩ noDeps := ⟨_, rfl⟩
  have hln : (L.length : Int) = n := by rw [hL, en]; exact listD_len hsm
  have hre : ∀ k, (h : k < L.length) → reachD ⟨w0, w1, w2, w3, w4, w5, w6⟩ L[k] = true := by subst hL; exact fun k h => listD_reach hsm h
  have hle : ∀ k, (h0 : 0 < k) → (h : k < L.length) → lessI (L[k - 1]'(by omega)) L[k] = true := by subst hL; exact fun k h0 h => listD_less hsm h0 h
  have hme : decide ((⟨i_replica, i_slot⟩ : Inst) ∈ L) = reachD ⟨w0, w1, w2, w3, w4, w5, w6⟩ ⟨i_replica, i_slot⟩ := by
    subst hL
    rw [Bool.eq_iff_iff, decide_eq_true_eq]
    exact listD_mem hsm _
  rw [← hL] at hxl
  have hlen : xs.length = L.length := by rw [hxl, instsX_length]
  clear hxs q1 q2 ps p0 p1 p2 p3 p4 p5 p6 e0 e1 e2 e3 e4 e5 e6 hn hp0 hd
  have hn4 : n ≤ 420 := by omega
  clear en g0 g1 g2 g3 g4 g5 g6
  refine loopL (T := fun _ => tabY [5003, 37, 38, 48, 49, 52, 53, 62, 63] [7]) (H := fun _ => [kn_within3 GFsW, kn_list GFsI, kn_reach GFsA, kn_less GFsA, kn_runs GFsR]) (tabY_ok _ _) hH follows_mixed hA hX (fun x : Int × Bool => (0 ≤ x.1 ∧ x.1 ≤ n) ∧ x.2 = decide ((⟨i_replica, i_slot⟩ : Inst) ∈ L.take x.1.toNat)) (fun x => [(2, .ref 0 0 0), (3, .ref 1 0 0), (4, .d (.sc (.bool false))), (5, .d (.sc (.int .i64 n))), (7, .d (.slc 2 xs)), (8, .d (.sc (.bool x.2))), (9, .d (.sc (.int .i64 x.1)))]) (fun _ => [⟨23, [.d (.sc (.int .i64 w0)), .d (.sc (.int .i64 w1)), .d (.sc (.int .i64 w2)), .d (.sc (.int .i64 w3)), .d (.sc (.int .i64 w4)), .d (.sc (.int .i64 w5)), .d (.sc (.int .i64 w6))], false, 0, true⟩, ⟨34, [.d (.sc (.int .i64 i_replica)), .d (.sc (.int .i64 i_slot))], false, 0, true⟩]) (fun x => n.toNat - x.1.toNat) (0, false) ⟨⟨Int.le_refl 0, by show 0 ≤ n; omega⟩, by simp⟩ (told_less (by simp [toldP, getS])) ?_
  rintro R ⟨i, b⟩ hR ⟨⟨i0, i1⟩, hb⟩
  replace i0 : 0 ≤ i := i0
  replace i1 : i ≤ n := i1
  replace hb : b = decide ((⟨i_replica, i_slot⟩ : Inst) ∈ L.take i.toNat) := hb
  cbv
  repeat' first
    | (refine part (fun h => ?_) (fun h => ?_) <;> try cbv)
    | (refine And.intro ?_ ?_)
  all_goals subst hA hX hW hGFsW hGFsI hGFsA hGFsR hR
  all_goals clear hH
  all_goals simp only [A0, nc, FsW0, FsI0, FsA0, FsR0, decide_eq_true_eq, decide_eq_false_iff_not, Bool.not_eq_true', Bool.not_eq_false'] at *
  all_goals try replace i0 : 0 ≤ i := i0
  all_goals try replace i1 : i ≤ n := i1
  all_goals have ei : IntKind.wrap .i64 (i + 1) = i + 1 := wrap_i64 (by unfold r64; omega)
  all_goals have em : IntKind.wrap .i64 (i - 1) = i - 1 := wrap_i64 (by unfold r64; omega)
  all_goals try simp only [em, ei] at *
  all_goals try
    have hlt : i < (L.length : Int) := by omega
    obtain ⟨⟨pr, ps⟩, ⟨qr, qs⟩, r1, r2, r3, r4, r5⟩ := inst_at hxl hre hle i0 hlt
    simp only [r1, Inst.row, List.drop_zero, List.map_cons, List.map_nil, List.getElem?_cons_zero, List.getElem?_cons_succ, r3] at *
  all_goals first
    | (show Region.lexB _ _ = true; kernel_rfl)
    | (show turnsB _ = true; kernel_rfl)
    | (intros; first | assumption | trivial | omega | (simp_all; done))
    | (intro hq; simp only [Bool.and_eq_true, beq_iff_eq, decide_eq_true_eq] at hq; replace h : i < (xs.length : Int) := h; exact ⟨by omega, by omega⟩)
    | (refine ⟨(i + 1, b || decide ((⟨pr, ps⟩ : Inst) = ⟨i_replica, i_slot⟩)), ⟨⟨by show 0 ≤ i + 1; omega, by show i + 1 ≤ n; omega⟩, ?_⟩, ?_, told_less ?_⟩
       · show _ = decide (_ ∈ L.take (i + 1).toNat); rw [r5, hb]
       · show n.toNat - (i + 1).toNat < n.toNat - i.toNat; omega
       · simp only [← eq_inst]; cases b <;> simp [toldP, getS])
    | (replace h : ¬ i < (xs.length : Int) := h
       have ht : L.take i.toNat = L := List.take_of_length_le (by omega)
       rw [ht, hme] at hb
       have hx2 : (xs.length : Int) = n := by omega
       refine ret_v ?_ rfl
       simp [hb, hx2, boolD]
       done)
end Go.Proofs.Ytikodmddomaneaa
