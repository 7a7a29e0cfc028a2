/- A state comes back from its bytes and goes on as itself: the law over plain data. No condition but sizes. -/
import Derived.Test.YtghkcmgiagodlaaGB
import Derived.Test.YtghkcmgiagodlaaGA
import Derived.Test.YtghkcmgiagodlaaGD
import Derived.Test.YtghkcmgiagodlaaAm29
import Derived.Test.YtghkcmgiagodlaaStZ
import Derived.Test.YtghkcmgiagodlaaGC
import Derived.Test.YtghkcmgiagodlaaAm45
namespace Go.Proofs.Ytghkcmgiagodlaa
open Go.RowKit
set_option linter.all false
set_option maxHeartbeats 4000000
theorem okSt.v {k : Int} {ps : List Pair} {os : List Owner} (h : okSt k ps os) (hk : k ≤ 4611686018427387904) : okV (cellsS ps os) := by
  refine ⟨?_, ?_⟩
  · intro p hp
    rw [show prsS (cellsS ps os) = pairsX ps from rfl, pairsOf_X] at hp
    have := (h.1.2.2 p hp).2.2.2
    unfold r64
    omega
  · intro o ho
    rw [show ownS (cellsS ps os) = ownsD os from own_mk h.own, ownersOf_D h.2.1 rfl] at ho
    obtain ⟨_, _, ⟨_, _, h5, h6, qs, h7, h8, _⟩, _⟩ := h.2.2 o ho
    refine ⟨by unfold r64; omega, ?_⟩
    rw [h7]
    intro p hp
    rw [pairsOf_X] at hp
    have := (h8.2.2 p hp).2.2.2
    unfold r64
    omega
theorem okSt.bytes {k : Int} {ps : List Pair} {os : List Owner} (h : okSt k ps os) (hk : k ≤ 4611686018427387904) : isB8 (bytesSt (cellsS ps os)) := by
  have hv := h.v hk
  have h1 : isPs (pairsX ps) := right_isPs h.1.isP h.1.right hv.1
  have h2 : ∀ o ∈ os, okBo o := fun o ho => by
    have hv2 := hv.2 o (by rw [show ownS (cellsS ps os) = ownsD os from own_mk h.own, ownersOf_D h.2.1 rfl]; exact ho)
    exact okO_bo ((h.2.2 o ho).right) ((h.2.2 o ho).2.2.1.isP) hv2.1 hv2.2
  have h3 := (isLn.nil.prs h1).ows h2
  have e : bytesSt (cellsS ps os) = owsX (prX [] (pairsX ps)) os := by
    unfold bytesSt
    rw [h.right, show prsS (cellsS ps os) = pairsX ps from rfl, show ownS (cellsS ps os) = ownsD os from own_mk h.own, ownersOf_D h.2.1 rfl]
    rfl
  rw [e]
  obtain ⟨bs, e2, h4⟩ := h3
  have := h.2.1
  exact ⟨bs, e2, by omega⟩
end Go.Proofs.Ytghkcmgiagodlaa
namespace Go.Proofs.Ytghkcmgiagodlaa
open Go.RowKit
set_option linter.all false
set_option maxHeartbeats 4000000
theorem leV_le4 {u : Int} (h : 0 ≤ u ∧ u < 4294967296) : leV (le4 u) = u := by
  unfold leV le4
  simp
  omega
theorem le4_len (u : Int) : (le4 u).length = 4 := rfl
theorem rightDs_r {d : Deps} (h : rightDs d = true) : rDeps d := by
  unfold rightDs okK at h
  simp only [Bool.and_eq_true, decide_eq_true_eq] at h
  unfold rDeps r64
  omega
theorem dps_back {bs rest : List UInt8} {d : Deps} (h : rDeps d) (e : bs = dpB d ++ rest) : dpsR (bytesP bs) = (d, ((dpB d).length : Int), 0) := by
  obtain ⟨h0, h1, h2, h3, h4, h5, h6⟩ := h
  unfold dpB at e
  simp only [List.append_assoc] at e
  have e0 := numR_back (bs := bs) (a := 0) [] _ d.d0 h0 e rfl
  have e1 := numR_back (bs := bs) ([] ++ numB d.d0) _ d.d1 h1 (by rw [e]; simp only [List.nil_append]; rfl) rfl
  have e2 := numR_back (bs := bs) (([] ++ numB d.d0) ++ numB d.d1) _ d.d2 h2 (by rw [e]; simp only [List.nil_append, List.append_assoc]; rfl) rfl
  have e3 := numR_back (bs := bs) ((([] ++ numB d.d0) ++ numB d.d1) ++ numB d.d2) _ d.d3 h3 (by rw [e]; simp only [List.nil_append, List.append_assoc]; rfl) rfl
  have e4 := numR_back (bs := bs) (((([] ++ numB d.d0) ++ numB d.d1) ++ numB d.d2) ++ numB d.d3) _ d.d4 h4 (by rw [e]; simp only [List.nil_append, List.append_assoc]; rfl) rfl
  have e5 := numR_back (bs := bs) ((((([] ++ numB d.d0) ++ numB d.d1) ++ numB d.d2) ++ numB d.d3) ++ numB d.d4) _ d.d5 h5 (by rw [e]; simp only [List.nil_append, List.append_assoc]; rfl) rfl
  have e6 := numR_back (bs := bs) (((((([] ++ numB d.d0) ++ numB d.d1) ++ numB d.d2) ++ numB d.d3) ++ numB d.d4) ++ numB d.d5) rest d.d6 h6 (by rw [e]; simp only [List.nil_append, List.append_assoc]) rfl
  unfold dpsR
  simp only [e0, e1, e2, e3, e4, e5, e6]
  refine Prod.ext rfl (Prod.ext ?_ rfl)
  simp only [dpB, List.nil_append]
theorem imgH_eq {k : Int} {ps : List Pair} {os : List Owner} (d : Deps) (h : okSt k ps os) : imgH d (cellsS ps os) = dpB d ++ stB ps os := by
  unfold imgH
  rw [bytesSt_B h.1.isP h.own h.2.1 h.right, bytesOf_bytesP]
theorem img_parts (H : List UInt8) (u : Int) (hu : 0 ≤ u ∧ u < 4294967296) : (bytesP (H ++ le4 u)).length - 4 = H.length ∧ ¬ (bytesP (H ++ le4 u)).length < 4 ∧ (bytesP (H ++ le4 u)).take H.length = bytesP H ∧ getW4 (bytesP (H ++ le4 u)) (((bytesP (H ++ le4 u)).length : Int) - 4) = u := by
  have hl : (bytesP (H ++ le4 u)).length = H.length + 4 := by rw [bytesP_length, List.length_append, le4_len]
  refine ⟨by omega, by omega, by rw [bytesP_take, List.take_left], ?_⟩
  unfold getW4
  rw [bytesOf_bytesP, hl, show (((H.length + 4 : Nat) : Int) - 4).toNat = H.length by omega, List.drop_left]
  exact leV_le4 hu
theorem iget_back {k : Int} {ps : List Pair} {os : List Owner} {d : Deps} (hd : rightDs d = true) (h : okSt k ps os) (hk : k ≤ 4611686018427387904) : igetX (bytesP (imgI d (cellsS ps os))) = (d, cellsS ps os, 0) := by
  obtain ⟨H, hH⟩ : ∃ H, H = imgH d (cellsS ps os) := ⟨_, rfl⟩
  have hu := onX_range 0 (by decide) (bytesP H)
  obtain ⟨u, hu2⟩ : ∃ u, u = ofX (bytesP H) := ⟨_, rfl⟩
  have hu3 : 0 ≤ u ∧ u < 4294967296 := by rw [hu2]; exact hu
  have hI : imgI d (cellsS ps os) = H ++ le4 u := by unfold imgI; rw [← hH, ← hu2]
  obtain ⟨p1, p2, p3, p4⟩ := img_parts H u hu3
  rw [hI]
  unfold igetX
  rw [if_neg p2, p1, p3, p4, if_pos hu2]
  have hHe : H = dpB d ++ stB ps os := by rw [hH, imgH_eq d h]
  have hdp := dps_back (bs := H) (rest := stB ps os) (rightDs_r hd) hHe
  have hg := getSt_back h hk
  rw [bytesSt_B h.1.isP h.own h.2.1 h.right] at hg
  have hdr : (bytesP H).drop (dpB d).length = bytesP (stB ps os) := by rw [hHe, bytesP_drop, List.drop_left]
  unfold igetB
  simp only [hdp]
  rw [if_pos trivial, if_pos hd, show (((dpB d).length : Nat) : Int).toNat = (dpB d).length by omega, hdr, hg]
  simp only
  rw [if_pos trivial]
theorem img_small {k : Int} {ps : List Pair} {os : List Owner} (h : okSt k ps os) (hk : k ≤ 4611686018427387904) : smallS (cellsS ps os) := by
  have hv := h.v hk
  have h1 : isPs (pairsX ps) := right_isPs h.1.isP h.1.right hv.1
  have h2 : ∀ o ∈ os, okBo o := fun o ho => by
    have hv2 := hv.2 o (by rw [show ownS (cellsS ps os) = ownsD os from own_mk h.own, ownersOf_D h.2.1 rfl]; exact ho)
    exact okO_bo ((h.2.2 o ho).right) ((h.2.2 o ho).2.2.1.isP) hv2.1 hv2.2
  have h3 := (isLn.nil.prs h1).ows h2
  have e : bytesSt (cellsS ps os) = owsX (prX [] (pairsX ps)) os := by
    unfold bytesSt
    rw [h.right, show prsS (cellsS ps os) = pairsX ps from rfl, show ownS (cellsS ps os) = ownsD os from own_mk h.own, ownersOf_D h.2.1 rfl]
    rfl
  obtain ⟨bs, e2, h4⟩ := h3
  have := h.2.1
  exact ⟨bs, by rw [e, e2], by omega⟩
theorem dpB_len (d : Deps) : (dpB d).length ≤ 70 := by
  have q := numB_length
  have a0 := q d.d0
  have a1 := q d.d1
  have a2 := q d.d2
  have a3 := q d.d3
  have a4 := q d.d4
  have a5 := q d.d5
  have a6 := q d.d6
  simp only [dpB, List.length_append]
  omega
end Go.Proofs.Ytghkcmgiagodlaa
namespace Go.Proofs.Ytghkcmgiagodlaa
open Go.RowKit
set_option linter.all false
set_option maxHeartbeats 4000000
def D12 : Deps := ⟨1, 2, 0, 0, 0, 0, 0⟩
def B20 : List UInt8 := [2, 4, 0, 0, 0, 0, 0, 0, 0, 0, 0, 0, 0, 0, 0, 0, 85, 11, 103, 225]
def B20t : List UInt8 := [3, 4, 0, 0, 0, 0, 0, 0, 0, 0, 0, 0, 0, 0, 0, 0, 85, 11, 103, 225]
theorem zst_ok : okSt 0 [] (List.replicate 8 ⟨0, zeroRep⟩) := zero_st
theorem zst_eq : cellsS [] (List.replicate 8 ⟨0, zeroRep⟩) = zeroSt := rfl
theorem bytes_z49 : bytesSt Z49 = bytesSt zeroSt := by
  have h := bytesSt_up z49
  rw [← h]
  rfl
theorem right_z49 : rightSt Z49 = true := zst_ok.right
theorem okV_z49 : okV Z49 := zst_ok.v (by decide)
theorem small_z49 : smallS Z49 := by
  obtain ⟨bs, h1, h2⟩ := img_small zst_ok (by decide)
  exact ⟨bs, by rw [bytes_z49, ← zst_eq]; exact h1, h2⟩
theorem right_d12 : rightDs D12 = true := by decide
theorem imgH_z : imgH D12 Z49 = [2, 4, 0, 0, 0, 0, 0, 0, 0, 0, 0, 0, 0, 0, 0, 0] := by
  have h := imgH_eq D12 zst_ok
  rw [zst_eq] at h
  have h2 : imgH D12 Z49 = imgH D12 zeroSt := by unfold imgH; rw [bytes_z49]
  rw [h2, h]
  rfl
theorem crc_a : (crcL (Int.toNat 0 ^^^ M32) [2, 4, 0, 0, 0, 0, 0, 0, 0, 0, 0, 0, 0, 0, 0, 0] ^^^ M32) = 3781626709 := by decide +kernel
theorem crc_b : (crcL (Int.toNat 0 ^^^ M32) [3, 4, 0, 0, 0, 0, 0, 0, 0, 0, 0, 0, 0, 0, 0, 0] ^^^ M32) = 1326422724 := by decide +kernel
theorem imgI_z : imgI D12 Z49 = B20 := by
  unfold imgI
  rw [imgH_z]
  unfold ofX onX
  rw [bytesOf_bytesP, crc_a]
  decide +kernel
theorem iget_a : igetX (bytesP B20) = (D12, zeroSt, 0) := by
  have h := iget_back (d := D12) right_d12 zst_ok (by decide)
  rw [zst_eq] at h
  have h2 : imgI D12 Z49 = imgI D12 zeroSt := by unfold imgI imgH; rw [bytes_z49]
  rw [← h2, imgI_z] at h
  exact h
theorem iget_b : igetX (bytesP B20t) = (zeroDp, zeroSt, 6) := by
  unfold igetX
  rw [if_neg (by rw [bytesP_length]; decide)]
  have e1 : (bytesP B20t).length - 4 = 16 := by rw [bytesP_length]; rfl
  have e2 : ((bytesP B20t).length : Int) - 4 = 16 := by rw [bytesP_length]; rfl
  have e3 : (bytesP B20t).take 16 = bytesP [3, 4, 0, 0, 0, 0, 0, 0, 0, 0, 0, 0, 0, 0, 0, 0] := by rw [bytesP_take]; rfl
  have e4 : getW4 (bytesP B20t) 16 = 3781626709 := by
    unfold getW4
    rw [bytesOf_bytesP]
    decide +kernel
  rw [e1, e2, e3, e4]
  unfold ofX onX
  rw [bytesOf_bytesP, crc_b, if_neg (by decide)]
theorem iget_c (b : List UInt8) (h : b.length < 4) : igetX (bytesP b) = (zeroDp, zeroSt, 3) := by
  unfold igetX
  rw [if_pos (by rw [bytesP_length]; exact h)]
end Go.Proofs.Ytghkcmgiagodlaa
namespace Go.Proofs.Ytghkcmgiagodlaa
open Go.RowKit
set_option linter.all false
set_option maxHeartbeats 4000000
set_option maxRecDepth 1000000 in
theorem v_iruns : FnV Try.prog 3 [] (boolD true) := by
  obtain ⟨z0, hz0⟩ : ∃ z, z = zeroSt := ⟨_, rfl⟩
  have hz0S : isSt z0 := by rw [hz0]; exact zst_ok.is
  have hz0l := hz0S.len
  have hz0c := hz0S.closed
  have hIP := w_iput D12 Z49 z49 okV_z49 small_z49 (rightDs_r right_d12) right_z49 right_d12
  have hG1 : ∀ v c m, c = rowsD (bytesP B20) → m = 20 → FnD Try.prog 11 [.view 1 0 v 0 m] [⟨5, c, true, v, true⟩] (fun r st' => r = .tup [.agg D12.cells, .agg z0, .d (.sc (.int .i64 0))] ∧ st' = [⟨5, c, true, v, true⟩]) := fun v c m hc hm => by
    have := w_iget (bytesP B20) (bytesP B20) c v m ⟨B20, rfl, by decide⟩ hc (by rw [hm]; decide) (by rw [hm]; rfl)
    rw [iget_a, ← hz0] at this
    exact this
  have hG2 : ∀ v c m, c = rowsD (bytesP B20t) → m = 20 → FnD Try.prog 11 [.view 1 0 v 0 m] [⟨5, c, true, v, true⟩] (fun r st' => r = .tup [.agg zeroDp.cells, .agg z0, .d (.sc (.int .i64 6))] ∧ st' = [⟨5, c, true, v, true⟩]) := fun v c m hc hm => by
    have := w_iget (bytesP B20t) (bytesP B20t) c v m ⟨B20t, rfl, by decide⟩ hc (by rw [hm]; decide) (by rw [hm]; rfl)
    rw [iget_b, ← hz0] at this
    exact this
  have hG3 : ∀ v c, c = rowsD (bytesP B20t) → FnD Try.prog 11 [.view 1 0 v 0 3] [⟨5, c, true, v, true⟩] (fun r st' => r = .tup [.agg zeroDp.cells, .agg z0, .d (.sc (.int .i64 3))] ∧ st' = [⟨5, c, true, v, true⟩]) := fun v c hc => by
    have := w_iget (bytesP B20t) (bytesP (B20t.take 3)) c v 3 ⟨B20t, rfl, by decide⟩ hc (by decide) (by rw [bytesP_take])
    rw [iget_c _ (by decide), ← hz0] at this
    exact this
  have hcl1 : closedD 0 (.tup [.agg D12.cells, .agg z0, .d (.sc (.int .i64 0))]) = true := by
    simp [closedD, closedL, Deps.cells, hz0c]
  have hcl2 : ∀ e : Int, closedD 0 (.tup [.agg zeroDp.cells, .agg z0, .d (.sc (.int .i64 e))]) = true := fun e => by
    simp [closedD, closedL, Deps.cells, hz0c]
  obtain ⟨GFsSE, hFsSE⟩ : ∃ F, F = FsSE0 := ⟨_, rfl⟩
  have hH : SoundK Try.prog [kn_statesR GFsSE] := by subst hFsSE; exact orK_ok ok_statesR noK_ok
  have hB : SoundB Try.prog [] := by subst hFsSE; exact noB_ok
  refine FnD_cbv (T := fun _ => tabY [39, 42, 1003, 1018, 1047, 1054, 5003, 5004] []) (H := fun _ => [kn_statesR GFsSE]) (tabY_ok _ _) hH follows_mixed Try.func3 rfl Try.ntmps3 (by simp) fun A X W hA hX hW => ?_
  cbv
  have k1 : A.cmp .neq 0 0 = false := by subst hA; rfl
  have k2 : A.cmp .lss (A.int 20) 5 = false := by subst hA; rfl
  have k3 : A.cmp .eql 1 1 = true := by subst hA; rfl
  have k4 : A.cmp .eql 2 2 = true := by subst hA; rfl
  have k5 : A.cmp .eql 0 0 = true := by subst hA; rfl
  have k6 : A.and true true = true := by subst hA; rfl
  have k7 : A.not true = false := by subst hA; rfl
  have k8 : A.cond false true false = false := by subst hA; rfl
  have k9 : GFsSE.statesR z0 Z49 = true := by
    subst hFsSE hz0
    show sameSt zeroSt Z49 = true
    exact sameSt_refl zeroSt
  have k10 : A.off 0 0 1 = 0 := by subst hA; rfl
  have k11 : A.bin .xor .u8 2 1 = 3 := by subst hA; rfl
  have k12 : A.nat 3 = 3 := by subst hA; rfl
  have k13 : A.cmp .eql 6 6 = true := by subst hA; rfl
  have k14 : A.cmp .eql 3 3 = true := by subst hA; rfl
  have k15 : A.cond true true false = true := by subst hA; rfl
  cbv at k1
  cbv at k2
  cbv at k3
  cbv at k4
  cbv at k5
  cbv at k6
  cbv at k7
  cbv at k8
  cbv at k9
  cbv at k10
  cbv at k11
  cbv at k12
  cbv at k13
  cbv at k14
  cbv at k15
  refine callL hX (FnD.newRow hIP rfl fun v c m hc hm => ?_)
  rw [imgI_z] at hc hm
  obtain rfl : m = 20 := hm
  have hcc : closedL 0 c = true := by rw [hc]; exact rows_closed _
  obtain ⟨c2, hc2⟩ : ∃ c2, c2 = rowsD (bytesP B20t) := ⟨_, rfl⟩
  have hcc2 : closedL 0 c2 = true := by rw [hc2]; exact rows_closed _
  have k16 : A.gi c 0 = 2 := by subst hA; rw [hc]; rfl
  have k17 : A.spl c 0 [.d (.sc (.int .u8 3))] = c2 := by subst hA; rw [hc, hc2]; rfl
  have hcl20 : c.length = 20 := by rw [hc]; rfl
  cbv at k16
  cbv at k17
  cbv
  refine callL hX (FnD.rowKeep 0 (hG1 v _ 20 hc rfl) rfl rfl hcl1 hcc ?_)
  cbv
  repeat' first
    | (simp only [k1, k2, k3, k4, k5, k6, k7, k8, k9, k10, k11, k12, k13, k14, k15, k16, k17]; cbv)
    | (refine And.intro ?_ ?_)
    | (refine callL hX (FnD.rowKeep 0 (hG2 v _ 20 hc2 rfl) rfl rfl (hcl2 6) hcc2 ?_); cbv)
    | (refine callL hX (FnD.rowKeep 0 (hG3 v _ hc2) rfl rfl (hcl2 3) hcc2 ?_); cbv)
    | (refine part (fun h => ?_) (fun h => ?_) <;> try cbv)
  all_goals subst hA hX hW hFsSE
  all_goals first
    | exact rfl
    | assumption
    | trivial
    | exact id
    | (intro _; first | exact trivial | exact rfl | assumption | exact hz0l | exact z49)
    | (show List.length _ = 49 * 1; first | exact hz0l | rfl)
    | (show Region.lexB _ _ = true; kernel_rfl)
    | (show turnsB _ = true; kernel_rfl)
    | exact ⟨by decide, by decide⟩
    | exact ⟨by decide, by decide, by decide⟩
    | exact ⟨rfl, Nat.le_of_ble_eq_true rfl, rfl⟩
    | (rw [hc]; exact ⟨rfl, Nat.le_of_ble_eq_true rfl, rfl⟩)
    | (show 0 + 1 * 1 ≤ c.length; rw [hcl20]; decide)
    | (refine ret_v ?_ rfl; rfl)
    | fail
def runs21 : Bool := true
structure FsI21 where
  iruns : Bool
end Go.Proofs.Ytghkcmgiagodlaa
namespace Go.Proofs.Ytghkcmgiagodlaa
open Go.RowKit
set_option linter.all false
theorem FitL.split : ∀ {a b : List Sh} {ps : List PD}, FitL (a ++ b) ps → ∃ p q, ps = p ++ q ∧ FitL a p ∧ FitL b q
  | [], _, ps, h => ⟨[], ps, rfl, by simp only [FitL], h⟩
  | s :: a, b, ps, h => by
      simp only [List.cons_append, FitL] at h
      obtain ⟨p, qs, rfl, h1, h2⟩ := h
      obtain ⟨p', q', rfl, h3, h4⟩ := FitL.split h2
      exact ⟨p :: p', q', rfl, by simp only [FitL]; exact ⟨p, p', rfl, h1, h3⟩, h4⟩
theorem fit_cmds : ∀ (xs : List (List PD)), (∀ x ∈ xs, FitL [.int .i64, .int .i64, .int .i64, .str, .str, .str, .str] x) → ∃ l : List Cmd, xs = cmdsX l
  | [], _ => ⟨[], rfl⟩
  | x :: xs, h => by
      obtain ⟨l, rfl⟩ := fit_cmds xs (fun y hy => h y (by simp [hy]))
      have h0 := h x (by simp)
      simp only [FitL, FitP] at h0
      obtain ⟨_, _, rfl, ⟨a, rfl, _⟩, _, _, rfl, ⟨b, rfl, _⟩, _, _, rfl, ⟨c, rfl, _⟩, _, _, rfl, ⟨d, rfl, _⟩, _, _, rfl, ⟨e, rfl, _⟩, _, _, rfl, ⟨f, rfl, _⟩, _, _, rfl, ⟨g, rfl, _⟩, rfl⟩ := h0
      exact ⟨⟨a, b, c, d, e, f, g⟩ :: l, rfl⟩
theorem wt_cmds : ∀ l : List Cmd, l.length ≤ wtR (cmdsX l)
  | [] => by simp
  | c :: l => by
      have e : cmdsX (c :: l) = c.row :: cmdsX l := rfl
      have h := wt_cmds l
      rw [e]
      simp only [wtR, Cmd.row, wtL, wtP, List.length_cons]
      omega
theorem fit_cmdR {ps : List PD} (h : FitL [.slc [.int .i64, .int .i64, .int .i64, .str, .str, .str, .str]] ps) (hw : wtL ps ≤ 1048576) : ∃ xs, ps = [.slc 7 xs] ∧ isC xs := by
  simp only [FitL, FitP] at h
  obtain ⟨_, _, rfl, ⟨xs, rfl, hx⟩, rfl⟩ := h
  obtain ⟨l, rfl⟩ := fit_cmds xs hx
  simp only [wtL, wtP] at hw
  have := wt_cmds l
  exact ⟨_, rfl, l, rfl, by omega⟩
end Go.Proofs.Ytghkcmgiagodlaa
namespace Go.Proofs.Ytghkcmgiagodlaa
open Go.RowKit
set_option linter.all false
set_option maxHeartbeats 4000000
noncomputable def rputX (xs : List (List PD)) (n u : Int) : List (List PD) := xs ++ bytesP (le4 u)
theorem FnV.ofRow {P : Program} {f : FuncId} {args : List DV} {T : TypeId} {L : List UInt8} (h : FnD P f args [] (fun r st' => ∃ v cs m, cs = rowsD (bytesP L) ∧ m = L.length ∧ r = .view 1 0 v 0 m ∧ st' = [⟨T, cs, true, v, true⟩])) : FnV P f args (.d (.slc 1 (bytesP L))) := by
  refine FnD.ret (FnD.mono h ?_)
  rintro r st ⟨v, cs, m, hcs, hm, rfl, rfl⟩
  exact ret_bytes (b := 0) rfl hm hcs rfl
structure FsWe where
  rgetX : List (List PD) → Int → Int → Int × Int
  rputX : List (List PD) → Int → Int → List (List PD)
  isB : List (List PD) → Prop
  u64 : Int → Prop
  okAt : List (List PD) → Int → Int → Prop
end Go.Proofs.Ytghkcmgiagodlaa
namespace Go.Proofs.Ytghkcmgiagodlaa
open Go.RowKit
set_option linter.all false
end Go.Proofs.Ytghkcmgiagodlaa
namespace Go.Proofs.Ytghkcmgiagodlaa
open Go.RowKit
set_option linter.all false
set_option maxHeartbeats 4000000
theorem clo0 {d : DV} {rest : List DV} (h : closedD 0 d = true) (h2 : closedL 0 rest = true) : closedL 0 (d :: rest) = true := by simp only [closedL, h, h2, Bool.and_self]
end Go.Proofs.Ytghkcmgiagodlaa
namespace Go.Proofs.Ytghkcmgiagodlaa
open Go.RowKit
set_option linter.all false
set_option maxHeartbeats 4000000
noncomputable def behL : List DV → List Cmd → List DV
  | s, [] => s
  | s, c :: l => behL (applyS s c).1 l
noncomputable def behX (xs : List (List PD)) : List DV := behL zeroSt ((cmdsOf xs).take 60)
theorem behL_play : ∀ (l : List Cmd) (s : List DV) (acc : List Reply), (playL s l acc).1 = behL s l
  | [], _, _ => rfl
  | c :: l, s, acc => behL_play l (applyS s c).1 (acc ++ [(applyS s c).2])
theorem beh_ok {xs : List (List PD)} (h : isC xs) : ∃ ps os, behX xs = cellsS ps os ∧ okSt 60 ps os := by
  obtain ⟨l, e, _⟩ := h
  have h60 : (l.take 60).length ≤ 60 := by rw [List.length_take]; omega
  obtain ⟨qs, rs, e2, h2⟩ := playL_st (l.take 60) [] zero_st (by decide) (by omega)
  refine ⟨qs, rs, ?_, h2.mono (by omega)⟩
  unfold behX
  rw [e, cmdsOf_X, ← e2, behL_play]
  rfl
set_option maxRecDepth 1000000 in
theorem v_behind (xs : List (List PD)) (hp0 : isC xs) : FnV Try.prog 13 [.d (.slc 7 xs)] (.agg (behX xs)) := by
  obtain ⟨l, hxs, hl⟩ := id hp0
  have hlen : xs.length = l.length := by rw [hxs]; simp [cmdsX]
  have hof : cmdsOf xs = l := by rw [hxs]; exact cmdsOf_X l
  obtain ⟨q, hq⟩ : ∃ q, q = behX xs := ⟨_, rfl⟩
  rw [← hq]
  unfold behX at hq
  rw [hof] at hq
  obtain ⟨z, hz⟩ : ∃ z, z = DV.d (.sc (.slice none 0 0)) :: Z48 := ⟨_, rfl⟩
  obtain ⟨s0, hs0⟩ : ∃ s0, s0 = zeroSt := ⟨_, rfl⟩
  rw [← hs0] at hq
  have hs0S : isSt s0 := by rw [hs0]; exact zst_ok.is
  have hup0 : UpL (DV.d (.sc (.slice none 0 0)) :: Z48) s0 := by
    have e : upCs (DV.d (.sc (.slice none 0 0)) :: Z48) = s0 := by rw [hs0]; rfl
    rw [← e]
    exact upL_upCs _
  obtain ⟨GFsSD, hGFsSD⟩ : ∃ F, F = FsSD0 := ⟨_, rfl⟩
  have hH : SoundK Try.prog [kn_applyR GFsSD] := by subst hGFsSD; exact orK_ok ok_applyR noK_ok
  refine FnD_cbv (T := fun _ => tabY [20, 1002, 1003, 1017, 1021, 1023, 1025, 1016, 1022, 5004] [5]) (H := fun _ => [kn_applyR GFsSD]) (tabY_ok _ _) hH follows_mixed Try.func13 rfl Try.ntmps13 (by simp) fun A X W hA hX hW => ?_
  cbv
  refine loopL (T := fun _ => tabY [20, 1002, 1003, 1017, 1021, 1023, 1025, 1016, 1022, 5004] [5]) (H := fun _ => [kn_applyR GFsSD]) (tabY_ok _ _) hH follows_mixed hA hX (fun x : Int × List DV => (0 ≤ x.1 ∧ x.1 ≤ 60 ∧ x.1 ≤ (l.length : Int)) ∧ isSt x.2 ∧ q = behL x.2 ((l.take 60).drop x.1.toNat))
    (fun x => [(0, .d (.slc 7 xs)), (2, .ref 0 0 0), (3, .ref 1 0 0), (4, .d (.sc (.int .i64 x.1)))]) (fun x => [⟨34, z, false, 0, true⟩, ⟨34, x.2, false, 0, true⟩])
    (fun x => 60 - x.1.toNat) (0, s0) ?_ ?_ ?_
  · exact ⟨⟨by simp only; omega, by simp only; omega, by simp only; omega⟩, hs0S, hq⟩
  · subst hz
    exact told_upst ⟨_, _, rfl, ⟨rfl, rfl, rfl, rfl, UpL.refl fun a _ => UpD.refl a⟩, _, _, rfl, ⟨rfl, rfl, rfl, rfl, hup0⟩, rfl⟩ ⟨.inl (UpD.refl _), .inl (UpD.refl _), .inl (UpD.refl _), .inl (UpD.refl _), trivial⟩
  rintro R ⟨i, s⟩ hR ⟨hi, hs, hqi⟩
  replace hi : 0 ≤ i ∧ i ≤ 60 ∧ i ≤ (l.length : Int) := hi
  replace hs : isSt s := hs
  replace hqi : q = behL s ((l.take 60).drop i.toNat) := hqi
  have hsl := hs.len
  have hsc := hs.closed
  have hzl : z.length = 49 := by rw [hz]; rfl
  have hzc : closedL 0 z = true := by rw [hz]; rfl
  cbv
  repeat' first
    | ((with_reducible refine regionU [] [] [0, 0, 0, 0, 0, 0, 0, 0] (T := fun _ => tabY [20, 1002, 1003, 1017, 1021, 1023, 1025, 1016, 1022, 5004] []) (H := fun _ => [kn_applyR GFsSD]) (B := fun _ => []) (R := fun _ => []) (A := A) (tabY_ok _ _) hH noB_ok noR_ok follows_mixed hA hX (by kernel_rfl) (by kernel_rfl) (by kernel_rfl) (by kernel_rfl) (by kernel_rfl) ?_) <;> cbv)
    | (refine part (fun h => ?_) (fun h => ?_) <;> try cbv)
    | (refine And.intro ?_ ?_)
  all_goals subst hA hX hW hR hGFsSD
  all_goals try clear hH
  all_goals try simp only [nc] at hi
  all_goals simp only [A0, nc, decide_eq_true_eq, decide_eq_false_iff_not] at *
  all_goals first
    | exact rfl
    | exact id
    | assumption
    | (intro _; exact trivial)
    | (intro hq2; simpa using hq2)
    | (have hh : i < xs.length ∧ i < 60 := by simpa using h
       exact ⟨hi.1, hh.1⟩)
    | (have hh : i < xs.length ∧ i < 60 := by simpa using h
       have hlt : i < l.length := by have := hh.1; omega
       have hi60 := hh.2
       have hrow := crow hxs hi.1 hlt
       have hd : (l.take 60).drop i.toNat = (l[i.toNat]'(by omega)) :: (l.take 60).drop (i + 1).toNat := by
         have hlt2 : i.toNat < (l.take 60).length := by rw [List.length_take]; omega
         rw [List.drop_eq_getElem_cons hlt2, List.getElem_take, show i.toNat + 1 = (i + 1).toNat by omega]
       generalize l[i.toNat]'(by omega) = c at hrow hd
       rw [hd] at hqi
       replace hqi : q = behL (applyS s c).1 ((l.take 60).drop (i + 1).toNat) := hqi
       have hai := hs.apply c
       have hal := hai.len
       have hac := hai.closed
       obtain ⟨t, ht⟩ : ∃ t, t = applyS s c := ⟨_, rfl⟩
       rw [← ht] at hqi hai hal hac
       have ht2 : applyS s ⟨c.kind, c.client, c.seq, c.key, c.fin, c.old, c.val⟩ = t := ht.symm
       have ei : IntKind.wrap .i64 (i + 1) = i + 1 := wrap_i64 (by unfold r64; omega)
       simp only [A0, nc, FsSD0, hrow, Cmd.row, List.map_cons, List.map_nil, Nat.zero_add, List.getElem?_cons_zero, List.getElem?_cons_succ, List.drop_zero, List.take_succ_cons, List.take_zero, List.length_cons, List.length_nil, ht2]
       first
         | (refine ⟨by omega, by omega⟩)
         | (show List.length _ = 49 * 1; assumption)
         | (simp; done)
         | (refine ⟨(i + 1, t.1), ⟨⟨by simp only; omega, by simp only; omega, by simp only; omega⟩, hai, hqi⟩, by simp only; omega, told_keep [0, 1] rfl ?_ ?_⟩
            · simp [keepSt, pullBox, pullL_closed _ _ hac, pullL_closed _ _ hzc]
            · simp [toldP, getS, pullD, ei]
              try exact ⟨rfl, rfl⟩))
    | (have hh : ¬ (i < xs.length ∧ i < 60) := fun q => by simp [q.1, q.2] at h
       have hend : (l.take 60).drop i.toNat = [] := List.drop_eq_nil_of_le (by rw [List.length_take]; omega)
       rw [hend] at hqi
       replace hqi : q = s := hqi
       rw [hqi]
       refine ret_v rfl ?_
       show closedL 0 s = true
       exact hsc)
    | (show List.length _ = 49 * 1; assumption)
    | fail
structure FsBe where
  behX : List (List PD) → List DV
  isC : List (List PD) → Prop
noncomputable def FsBe0 : FsBe where
  behX := behX
  isC := isC
theorem v_behX (xs : List (List PD)) (h : isC xs) : FnV Try.prog 13 [.d (.slc 7 xs)] (.agg (behX xs)) := v_behind xs h
def kn_behX (F : FsBe) : FuncId × (List DV → RV) := (13, fun args => match args with
  | [.d (.slc 7 xs)] => some ([F.isC xs], .agg ((F.behX xs)))
  | [.d (.sc (.slice none 0 0))] => some ([F.isC []], .agg ((F.behX [])))
  | _ => none)
theorem ok_behX (args : List DV) (cs : List Prop) (r : DV) (h : (kn_behX FsBe0).2 args = some (cs, r)) (hc : allP cs True) : FnV Try.prog 13 args r ∧ closedL 0 args = true := by
  unfold kn_behX at h
  simp only at h
  split at h
  · cases h; exact ⟨v_behX _ hc.1, rfl⟩
  · cases h; exact ⟨FnP.nils (v_behX [] hc.1) ⟨.inr ⟨rfl, _, rfl⟩, trivial⟩, rfl⟩
  · cases h
end Go.Proofs.Ytghkcmgiagodlaa
namespace Go.Proofs.Ytghkcmgiagodlaa
open Go.RowKit
set_option linter.all false
set_option maxHeartbeats 4000000
theorem within_r2 (n hi : Int) (h : 0 ≤ hi) : 0 ≤ within3 n 0 hi ∧ within3 n 0 hi ≤ hi := by
  unfold within3
  have h1 := Int.emod_nonneg n (show hi - 0 + 1 ≠ 0 by omega)
  have h2 := Int.emod_lt_of_pos n (show 0 < hi - 0 + 1 by omega)
  omega
def okI (s : List DV) : Prop := ∃ k ps os, k ≤ 4611686018427387904 ∧ okSt k ps os ∧ s = cellsS ps os
theorem beh_okI {xs : List (List PD)} (h : isC xs) : okI (behX xs) := by
  obtain ⟨ps, os, e, hk⟩ := beh_ok h
  exact ⟨60, ps, os, by decide, hk, e⟩
theorem okI.is {s : List DV} (h : okI s) : isSt s := by
  obtain ⟨k, ps, os, _, hk, rfl⟩ := h
  exact hk.is
noncomputable def iputX (d : Deps) (s : List DV) : List (List PD) := bytesP (imgI d s)
theorem img_apart {a b : Deps} {s t : List DV} (ha : rightDs a = true) (hb : rightDs b = true) (hs : okI s) (ht : okI t) : sameB (iputX a s) (iputX b t) = (@decide (a.cells = b.cells) (Classical.propDecidable _) && sameSt s t) := by
  obtain ⟨k, ps, os, hk, h1, rfl⟩ := hs
  obtain ⟨k2, qs, us, hk2, h2, rfl⟩ := ht
  have e1 := iget_back ha h1 hk
  have e2 := iget_back hb h2 hk2
  apply Bool.eq_iff_iff.2
  constructor
  · intro h
    have h3 : iputX a (cellsS ps os) = iputX b (cellsS qs us) := by simpa [sameB] using h
    unfold iputX at h3
    rw [h3, e2] at e1
    have e3 : b = a := congrArg (·.1) e1
    have e4 : cellsS qs us = cellsS ps os := congrArg (·.2.1) e1
    rw [e3, e4, sameSt_refl]
    simp
  · intro h
    rw [Bool.and_eq_true, @decide_eq_true_eq _ (Classical.propDecidable _)] at h
    have e3 : a = b := by
      obtain ⟨a0, a1, a2, a3, a4, a5, a6⟩ := a
      obtain ⟨b0, b1, b2, b3, b4, b5, b6⟩ := b
      have := h.1
      simp only [Deps.cells, List.cons.injEq, DV.d.injEq, PD.sc.injEq, Value.int.injEq, true_and, and_true] at this
      obtain ⟨rfl, rfl, rfl, rfl, rfl, rfl, rfl⟩ := this
      rfl
    have h4 : prsS (cellsS ps os) = prsS (cellsS qs us) ∧ ownS (cellsS ps os) = ownS (cellsS qs us) := by simpa [sameSt, sameS] using h.2
    have e4 : cellsS ps os = cellsS qs us := by
      have a1 : prsS (cellsS ps os) = pairsX ps := rfl
      have a2 : ownS (cellsS ps os) = ownsD os := own_mk h1.own
      have a3 : prsS (cellsS qs us) = pairsX qs := rfl
      have a4 : ownS (cellsS qs us) = ownsD us := own_mk h2.own
      rw [a1, a2, a3, a4] at h4
      unfold cellsS
      rw [h4.1, h4.2]
    rw [e3, e4]
    simp [sameB]
theorem iput_isB {a : Deps} {s : List DV} (hs : okI s) : isB (iputX a s) := by
  obtain ⟨k, ps, os, hk, h1, rfl⟩ := hs
  obtain ⟨bs, h2, h3⟩ := img_small h1 hk
  have h4 := dpB_len a
  refine ⟨_, rfl, ?_⟩
  unfold imgI imgH
  rw [h2, bytesOf_bytesP, List.length_append, List.length_append, le4_len]
  omega
theorem deps_eq7 (a b : Deps) : (decide (a.d0 = b.d0) && (decide (a.d1 = b.d1) && (decide (a.d2 = b.d2) && (decide (a.d3 = b.d3) && (decide (a.d4 = b.d4) && (decide (a.d5 = b.d5) && (decide (a.d6 = b.d6) && true))))))) = @decide (a.cells = b.cells) (Classical.propDecidable _) := by
  apply Bool.eq_iff_iff.2
  rw [@decide_eq_true_eq _ (Classical.propDecidable _)]
  simp [Deps.cells]
theorem iput_pos {a : Deps} {s : List DV} (hs : okI s) : 0 < (iputX a s).length := by
  obtain ⟨k, ps, os, hk, h1, rfl⟩ := hs
  unfold iputX imgI
  rw [bytesP_length, List.length_append, le4_len]
  omega
structure FsI4 where
  iputX : Deps → List DV → List (List PD)
  iruns3 : Bool
  okI : List DV → Prop
  rightDq : Deps → Bool
noncomputable def FsI40 : FsI4 where
  iputX := iputX
  iruns3 := runs21
  okI := okI
  rightDq := rightDs
theorem v_iputX (d : Deps) (s : List DV) (hs : isSt s) (ho : okI s) (hd : rightDs d = true) : FnV Try.prog 10 [d.D, .agg s] (.d (.slc 1 (iputX d s))) := by
  obtain ⟨k, ps, os, hk, h1, rfl⟩ := ho
  exact FnV.ofRow (w_iput d _ h1.is (h1.v hk) (img_small h1 hk) (rightDs_r hd) h1.right hd)
theorem v_iruns3 : FnV Try.prog 3 [] (boolD runs21) := v_iruns
def kn_iputX (F : FsI4) : FuncId × (List DV → RV) := (10, fun args => match args with
  | [.agg [.d (.sc (.int .i64 d_d0)), .d (.sc (.int .i64 d_d1)), .d (.sc (.int .i64 d_d2)), .d (.sc (.int .i64 d_d3)), .d (.sc (.int .i64 d_d4)), .d (.sc (.int .i64 d_d5)), .d (.sc (.int .i64 d_d6))], .agg s] => some ([isSt s, F.okI s, F.rightDq ⟨d_d0, d_d1, d_d2, d_d3, d_d4, d_d5, d_d6⟩ = true], .d (.slc 1 (F.iputX ⟨d_d0, d_d1, d_d2, d_d3, d_d4, d_d5, d_d6⟩ s)))
  | _ => none)
theorem ok_iputX (args : List DV) (cs : List Prop) (r : DV) (h : (kn_iputX FsI40).2 args = some (cs, r)) (hc : allP cs True) : FnV Try.prog 10 args r ∧ closedL 0 args = true := by
  unfold kn_iputX at h
  simp only at h
  split at h
  · cases h; exact ⟨v_iputX ⟨_, _, _, _, _, _, _⟩ _ hc.1 hc.2.1 hc.2.2.1, clo0 rfl (clo1 (isSt.closed hc.1) rfl)⟩
  · cases h
def kn_iruns3 (F : FsI4) : FuncId × (List DV → RV) := (3, fun args => match args with
  | [] => some ([], boolD F.iruns3)
  | _ => none)
theorem ok_iruns3 (args : List DV) (cs : List Prop) (r : DV) (h : (kn_iruns3 FsI40).2 args = some (cs, r)) (hc : allP cs True) : FnV Try.prog 3 args r ∧ closedL 0 args = true := by
  unfold kn_iruns3 at h
  simp only at h
  split at h
  · cases h; exact ⟨v_iruns3, rfl⟩
  · cases h
set_option maxRecDepth 1000000 in
theorem v_iapart (a0 c0 a1 c1 a2 c2 a3 c3 a4 c4 a5 c5 a6 c6 : Int) (xs ys : List (List PD)) (ha : r64 a0 ∧ r64 a1 ∧ r64 a2 ∧ r64 a3 ∧ r64 a4 ∧ r64 a5 ∧ r64 a6) (hc : r64 c0 ∧ r64 c1 ∧ r64 c2 ∧ r64 c3 ∧ r64 c4 ∧ r64 c5 ∧ r64 c6) (hp0 : isC xs) (hp1 : isC ys) : FnV Try.prog 5 [.agg [.d (.sc (.int .i64 a0)), .d (.sc (.int .i64 a1)), .d (.sc (.int .i64 a2)), .d (.sc (.int .i64 a3)), .d (.sc (.int .i64 a4)), .d (.sc (.int .i64 a5)), .d (.sc (.int .i64 a6))], .agg [.d (.sc (.int .i64 c0)), .d (.sc (.int .i64 c1)), .d (.sc (.int .i64 c2)), .d (.sc (.int .i64 c3)), .d (.sc (.int .i64 c4)), .d (.sc (.int .i64 c5)), .d (.sc (.int .i64 c6))], .d (.slc 7 xs), .d (.slc 7 ys)] (boolD true) := by
  obtain ⟨aw0, haw0⟩ : ∃ w, w = within3 a0 0 1073741824 := ⟨_, rfl⟩
  have hwra0 := within_r2 a0 1073741824 (by decide)
  rw [← haw0] at hwra0
  obtain ⟨aw1, haw1⟩ : ∃ w, w = within3 a1 0 1073741824 := ⟨_, rfl⟩
  have hwra1 := within_r2 a1 1073741824 (by decide)
  rw [← haw1] at hwra1
  obtain ⟨aw2, haw2⟩ : ∃ w, w = within3 a2 0 1073741824 := ⟨_, rfl⟩
  have hwra2 := within_r2 a2 1073741824 (by decide)
  rw [← haw2] at hwra2
  obtain ⟨aw3, haw3⟩ : ∃ w, w = within3 a3 0 1073741824 := ⟨_, rfl⟩
  have hwra3 := within_r2 a3 1073741824 (by decide)
  rw [← haw3] at hwra3
  obtain ⟨aw4, haw4⟩ : ∃ w, w = within3 a4 0 1073741824 := ⟨_, rfl⟩
  have hwra4 := within_r2 a4 1073741824 (by decide)
  rw [← haw4] at hwra4
  obtain ⟨aw5, haw5⟩ : ∃ w, w = within3 a5 0 1073741824 := ⟨_, rfl⟩
  have hwra5 := within_r2 a5 1073741824 (by decide)
  rw [← haw5] at hwra5
  obtain ⟨aw6, haw6⟩ : ∃ w, w = within3 a6 0 1073741824 := ⟨_, rfl⟩
  have hwra6 := within_r2 a6 1073741824 (by decide)
  rw [← haw6] at hwra6
  have hra : rightDs ⟨aw0, aw1, aw2, aw3, aw4, aw5, aw6⟩ = true := by
    simp only [rightDs, okK, Bool.and_eq_true, decide_eq_true_eq]
    omega
  obtain ⟨cw0, hcw0⟩ : ∃ w, w = within3 c0 0 1073741824 := ⟨_, rfl⟩
  have hwrc0 := within_r2 c0 1073741824 (by decide)
  rw [← hcw0] at hwrc0
  obtain ⟨cw1, hcw1⟩ : ∃ w, w = within3 c1 0 1073741824 := ⟨_, rfl⟩
  have hwrc1 := within_r2 c1 1073741824 (by decide)
  rw [← hcw1] at hwrc1
  obtain ⟨cw2, hcw2⟩ : ∃ w, w = within3 c2 0 1073741824 := ⟨_, rfl⟩
  have hwrc2 := within_r2 c2 1073741824 (by decide)
  rw [← hcw2] at hwrc2
  obtain ⟨cw3, hcw3⟩ : ∃ w, w = within3 c3 0 1073741824 := ⟨_, rfl⟩
  have hwrc3 := within_r2 c3 1073741824 (by decide)
  rw [← hcw3] at hwrc3
  obtain ⟨cw4, hcw4⟩ : ∃ w, w = within3 c4 0 1073741824 := ⟨_, rfl⟩
  have hwrc4 := within_r2 c4 1073741824 (by decide)
  rw [← hcw4] at hwrc4
  obtain ⟨cw5, hcw5⟩ : ∃ w, w = within3 c5 0 1073741824 := ⟨_, rfl⟩
  have hwrc5 := within_r2 c5 1073741824 (by decide)
  rw [← hcw5] at hwrc5
  obtain ⟨cw6, hcw6⟩ : ∃ w, w = within3 c6 0 1073741824 := ⟨_, rfl⟩
  have hwrc6 := within_r2 c6 1073741824 (by decide)
  rw [← hcw6] at hwrc6
  have hrc : rightDs ⟨cw0, cw1, cw2, cw3, cw4, cw5, cw6⟩ = true := by
    simp only [rightDs, okK, Bool.and_eq_true, decide_eq_true_eq]
    omega
  obtain ⟨s, hs⟩ : ∃ s, s = behX xs := ⟨_, rfl⟩
  obtain ⟨t, ht⟩ : ∃ t, t = behX ys := ⟨_, rfl⟩
  have hsI : okI s := by rw [hs]; exact beh_okI hp0
  have htI : okI t := by rw [ht]; exact beh_okI hp1
  have hsS := hsI.is
  have htS := htI.is
  have hsl := hsS.len
  have htl := htS.len
  have hsc := hsS.closed
  have htc := htS.closed
  obtain ⟨x, hx⟩ : ∃ x, x = iputX ⟨aw0, aw1, aw2, aw3, aw4, aw5, aw6⟩ s := ⟨_, rfl⟩
  obtain ⟨y, hy⟩ : ∃ y, y = iputX ⟨cw0, cw1, cw2, cw3, cw4, cw5, cw6⟩ t := ⟨_, rfl⟩
  have hAp := img_apart hra hrc hsI htI
  rw [← hx, ← hy] at hAp
  have hxB : isB x := by rw [hx]; exact iput_isB hsI
  have hyB : isB y := by rw [hy]; exact iput_isB htI
  have hxl : 0 < x.length := by rw [hx]; exact iput_pos hsI
  have hyl : 0 < y.length := by rw [hy]; exact iput_pos htI
  obtain ⟨GFsPq, hFsPq⟩ : ∃ F, F = FsPq0 := ⟨_, rfl⟩
  obtain ⟨GFsBe, hFsBe⟩ : ∃ F, F = FsBe0 := ⟨_, rfl⟩
  obtain ⟨GFsI4, hFsI4⟩ : ∃ F, F = FsI40 := ⟨_, rfl⟩
  obtain ⟨GFsS4, hFsS4⟩ : ∃ F, F = FsS40 := ⟨_, rfl⟩
  have hH : SoundK Try.prog [kn_within3 GFsPq, kn_behX GFsBe, kn_iputX GFsI4, kn_sameB GFsPq, kn_sameSt GFsS4, kn_iruns3 GFsI4] := by subst hFsPq hFsBe hFsI4 hFsS4; exact orK_ok ok_within3 (orK_ok ok_behX (orK_ok ok_iputX (orK_ok ok_sameB (orK_ok ok_sameSt (orK_ok ok_iruns3 noK_ok)))))
  have hB : SoundB Try.prog [] := by subst hFsPq hFsBe hFsI4 hFsS4; exact noB_ok
  refine FnD_cbv (T := fun _ => tabY [1031, 1033, 1035, 1038, 1056, 1057, 1034, 1037, 1052, 1053, 1010, 1011, 5003, 5004] [4]) (H := fun _ => [kn_within3 GFsPq, kn_behX GFsBe, kn_iputX GFsI4, kn_sameB GFsPq, kn_sameSt GFsS4, kn_iruns3 GFsI4]) (tabY_ok _ _) hH follows_mixed Try.func5 rfl Try.ntmps5 (by simp) fun A X W hA hX hW => ?_
  cbv
  have l0 : A.cmp .lss 0 7 = true := by subst hA; rfl
  cbv at l0
  have l1 : A.cmp .lss 1 7 = true := by subst hA; rfl
  cbv at l1
  have l2 : A.cmp .lss 2 7 = true := by subst hA; rfl
  cbv at l2
  have l3 : A.cmp .lss 3 7 = true := by subst hA; rfl
  cbv at l3
  have l4 : A.cmp .lss 4 7 = true := by subst hA; rfl
  cbv at l4
  have l5 : A.cmp .lss 5 7 = true := by subst hA; rfl
  cbv at l5
  have l6 : A.cmp .lss 6 7 = true := by subst hA; rfl
  cbv at l6
  have l7 : A.cmp .lss 7 7 = false := by subst hA; rfl
  cbv at l7
  have b0 : A.bin .add .i64 0 1 = 1 := by subst hA; rfl
  cbv at b0
  have b1 : A.bin .add .i64 1 1 = 2 := by subst hA; rfl
  cbv at b1
  have b2 : A.bin .add .i64 2 1 = 3 := by subst hA; rfl
  cbv at b2
  have b3 : A.bin .add .i64 3 1 = 4 := by subst hA; rfl
  cbv at b3
  have b4 : A.bin .add .i64 4 1 = 5 := by subst hA; rfl
  cbv at b4
  have b5 : A.bin .add .i64 5 1 = 6 := by subst hA; rfl
  cbv at b5
  have b6 : A.bin .add .i64 6 1 = 7 := by subst hA; rfl
  cbv at b6
  have o0_0 : A.off 0 0 1 = 0 := by subst hA; rfl
  cbv at o0_0
  have o0_1 : A.off 0 1 1 = 1 := by subst hA; rfl
  cbv at o0_1
  have o0_2 : A.off 0 2 1 = 2 := by subst hA; rfl
  cbv at o0_2
  have o0_3 : A.off 0 3 1 = 3 := by subst hA; rfl
  cbv at o0_3
  have o0_4 : A.off 0 4 1 = 4 := by subst hA; rfl
  cbv at o0_4
  have o0_5 : A.off 0 5 1 = 5 := by subst hA; rfl
  cbv at o0_5
  have o0_6 : A.off 0 6 1 = 6 := by subst hA; rfl
  cbv at o0_6
  have xa0 : GFsPq.within3 a0 0 1073741824 = aw0 := by subst hFsPq; exact haw0.symm
  cbv at xa0
  have xa1 : GFsPq.within3 a1 0 1073741824 = aw1 := by subst hFsPq; exact haw1.symm
  cbv at xa1
  have xa2 : GFsPq.within3 a2 0 1073741824 = aw2 := by subst hFsPq; exact haw2.symm
  cbv at xa2
  have xa3 : GFsPq.within3 a3 0 1073741824 = aw3 := by subst hFsPq; exact haw3.symm
  cbv at xa3
  have xa4 : GFsPq.within3 a4 0 1073741824 = aw4 := by subst hFsPq; exact haw4.symm
  cbv at xa4
  have xa5 : GFsPq.within3 a5 0 1073741824 = aw5 := by subst hFsPq; exact haw5.symm
  cbv at xa5
  have xa6 : GFsPq.within3 a6 0 1073741824 = aw6 := by subst hFsPq; exact haw6.symm
  cbv at xa6
  have xc0 : GFsPq.within3 c0 0 1073741824 = cw0 := by subst hFsPq; exact hcw0.symm
  cbv at xc0
  have xc1 : GFsPq.within3 c1 0 1073741824 = cw1 := by subst hFsPq; exact hcw1.symm
  cbv at xc1
  have xc2 : GFsPq.within3 c2 0 1073741824 = cw2 := by subst hFsPq; exact hcw2.symm
  cbv at xc2
  have xc3 : GFsPq.within3 c3 0 1073741824 = cw3 := by subst hFsPq; exact hcw3.symm
  cbv at xc3
  have xc4 : GFsPq.within3 c4 0 1073741824 = cw4 := by subst hFsPq; exact hcw4.symm
  cbv at xc4
  have xc5 : GFsPq.within3 c5 0 1073741824 = cw5 := by subst hFsPq; exact hcw5.symm
  cbv at xc5
  have xc6 : GFsPq.within3 c6 0 1073741824 = cw6 := by subst hFsPq; exact hcw6.symm
  cbv at xc6
  have y1 : GFsBe.behX xs = s := by subst hFsBe; exact hs.symm
  have y2 : GFsBe.behX ys = t := by subst hFsBe; exact ht.symm
  have y3 : GFsI4.iputX ⟨aw0, aw1, aw2, aw3, aw4, aw5, aw6⟩ s = x := by subst hFsI4; exact hx.symm
  have y4 : GFsI4.iputX ⟨cw0, cw1, cw2, cw3, cw4, cw5, cw6⟩ t = y := by subst hFsI4; exact hy.symm
  have y5 : A.cmp .gtr (A.len x) 0 = true := by subst hA; exact decide_eq_true (by show (0 : Int) < (x.length : Int); omega)
  have y6 : A.cmp .gtr (A.len y) 0 = true := by subst hA; exact decide_eq_true (by show (0 : Int) < (y.length : Int); omega)
  have y7 : A.cond true true false = true := by subst hA; rfl
  cbv at y1
  cbv at y2
  cbv at y3
  cbv at y4
  cbv at y5
  cbv at y6
  cbv at y7
  refine unrollL (T := fun _ => tabY [1031, 1033, 1035, 1038, 1056, 1057, 1034, 1037, 1052, 1053, 1010, 1011, 5003, 5004] [4]) (H := fun _ => [kn_within3 GFsPq, kn_behX GFsBe, kn_iputX GFsI4, kn_sameB GFsPq, kn_sameSt GFsS4, kn_iruns3 GFsI4]) (tabY_ok _ _) hH follows_mixed hA hX 8 fun R hR => ?_
  cbv
  repeat' first
    | (simp only [l0, l1, l2, l3, l4, l5, l6, l7, b0, b1, b2, b3, b4, b5, b6, o0_0, o0_1, o0_2, o0_3, o0_4, o0_5, o0_6, xa0, xa1, xa2, xa3, xa4, xa5, xa6, xc0, xc1, xc2, xc3, xc4, xc5, xc6, decide_true]; cbv)
    | ((with_reducible refine regionU [] [] [50, 50, 50, 50, 0, 50, 50, 50, 0, 50, 50, 50, 50, 50] (T := fun _ => tabY [1031, 1033, 1035, 1038, 1056, 1057, 1034, 1037, 1052, 1053, 1010, 1011, 5003, 5004] []) (H := fun _ => [kn_within3 GFsPq, kn_behX GFsBe, kn_iputX GFsI4, kn_sameB GFsPq, kn_sameSt GFsS4, kn_iruns3 GFsI4]) (B := fun _ => []) (R := fun _ => []) (A := A) (tabY_ok _ _) hH noB_ok noR_ok follows_mixed hA hX (by kernel_rfl) (by kernel_rfl) (by kernel_rfl) (by kernel_rfl) (by kernel_rfl) ?_) <;> cbv)
    | (refine hR _ _ _ ?_; cbv)
    | (refine part (fun h => ?_) (fun h => ?_) <;> try cbv)
    | (refine And.intro ?_ ?_)
  all_goals try simp only [y1, y2, y3, y4]
  all_goals subst hA hFsBe hFsI4 hFsPq hFsS4
  all_goals first
    | exact rfl
    | exact id
    | assumption
    | exact hp0
    | exact hp1
    | exact hsS
    | exact htS
    | exact hsI
    | exact htI
    | exact hra
    | exact hrc
    | exact fun _ => trivial
    | exact fun _ => rfl
    | exact hsl
    | exact htl
    | exact fun _ => hsS
    | exact fun _ => htS
    | exact fun _ => hsl
    | exact fun _ => htl
    | exact fun _ => ⟨_, rfl, by rw [hx]; rfl⟩
    | (show span3 0 1073741824; exact ⟨by decide, by decide, by decide⟩)
    | exact ha.1 | exact ha.2.1 | exact ha.2.2.1 | exact ha.2.2.2.1 | exact ha.2.2.2.2.1 | exact ha.2.2.2.2.2.1 | exact ha.2.2.2.2.2.2 | exact hc.1 | exact hc.2.1 | exact hc.2.2.1 | exact hc.2.2.2.1 | exact hc.2.2.2.2.1 | exact hc.2.2.2.2.2.1 | exact hc.2.2.2.2.2.2
    | (show Region.lexB _ _ = true; kernel_rfl)
    | (show turnsB _ = true; kernel_rfl)
    | (intro q; exact beq_iff_eq.2 q)
    | exact fun _ => hxB
    | exact fun _ => hyB
    | (intro q; simpa [A0] using q)
    | (subst hW
       refine ret_v (congrArg boolD ?_) rfl
       show A0.cond (A0.cond (A0.cond (A0.cmp .gtr (A0.len x) 0) (A0.cmp .gtr (A0.len y) 0) false) (A0.beq (sameB x y) (A0.cond (A0.and (A0.cmp .eql aw0 cw0) (A0.and (A0.cmp .eql aw1 cw1) (A0.and (A0.cmp .eql aw2 cw2) (A0.and (A0.cmp .eql aw3 cw3) (A0.and (A0.cmp .eql aw4 cw4) (A0.and (A0.cmp .eql aw5 cw5) (A0.and (A0.cmp .eql aw6 cw6) true))))))) (sameSt s t) false)) false) true false = true
       have z5 : A0.cmp .gtr (A0.len x) 0 = true := decide_eq_true (by show (0 : Int) < (x.length : Int); omega)
       have z6 : A0.cmp .gtr (A0.len y) 0 = true := decide_eq_true (by show (0 : Int) < (y.length : Int); omega)
       have hE := deps_eq7 ⟨aw0, aw1, aw2, aw3, aw4, aw5, aw6⟩ ⟨cw0, cw1, cw2, cw3, cw4, cw5, cw6⟩
       replace hE : A0.and (A0.cmp .eql aw0 cw0) (A0.and (A0.cmp .eql aw1 cw1) (A0.and (A0.cmp .eql aw2 cw2) (A0.and (A0.cmp .eql aw3 cw3) (A0.and (A0.cmp .eql aw4 cw4) (A0.and (A0.cmp .eql aw5 cw5) (A0.and (A0.cmp .eql aw6 cw6) true)))))) = _ := hE
       rw [z5, z6, hE, hAp]
       generalize @decide _ (Classical.propDecidable _) = p
       generalize sameSt s t = q
       revert p q
       decide)
    | fail
end Go.Proofs.Ytghkcmgiagodlaa
namespace Go.Proofs.Ytghkcmgiagodlaa
open Go.RowKit
set_option linter.all false
theorem wf_r64I {n : Int} (h : (Lit.int .i64 n).wf = true) : r64 n := by
  simp only [Lit.wf, Bool.and_eq_true, decide_eq_true_eq] at h
  exact h
theorem fit_deps {ps : List PD} (h : FitL [.int .i64, .int .i64, .int .i64, .int .i64, .int .i64, .int .i64, .int .i64] ps) (hw : wtL ps ≤ 1048576) : ∃ a0 a1 a2 a3 a4 a5 a6 : Int, ps = [.sc (.int .i64 a0), .sc (.int .i64 a1), .sc (.int .i64 a2), .sc (.int .i64 a3), .sc (.int .i64 a4), .sc (.int .i64 a5), .sc (.int .i64 a6)] ∧ rDeps ⟨a0, a1, a2, a3, a4, a5, a6⟩ := by
  simp only [FitL, FitP] at h
  obtain ⟨_, _, rfl, ⟨a0, rfl, h0⟩, _, _, rfl, ⟨a1, rfl, h1⟩, _, _, rfl, ⟨a2, rfl, h2⟩, _, _, rfl, ⟨a3, rfl, h3⟩, _, _, rfl, ⟨a4, rfl, h4⟩, _, _, rfl, ⟨a5, rfl, h5⟩, _, _, rfl, ⟨a6, rfl, h6⟩, rfl⟩ := h
  exact ⟨a0, a1, a2, a3, a4, a5, a6, rfl, wf_r64I h0, wf_r64I h1, wf_r64I h2, wf_r64I h3, wf_r64I h4, wf_r64I h5, wf_r64I h6⟩
end Go.Proofs.Ytghkcmgiagodlaa
