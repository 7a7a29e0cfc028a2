/- A state comes back from its bytes and goes on as itself: the law over plain data. No condition but sizes. -/
import Derived.Test.YtghkcmgiagodlaaGB
import Derived.Test.YtghkcmgiagodlaaGA
import Derived.Test.YtghkcmgiagodlaaGD
import Derived.Test.YtghkcmgiagodlaaAm29
import Derived.Test.YtghkcmgiagodlaaStZ
import Derived.Test.YtghkcmgiagodlaaGC
import Derived.Test.YtghkcmgiagodlaaAm45
import Derived.Test.YtghkcmgiagodlaaAm33
namespace Go.Proofs.Ytghkcmgiagodlaa
open Go.RowKit
set_option linter.all false
set_option maxHeartbeats 4000000
theorem sameB_refl (xs : List (List PD)) : sameB xs xs = true := by simp [sameB]
theorem okSt.v {k : Int} {ps : List Pair} {os : List Owner} (h : okSt k ps os) (hk : k ≤ 4611686018427387904) : okV (cellsS ps os) := by
  refine ⟨?_, ?_⟩
  · intro p hp
    rw [show prsS (cellsS ps os) = pairsX ps from rfl, pairsOf_X] at hp
    have := (h.1.2.2 p hp).2.2.2
    unfold r64
    omega
  · intro o ho
    rw [show ownS (cellsS ps os) = ownsD os from own_mk h.own, ownersOf_D h.2.1 rfl] at ho
    obtain ⟨_, _, ⟨_, _, h5, h6, qs, h7, h8, _⟩, _⟩ := h.2.2 o ho
    refine ⟨by unfold r64; omega, ?_⟩
    rw [h7]
    intro p hp
    rw [pairsOf_X] at hp
    have := (h8.2.2 p hp).2.2.2
    unfold r64
    omega
theorem okSt.bytes {k : Int} {ps : List Pair} {os : List Owner} (h : okSt k ps os) (hk : k ≤ 4611686018427387904) : isB8 (bytesSt (cellsS ps os)) := by
  have hv := h.v hk
  have h1 : isPs (pairsX ps) := right_isPs h.1.isP h.1.right hv.1
  have h2 : ∀ o ∈ os, okBo o := fun o ho => by
    have hv2 := hv.2 o (by rw [show ownS (cellsS ps os) = ownsD os from own_mk h.own, ownersOf_D h.2.1 rfl]; exact ho)
    exact okO_bo ((h.2.2 o ho).right) ((h.2.2 o ho).2.2.1.isP) hv2.1 hv2.2
  have h3 := (isLn.nil.prs h1).ows h2
  have e : bytesSt (cellsS ps os) = owsX (prX [] (pairsX ps)) os := by
    unfold bytesSt
    rw [h.right, show prsS (cellsS ps os) = pairsX ps from rfl, show ownS (cellsS ps os) = ownsD os from own_mk h.own, ownersOf_D h.2.1 rfl]
    rfl
  rw [e]
  obtain ⟨bs, e2, h4⟩ := h3
  have := h.2.1
  exact ⟨bs, e2, by omega⟩
end Go.Proofs.Ytghkcmgiagodlaa
namespace Go.Proofs.Ytghkcmgiagodlaa
open Go.RowKit
set_option linter.all false
set_option maxHeartbeats 4000000
theorem leV_le4 {u : Int} (h : 0 ≤ u ∧ u < 4294967296) : leV (le4 u) = u := by
  unfold leV le4
  simp
  omega
theorem le4_len (u : Int) : (le4 u).length = 4 := rfl
theorem rightDs_r {d : Deps} (h : rightDs d = true) : rDeps d := by
  unfold rightDs okK at h
  simp only [Bool.and_eq_true, decide_eq_true_eq] at h
  unfold rDeps r64
  omega
theorem dps_back {bs rest : List UInt8} {d : Deps} (h : rDeps d) (e : bs = dpB d ++ rest) : dpsR (bytesP bs) = (d, ((dpB d).length : Int), 0) := by
  obtain ⟨h0, h1, h2, h3, h4, h5, h6⟩ := h
  unfold dpB at e
  simp only [List.append_assoc] at e
  have e0 := numR_back (bs := bs) (a := 0) [] _ d.d0 h0 e rfl
  have e1 := numR_back (bs := bs) ([] ++ numB d.d0) _ d.d1 h1 (by rw [e]; simp only [List.nil_append]; rfl) rfl
  have e2 := numR_back (bs := bs) (([] ++ numB d.d0) ++ numB d.d1) _ d.d2 h2 (by rw [e]; simp only [List.nil_append, List.append_assoc]; rfl) rfl
  have e3 := numR_back (bs := bs) ((([] ++ numB d.d0) ++ numB d.d1) ++ numB d.d2) _ d.d3 h3 (by rw [e]; simp only [List.nil_append, List.append_assoc]; rfl) rfl
  have e4 := numR_back (bs := bs) (((([] ++ numB d.d0) ++ numB d.d1) ++ numB d.d2) ++ numB d.d3) _ d.d4 h4 (by rw [e]; simp only [List.nil_append, List.append_assoc]; rfl) rfl
  have e5 := numR_back (bs := bs) ((((([] ++ numB d.d0) ++ numB d.d1) ++ numB d.d2) ++ numB d.d3) ++ numB d.d4) _ d.d5 h5 (by rw [e]; simp only [List.nil_append, List.append_assoc]; rfl) rfl
  have e6 := numR_back (bs := bs) (((((([] ++ numB d.d0) ++ numB d.d1) ++ numB d.d2) ++ numB d.d3) ++ numB d.d4) ++ numB d.d5) rest d.d6 h6 (by rw [e]; simp only [List.nil_append, List.append_assoc]) rfl
  unfold dpsR
  simp only [e0, e1, e2, e3, e4, e5, e6]
  refine Prod.ext rfl (Prod.ext ?_ rfl)
  simp only [dpB, List.nil_append]
theorem imgH_eq {k : Int} {ps : List Pair} {os : List Owner} (d : Deps) (h : okSt k ps os) : imgH d (cellsS ps os) = dpB d ++ stB ps os := by
  unfold imgH
  rw [bytesSt_B h.1.isP h.own h.2.1 h.right, bytesOf_bytesP]
theorem img_parts (H : List UInt8) (u : Int) (hu : 0 ≤ u ∧ u < 4294967296) : (bytesP (H ++ le4 u)).length - 4 = H.length ∧ ¬ (bytesP (H ++ le4 u)).length < 4 ∧ (bytesP (H ++ le4 u)).take H.length = bytesP H ∧ getW4 (bytesP (H ++ le4 u)) (((bytesP (H ++ le4 u)).length : Int) - 4) = u := by
  have hl : (bytesP (H ++ le4 u)).length = H.length + 4 := by rw [bytesP_length, List.length_append, le4_len]
  refine ⟨by omega, by omega, by rw [bytesP_take, List.take_left], ?_⟩
  unfold getW4
  rw [bytesOf_bytesP, hl, show (((H.length + 4 : Nat) : Int) - 4).toNat = H.length by omega, List.drop_left]
  exact leV_le4 hu
theorem iget_back {k : Int} {ps : List Pair} {os : List Owner} {d : Deps} (hd : rightDs d = true) (h : okSt k ps os) (hk : k ≤ 4611686018427387904) : igetX (bytesP (imgI d (cellsS ps os))) = (d, cellsS ps os, 0) := by
  obtain ⟨H, hH⟩ : ∃ H, H = imgH d (cellsS ps os) := ⟨_, rfl⟩
  have hu := onX_range 0 (by decide) (bytesP H)
  obtain ⟨u, hu2⟩ : ∃ u, u = ofX (bytesP H) := ⟨_, rfl⟩
  have hu3 : 0 ≤ u ∧ u < 4294967296 := by rw [hu2]; exact hu
  have hI : imgI d (cellsS ps os) = H ++ le4 u := by unfold imgI; rw [← hH, ← hu2]
  obtain ⟨p1, p2, p3, p4⟩ := img_parts H u hu3
  rw [hI]
  unfold igetX
  rw [if_neg p2, p1, p3, p4, if_pos hu2]
  have hHe : H = dpB d ++ stB ps os := by rw [hH, imgH_eq d h]
  have hdp := dps_back (bs := H) (rest := stB ps os) (rightDs_r hd) hHe
  have hg := getSt_back h hk
  rw [bytesSt_B h.1.isP h.own h.2.1 h.right] at hg
  have hdr : (bytesP H).drop (dpB d).length = bytesP (stB ps os) := by rw [hHe, bytesP_drop, List.drop_left]
  unfold igetB
  simp only [hdp]
  rw [if_pos trivial, if_pos hd, show (((dpB d).length : Nat) : Int).toNat = (dpB d).length by omega, hdr, hg]
  simp only
  rw [if_pos trivial]
theorem img_small {k : Int} {ps : List Pair} {os : List Owner} (h : okSt k ps os) (hk : k ≤ 4611686018427387904) : smallS (cellsS ps os) := by
  have hv := h.v hk
  have h1 : isPs (pairsX ps) := right_isPs h.1.isP h.1.right hv.1
  have h2 : ∀ o ∈ os, okBo o := fun o ho => by
    have hv2 := hv.2 o (by rw [show ownS (cellsS ps os) = ownsD os from own_mk h.own, ownersOf_D h.2.1 rfl]; exact ho)
    exact okO_bo ((h.2.2 o ho).right) ((h.2.2 o ho).2.2.1.isP) hv2.1 hv2.2
  have h3 := (isLn.nil.prs h1).ows h2
  have e : bytesSt (cellsS ps os) = owsX (prX [] (pairsX ps)) os := by
    unfold bytesSt
    rw [h.right, show prsS (cellsS ps os) = pairsX ps from rfl, show ownS (cellsS ps os) = ownsD os from own_mk h.own, ownersOf_D h.2.1 rfl]
    rfl
  obtain ⟨bs, e2, h4⟩ := h3
  have := h.2.1
  exact ⟨bs, by rw [e, e2], by omega⟩
theorem dpB_len (d : Deps) : (dpB d).length ≤ 70 := by
  have q := numB_length
  have a0 := q d.d0
  have a1 := q d.d1
  have a2 := q d.d2
  have a3 := q d.d3
  have a4 := q d.d4
  have a5 := q d.d5
  have a6 := q d.d6
  simp only [dpB, List.length_append]
  omega
end Go.Proofs.Ytghkcmgiagodlaa
namespace Go.Proofs.Ytghkcmgiagodlaa
open Go.RowKit
set_option linter.all false
set_option maxHeartbeats 4000000
def D12 : Deps := ⟨1, 2, 0, 0, 0, 0, 0⟩
def B20 : List UInt8 := [2, 4, 0, 0, 0, 0, 0, 0, 0, 0, 0, 0, 0, 0, 0, 0, 85, 11, 103, 225]
def B20t : List UInt8 := [3, 4, 0, 0, 0, 0, 0, 0, 0, 0, 0, 0, 0, 0, 0, 0, 85, 11, 103, 225]
theorem zst_ok : okSt 0 [] (List.replicate 8 ⟨0, zeroRep⟩) := zero_st
theorem zst_eq : cellsS [] (List.replicate 8 ⟨0, zeroRep⟩) = zeroSt := rfl
theorem bytes_z49 : bytesSt Z49 = bytesSt zeroSt := by
  have h := bytesSt_up z49
  rw [← h]
  rfl
theorem right_z49 : rightSt Z49 = true := zst_ok.right
theorem okV_z49 : okV Z49 := zst_ok.v (by decide)
theorem small_z49 : smallS Z49 := by
  obtain ⟨bs, h1, h2⟩ := img_small zst_ok (by decide)
  exact ⟨bs, by rw [bytes_z49, ← zst_eq]; exact h1, h2⟩
theorem right_d12 : rightDs D12 = true := by decide
theorem imgH_z : imgH D12 Z49 = [2, 4, 0, 0, 0, 0, 0, 0, 0, 0, 0, 0, 0, 0, 0, 0] := by
  have h := imgH_eq D12 zst_ok
  rw [zst_eq] at h
  have h2 : imgH D12 Z49 = imgH D12 zeroSt := by unfold imgH; rw [bytes_z49]
  rw [h2, h]
  rfl
theorem crc_a : (crcL (Int.toNat 0 ^^^ M32) [2, 4, 0, 0, 0, 0, 0, 0, 0, 0, 0, 0, 0, 0, 0, 0] ^^^ M32) = 3781626709 := by decide +kernel
theorem crc_b : (crcL (Int.toNat 0 ^^^ M32) [3, 4, 0, 0, 0, 0, 0, 0, 0, 0, 0, 0, 0, 0, 0, 0] ^^^ M32) = 1326422724 := by decide +kernel
theorem imgI_z : imgI D12 Z49 = B20 := by
  unfold imgI
  rw [imgH_z]
  unfold ofX onX
  rw [bytesOf_bytesP, crc_a]
  decide +kernel
theorem iget_a : igetX (bytesP B20) = (D12, zeroSt, 0) := by
  have h := iget_back (d := D12) right_d12 zst_ok (by decide)
  rw [zst_eq] at h
  have h2 : imgI D12 Z49 = imgI D12 zeroSt := by unfold imgI imgH; rw [bytes_z49]
  rw [← h2, imgI_z] at h
  exact h
theorem iget_b : igetX (bytesP B20t) = (zeroDp, zeroSt, 6) := by
  unfold igetX
  rw [if_neg (by rw [bytesP_length]; decide)]
  have e1 : (bytesP B20t).length - 4 = 16 := by rw [bytesP_length]; rfl
  have e2 : ((bytesP B20t).length : Int) - 4 = 16 := by rw [bytesP_length]; rfl
  have e3 : (bytesP B20t).take 16 = bytesP [3, 4, 0, 0, 0, 0, 0, 0, 0, 0, 0, 0, 0, 0, 0, 0] := by rw [bytesP_take]; rfl
  have e4 : getW4 (bytesP B20t) 16 = 3781626709 := by
    unfold getW4
    rw [bytesOf_bytesP]
    decide +kernel
  rw [e1, e2, e3, e4]
  unfold ofX onX
  rw [bytesOf_bytesP, crc_b, if_neg (by decide)]
theorem iget_c (b : List UInt8) (h : b.length < 4) : igetX (bytesP b) = (zeroDp, zeroSt, 3) := by
  unfold igetX
  rw [if_pos (by rw [bytesP_length]; exact h)]
end Go.Proofs.Ytghkcmgiagodlaa
namespace Go.Proofs.Ytghkcmgiagodlaa
open Go.RowKit
set_option linter.all false
set_option maxHeartbeats 4000000
set_option maxRecDepth 1000000 in
theorem v_iruns : FnV Try.prog 3 [] (boolD true) := by
  obtain ⟨z0, hz0⟩ : ∃ z, z = zeroSt := ⟨_, rfl⟩
  have hz0S : isSt z0 := by rw [hz0]; exact zst_ok.is
  have hz0l := hz0S.len
  have hz0c := hz0S.closed
  have hIP := w_iput D12 Z49 z49 okV_z49 small_z49 (rightDs_r right_d12) right_z49 right_d12
  have hG1 : ∀ v c m, c = rowsD (bytesP B20) → m = 20 → FnD Try.prog 11 [.view 1 0 v 0 m] [⟨5, c, true, v, true⟩] (fun r st' => r = .tup [.agg D12.cells, .agg z0, .d (.sc (.int .i64 0))] ∧ st' = [⟨5, c, true, v, true⟩]) := fun v c m hc hm => by
    have := w_iget (bytesP B20) (bytesP B20) c v m ⟨B20, rfl, by decide⟩ hc (by rw [hm]; decide) (by rw [hm]; rfl)
    rw [iget_a, ← hz0] at this
    exact this
  have hG2 : ∀ v c m, c = rowsD (bytesP B20t) → m = 20 → FnD Try.prog 11 [.view 1 0 v 0 m] [⟨5, c, true, v, true⟩] (fun r st' => r = .tup [.agg zeroDp.cells, .agg z0, .d (.sc (.int .i64 6))] ∧ st' = [⟨5, c, true, v, true⟩]) := fun v c m hc hm => by
    have := w_iget (bytesP B20t) (bytesP B20t) c v m ⟨B20t, rfl, by decide⟩ hc (by rw [hm]; decide) (by rw [hm]; rfl)
    rw [iget_b, ← hz0] at this
    exact this
  have hG3 : ∀ v c, c = rowsD (bytesP B20t) → FnD Try.prog 11 [.view 1 0 v 0 3] [⟨5, c, true, v, true⟩] (fun r st' => r = .tup [.agg zeroDp.cells, .agg z0, .d (.sc (.int .i64 3))] ∧ st' = [⟨5, c, true, v, true⟩]) := fun v c hc => by
    have := w_iget (bytesP B20t) (bytesP (B20t.take 3)) c v 3 ⟨B20t, rfl, by decide⟩ hc (by decide) (by rw [bytesP_take])
    rw [iget_c _ (by decide), ← hz0] at this
    exact this
  have hcl1 : closedD 0 (.tup [.agg D12.cells, .agg z0, .d (.sc (.int .i64 0))]) = true := by
    simp [closedD, closedL, Deps.cells, hz0c]
  have hcl2 : ∀ e : Int, closedD 0 (.tup [.agg zeroDp.cells, .agg z0, .d (.sc (.int .i64 e))]) = true := fun e => by
    simp [closedD, closedL, Deps.cells, hz0c]
  obtain ⟨GFsSE, hFsSE⟩ : ∃ F, F = FsSE0 := ⟨_, rfl⟩
  have hH : SoundK Try.prog [kn_statesR GFsSE] := by subst hFsSE; exact orK_ok ok_statesR noK_ok
  have hB : SoundB Try.prog [] := by subst hFsSE; exact noB_ok
  refine FnD_cbv (T := fun _ => tabY [39, 42, 1003, 1018, 1047, 1054, 5003, 5004] []) (H := fun _ => [kn_statesR GFsSE]) (tabY_ok _ _) hH follows_mixed Try.func3 rfl Try.ntmps3 (by simp) fun A X W hA hX hW => ?_
  cbv
  have k1 : A.cmp .neq 0 0 = false := by subst hA; rfl
  have k2 : A.cmp .lss (A.int 20) 5 = false := by subst hA; rfl
  have k3 : A.cmp .eql 1 1 = true := by subst hA; rfl
  have k4 : A.cmp .eql 2 2 = true := by subst hA; rfl
  have k5 : A.cmp .eql 0 0 = true := by subst hA; rfl
  have k6 : A.and true true = true := by subst hA; rfl
  have k7 : A.not true = false := by subst hA; rfl
  have k8 : A.cond false true false = false := by subst hA; rfl
  have k9 : GFsSE.statesR z0 Z49 = true := by
    subst hFsSE hz0
    show sameSt zeroSt Z49 = true
    exact sameSt_refl zeroSt
  have k10 : A.off 0 0 1 = 0 := by subst hA; rfl
  have k11 : A.bin .xor .u8 2 1 = 3 := by subst hA; rfl
  have k12 : A.nat 3 = 3 := by subst hA; rfl
  have k13 : A.cmp .eql 6 6 = true := by subst hA; rfl
  have k14 : A.cmp .eql 3 3 = true := by subst hA; rfl
  have k15 : A.cond true true false = true := by subst hA; rfl
  cbv at k1
  cbv at k2
  cbv at k3
  cbv at k4
  cbv at k5
  cbv at k6
  cbv at k7
  cbv at k8
  cbv at k9
  cbv at k10
  cbv at k11
  cbv at k12
  cbv at k13
  cbv at k14
  cbv at k15
  refine callL hX (FnD.newRow hIP rfl fun v c m hc hm => ?_)
  rw [imgI_z] at hc hm
  obtain rfl : m = 20 := hm
  have hcc : closedL 0 c = true := by rw [hc]; exact rows_closed _
  obtain ⟨c2, hc2⟩ : ∃ c2, c2 = rowsD (bytesP B20t) := ⟨_, rfl⟩
  have hcc2 : closedL 0 c2 = true := by rw [hc2]; exact rows_closed _
  have k16 : A.gi c 0 = 2 := by subst hA; rw [hc]; rfl
  have k17 : A.spl c 0 [.d (.sc (.int .u8 3))] = c2 := by subst hA; rw [hc, hc2]; rfl
  have hcl20 : c.length = 20 := by rw [hc]; rfl
  cbv at k16
  cbv at k17
  cbv
  refine callL hX (FnD.rowKeep 0 (hG1 v _ 20 hc rfl) rfl rfl hcl1 hcc ?_)
  cbv
  repeat' first
    | (simp only [k1, k2, k3, k4, k5, k6, k7, k8, k9, k10, k11, k12, k13, k14, k15, k16, k17]; cbv)
    | (refine And.intro ?_ ?_)
    | (refine callL hX (FnD.rowKeep 0 (hG2 v _ 20 hc2 rfl) rfl rfl (hcl2 6) hcc2 ?_); cbv)
    | (refine callL hX (FnD.rowKeep 0 (hG3 v _ hc2) rfl rfl (hcl2 3) hcc2 ?_); cbv)
    | (refine part (fun h => ?_) (fun h => ?_) <;> try cbv)
  all_goals subst hA hX hW hFsSE
  all_goals first
    | exact rfl
    | assumption
    | trivial
    | exact id
    | (intro _; first | exact trivial | exact rfl | assumption | exact hz0l | exact z49)
    | (show List.length _ = 49 * 1; first | exact hz0l | rfl)
    | (show Region.lexB _ _ = true; kernel_rfl)
    | (show turnsB _ = true; kernel_rfl)
    | exact ⟨by decide, by decide⟩
    | exact ⟨by decide, by decide, by decide⟩
    | exact ⟨rfl, Nat.le_of_ble_eq_true rfl, rfl⟩
    | (rw [hc]; exact ⟨rfl, Nat.le_of_ble_eq_true rfl, rfl⟩)
    | (show 0 + 1 * 1 ≤ c.length; rw [hcl20]; decide)
    | (refine ret_v ?_ rfl; rfl)
    | fail
def runs21 : Bool := true
structure FsI21 where
  iruns : Bool
end Go.Proofs.Ytghkcmgiagodlaa
namespace Go.Proofs.Ytghkcmgiagodlaa
open Go.RowKit
set_option linter.all false
theorem FitL.split : ∀ {a b : List Sh} {ps : List PD}, FitL (a ++ b) ps → ∃ p q, ps = p ++ q ∧ FitL a p ∧ FitL b q
  | [], _, ps, h => ⟨[], ps, rfl, by simp only [FitL], h⟩
  | s :: a, b, ps, h => by
      simp only [List.cons_append, FitL] at h
      obtain ⟨p, qs, rfl, h1, h2⟩ := h
      obtain ⟨p', q', rfl, h3, h4⟩ := FitL.split h2
      exact ⟨p :: p', q', rfl, by simp only [FitL]; exact ⟨p, p', rfl, h1, h3⟩, h4⟩
theorem fit_bool {ps : List PD} (h : FitL [.bool] ps) : ∃ b, ps = [.sc (.bool b)] := by
  simp only [FitL, FitP] at h
  obtain ⟨_, _, rfl, ⟨n, rfl⟩, rfl⟩ := h
  exact ⟨n, rfl⟩
theorem fit_cmds : ∀ (xs : List (List PD)), (∀ x ∈ xs, FitL [.int .i64, .int .i64, .int .i64, .str, .str, .str, .str] x) → ∃ l : List Cmd, xs = cmdsX l
  | [], _ => ⟨[], rfl⟩
  | x :: xs, h => by
      obtain ⟨l, rfl⟩ := fit_cmds xs (fun y hy => h y (by simp [hy]))
      have h0 := h x (by simp)
      simp only [FitL, FitP] at h0
      obtain ⟨_, _, rfl, ⟨a, rfl, _⟩, _, _, rfl, ⟨b, rfl, _⟩, _, _, rfl, ⟨c, rfl, _⟩, _, _, rfl, ⟨d, rfl, _⟩, _, _, rfl, ⟨e, rfl, _⟩, _, _, rfl, ⟨f, rfl, _⟩, _, _, rfl, ⟨g, rfl, _⟩, rfl⟩ := h0
      exact ⟨⟨a, b, c, d, e, f, g⟩ :: l, rfl⟩
theorem wt_cmds : ∀ l : List Cmd, l.length ≤ wtR (cmdsX l)
  | [] => by simp
  | c :: l => by
      have e : cmdsX (c :: l) = c.row :: cmdsX l := rfl
      have h := wt_cmds l
      rw [e]
      simp only [wtR, Cmd.row, wtL, wtP, List.length_cons]
      omega
theorem fit_cmdR {ps : List PD} (h : FitL [.slc [.int .i64, .int .i64, .int .i64, .str, .str, .str, .str]] ps) (hw : wtL ps ≤ 1048576) : ∃ xs, ps = [.slc 7 xs] ∧ isC xs := by
  simp only [FitL, FitP] at h
  obtain ⟨_, _, rfl, ⟨xs, rfl, hx⟩, rfl⟩ := h
  obtain ⟨l, rfl⟩ := fit_cmds xs hx
  simp only [wtL, wtP] at hw
  have := wt_cmds l
  exact ⟨_, rfl, l, rfl, by omega⟩
end Go.Proofs.Ytghkcmgiagodlaa
namespace Go.Proofs.Ytghkcmgiagodlaa
open Go.RowKit
set_option linter.all false
set_option maxHeartbeats 4000000
/-- The document's owner, read. -/
def ow2R (xs : List (List PD)) (a w : Int) : Owner × Int × Int :=
  let q := numR xs a w
  if ¬ q.1 = 0 ∧ q.2.2 = 0 then
    let y := numR xs q.2.1 q.2.2
    let f := flagR xs y.2.1 y.2.2
    let v := textR xs f.2.1 f.2.2 64
    let n := numR xs v.2.1 v.2.2
    let l := ls2X xs n.2.1 n.2.2 8
    (⟨q.1, ⟨y.1, f.1, v.1, n.1, l.1⟩⟩, l.2)
  else (⟨q.1, zeroRep⟩, q.2)
def ows2R (xs : List (List PD)) : Nat → Int → Int → List Owner × Int × Int
  | 0, a, w => ([], a, w)
  | n + 1, a, w =>
    let s := ows2R xs n a w
    let o := ow2R xs s.2.1 s.2.2
    (s.1 ++ [o.1], o.2)
noncomputable def getSt2 (xs : List (List PD)) : List DV × Int :=
  let l := ls2R xs 0 0 32
  let o := ows2R xs 8 l.2.1 l.2.2
  let e := endR xs o.2.1 o.2.2
  if e = 0 then (if rightSt (cellsS l.1 o.1) = true then (cellsS l.1 o.1, 0) else (zeroSt, 4)) else (zeroSt, e)
theorem ow_err {xs : List (List PD)} {a w : Int} (h : w ≠ 0) : (owR xs a w).2 = (a, w) := by
  unfold owR
  simp only [num_err h]
  rw [if_pos trivial]
theorem ows_err {xs : List (List PD)} {a w : Int} (h : w ≠ 0) : ∀ n : Nat, (owsR xs n a w).2 = (a, w)
  | 0 => rfl
  | n + 1 => by
      obtain ⟨⟨ps, b, u⟩, hq⟩ : ∃ q, owsR xs n a w = q := ⟨_, rfl⟩
      have ih := ows_err (xs := xs) (a := a) h n
      rw [hq] at ih
      cases ih
      rw [owsR_succ hq]
      exact ow_err h
theorem ow2_eq {xs : List (List PD)} {a w : Int} (hr : isRd xs a w) : (ow2R xs a w).2 = (owR xs a w).2 ∧ ((owR xs a w).2.2 = 0 → ow2R xs a w = owR xs a w) := by
  have h1 := num_rd hr
  rw [owR_eq]
  unfold ow2R
  simp only
  obtain ⟨⟨q, b, u⟩, hq⟩ : ∃ q, numR xs a w = q := ⟨_, rfl⟩
  rw [hq] at h1 ⊢
  simp only at h1 ⊢
  by_cases hz : q = 0
  · rw [if_neg (fun h => h.1 hz), if_pos hz]
    exact ⟨rfl, fun _ => rfl⟩
  · have hu : u = 0 := Classical.byContradiction fun h => hz (h1.2.1 h)
    rw [if_pos ⟨hz, hu⟩, if_neg hz]
    unfold ls2X lsX
    simp only
    have he := ls2R_eq xs (numR xs (textR xs (flagR xs (numR xs b u).2.1 (numR xs b u).2.2).2.1 (flagR xs (numR xs b u).2.1 (numR xs b u).2.2).2.2 64).2.1 (textR xs (flagR xs (numR xs b u).2.1 (numR xs b u).2.2).2.1 (flagR xs (numR xs b u).2.1 (numR xs b u).2.2).2.2 64).2.2).2.1 (numR xs (textR xs (flagR xs (numR xs b u).2.1 (numR xs b u).2.2).2.1 (flagR xs (numR xs b u).2.1 (numR xs b u).2.2).2.2 64).2.1 (textR xs (flagR xs (numR xs b u).2.1 (numR xs b u).2.2).2.1 (flagR xs (numR xs b u).2.1 (numR xs b u).2.2).2.2 64).2.2).2.2 8
    exact ⟨he.1, fun h => by rw [he.2 h]⟩
theorem ows2_eq {xs : List (List PD)} {a w : Int} (hr : isRd xs a w) : ∀ n : Nat, (ows2R xs n a w).2 = (owsR xs n a w).2 ∧ ((owsR xs n a w).2.2 = 0 → ows2R xs n a w = owsR xs n a w)
  | 0 => ⟨rfl, fun _ => rfl⟩
  | n + 1 => by
      obtain ⟨h1, h2⟩ := ows2_eq hr n
      have hrd := (owsR_rd hr n).1
      obtain ⟨⟨os, b, u⟩, hq⟩ : ∃ q, owsR xs n a w = q := ⟨_, rfl⟩
      rw [hq] at h1 h2 hrd
      have h3 := ow2_eq (show isRd xs b u from hrd)
      have e : ows2R xs (n + 1) a w = ((ows2R xs n a w).1 ++ [(ow2R xs (ows2R xs n a w).2.1 (ows2R xs n a w).2.2).1], (ow2R xs (ows2R xs n a w).2.1 (ows2R xs n a w).2.2).2) := rfl
      rw [owsR_succ hq, e, h1]
      refine ⟨h3.1, fun h => ?_⟩
      have hu : u = 0 := Classical.byContradiction fun hu => by
        have := ow_err (xs := xs) (a := b) hu
        simp only [this] at h
        exact hu h
      rw [h2 hu, h3.2 h]
theorem getSt2_eq {xs : List (List PD)} (h : isB8 xs) : getSt2 xs = getSt xs := by
  have h0 := rd0 h
  have h1 := lstR_rd h0 (most := 32) (by decide)
  have hl := ls2R_eq xs 0 0 32
  have ho := ows2_eq h1.1 8
  unfold getSt2 getSt
  simp only
  rw [hl.1, ho.1]
  by_cases he : endR xs (owsR xs 8 (lstR xs 0 0 32).2.1 (lstR xs 0 0 32).2.2).2.1 (owsR xs 8 (lstR xs 0 0 32).2.1 (lstR xs 0 0 32).2.2).2.2 = 0
  · have hw : (owsR xs 8 (lstR xs 0 0 32).2.1 (lstR xs 0 0 32).2.2).2.2 = 0 := by
      unfold endR at he
      split at he
      · omega
      · exact he
    have hw1 : (lstR xs 0 0 32).2.2 = 0 := Classical.byContradiction fun hu => by
      have := ows_err (xs := xs) (a := (lstR xs 0 0 32).2.1) hu 8
      rw [this] at hw
      exact hu hw
    rw [if_pos he, if_pos he, ho.2 hw, hl.2 hw1]
  · rw [if_neg he, if_neg he]
theorem ls2R_rd {xs : List (List PD)} {a w : Int} (h : isRd xs a w) {most : Int} (hm : 0 ≤ most) (hm2 : most ≤ 1000 := by decide) : isRd xs (ls2R xs a w most).2.1 (ls2R xs a w most).2.2 ∧ (ls2R xs a w most).1.length ≤ 4194304 := by
  have h1 := lstR_rd h hm
  have he := ls2R_eq xs a w most
  rw [he.1]
  refine ⟨h1.1, ?_⟩
  have h2 : (ls2R xs a w most).1.length ≤ (cntR xs a w most).1.toNat := ls2N_len xs _ _ _
  have h3 : (lstR xs a w most).1.length = (cntR xs a w most).1.toNat := (lstN_rd (cnt_rd most h).1 _).2.1
  have h4 := h1.2.1
  omega
theorem ow2R_rd {xs : List (List PD)} {a w : Int} (h : isRd xs a w) : isRd xs (ow2R xs a w).2.1 (ow2R xs a w).2.2 ∧ isP (ow2R xs a w).1.reply.pairs := by
  refine ⟨by rw [(ow2_eq h).1]; exact (owR_rd h).1, ?_⟩
  have h1 := num_rd h
  unfold ow2R
  simp only
  split
  · have h2 := num_rd h1.1
    have h4 := text_rd 64 (flag_rd h2.1)
    have h5 := num_rd h4
    exact ⟨_, rfl, (ls2R_rd h5.1 (most := 8) (by decide)).2⟩
  · exact isP.nil
theorem ows2R_rd {xs : List (List PD)} {a w : Int} (h : isRd xs a w) : ∀ n : Nat, isRd xs (ows2R xs n a w).2.1 (ows2R xs n a w).2.2 ∧ ∀ o ∈ (ows2R xs n a w).1, isP o.reply.pairs
  | 0 => ⟨h, by intro p hp; cases hp⟩
  | n + 1 => by
      obtain ⟨h1, h3⟩ := ows2R_rd h n
      have h4 := ow2R_rd h1
      refine ⟨h4.1, ?_⟩
      intro p hp
      simp only [ows2R, List.mem_append, List.mem_singleton] at hp
      rcases hp with hp | hp
      · exact h3 p hp
      · rw [hp]; exact h4.2
theorem ows2R_succ {xs : List (List PD)} {n : Nat} {a w b u : Int} {os : List Owner} (h : ows2R xs n a w = (os, b, u)) : ows2R xs (n + 1) a w = (os ++ [(ow2R xs b u).1], (ow2R xs b u).2) := by
  have e : ows2R xs (n + 1) a w = ((ows2R xs n a w).1 ++ [(ow2R xs (ows2R xs n a w).2.1 (ows2R xs n a w).2.2).1], (ow2R xs (ows2R xs n a w).2.1 (ows2R xs n a w).2.2).2) := rfl
  rw [e, h]
theorem ow2R_eq (xs : List (List PD)) (a w : Int) : ow2R xs a w = (let q := numR xs a w
  if ¬ q.1 = 0 ∧ q.2.2 = 0 then
    let y := numR xs q.2.1 q.2.2
    let f := flagR xs y.2.1 y.2.2
    let v := textR xs f.2.1 f.2.2 64
    let n := numR xs v.2.1 v.2.2
    let l := ls2X xs n.2.1 n.2.2 8
    (⟨q.1, ⟨y.1, f.1, v.1, n.1, l.1⟩⟩, l.2)
  else (⟨q.1, zeroRep⟩, q.2)) := by
  unfold ow2R
  simp only
theorem closedL_app : ∀ (es bs : List DV), closedL 0 (es ++ bs) = (closedL 0 es && closedL 0 bs)
  | [], bs => by simp [closedL]
  | a :: es, bs => by simp only [List.cons_append, closedL, closedL_app es bs, Bool.and_assoc]
theorem clo_mid {P Q Q' S : List DV} (h : closedL 0 (P ++ (Q ++ S)) = true) (h2 : closedL 0 Q' = true) : closedL 0 (P ++ (Q' ++ S)) = true := by
  rw [closedL_app, closedL_app] at h ⊢
  simp only [Bool.and_eq_true] at h ⊢
  exact ⟨h.1, h2, h.2.2⟩
theorem UpL.app : ∀ {es bs cs : List DV}, UpL bs cs → UpL (es ++ bs) (es ++ cs)
  | [], _, _, h => h
  | _ :: _, _, _, h => UpL.keep (UpL.app h)
theorem splice_six {P Q Q' S : List DV} {o : Nat} (ho : o = P.length) (h1 : Q.length = 6) (h2 : Q'.length = 6) : splice (P ++ (Q ++ S)) o Q' = P ++ (Q' ++ S) := by
  subst ho
  simp [splice, h2, ← h1]
set_option maxRecDepth 1000000 in
theorem v_getS2 (xs : List (List PD)) (hp0 : isB8 xs) : FnV Try.prog 33 [.d (.slc 1 xs)] (.tup [.agg (getSt2 xs).1, .d (.sc (.int .i64 (getSt2 xs).2))]) := by
  obtain ⟨GFsC2, hFsC2⟩ : ∃ F, F = FsC20 := ⟨_, rfl⟩
  obtain ⟨GFsSr, hFsSr⟩ : ∃ F, F = FsSr0 := ⟨_, rfl⟩
  obtain ⟨GFsGl, hFsGl⟩ : ∃ F, F = FsGl0 := ⟨_, rfl⟩
  obtain ⟨GFsRr, hFsRr⟩ : ∃ F, F = FsRr0 := ⟨_, rfl⟩
  have hH : SoundK Try.prog [kn_rightR2 GFsC2] := by subst hFsC2 hFsSr hFsGl hFsRr; exact orK_ok ok_rightR2 noK_ok
  have hB : SoundB Try.prog [kb_rRead GFsSr, kb_getPairs GFsGl, kb_rNum GFsRr, kb_rFlag GFsRr, kb_rText GFsRr, kb_rEnd GFsRr] := by subst hFsC2 hFsSr hFsGl hFsRr; exact orB_ok okb_rRead (orB_ok okb_getPairs (orB_ok okb_rNum (orB_ok okb_rFlag (orB_ok okb_rText (orB_ok okb_rEnd noB_ok)))))
  refine FnD_cbv (T := fun _ => tabY [54, 1002, 1005, 1059, 1064, 1065, 5004] []) (H := fun _ => [kn_rightR2 GFsC2]) (tabY_ok _ _) hH follows_mixed Try.func33 rfl Try.ntmps33 (by simp) fun A X W hA hX hW => ?_
  cbv
  obtain ⟨z, hz⟩ : ∃ z, z = DV.d (.sc (.slice none 0 0)) :: Z48 := ⟨_, rfl⟩
  have h0 := rd0 hp0
  have hup : ∀ xl : List (List PD), UpL (.d (.slc 3 xl) :: Z48) (.d (.slc 3 xl) :: ownsD (List.replicate 8 ⟨0, zeroRep⟩)) := fun xl => by
    have e : upCs (.d (.slc 3 xl) :: Z48) = .d (.slc 3 xl) :: ownsD (List.replicate 8 ⟨0, zeroRep⟩) := rfl
    rw [← e]
    exact upL_upCs _
  have hup0 : UpL (DV.d (.sc (.slice none 0 0)) :: Z48) zeroSt := by
    have e : upCs (DV.d (.sc (.slice none 0 0)) :: Z48) = zeroSt := rfl
    rw [← e]
    exact upL_upCs _
  obtain ⟨⟨pl, b0, u0⟩, hq⟩ : ∃ q, ls2R xs 0 0 32 = q := ⟨_, rfl⟩
  have hl := ls2R_rd h0 (most := 32) (by decide)
  rw [hq] at hl
  have hr0 : isRd xs b0 u0 := hl.1
  have hpn : pl.length ≤ 4194304 := hl.2
  obtain ⟨xl, hxl⟩ : ∃ xl, xl = pairsX pl := ⟨_, rfl⟩
  have eq1 : GFsGl.list2 xs 0 0 32 = (xl, b0, u0) := by subst hFsGl; show ls2X xs 0 0 32 = _; unfold ls2X; rw [hq, hxl]
  cbv at eq1
  refine callB hX hB ?_
  cbv
  refine ⟨by subst hFsSr; exact hp0, ?_⟩
  refine callB hX hB ?_
  cbv
  refine ⟨by subst hFsGl; exact h0, by subst hFsGl; exact ⟨by decide, by decide⟩, ?_⟩
  simp only [eq1]
  refine loopL (T := fun _ => tabY [54, 1002, 1005, 1059, 1064, 1065, 5004] []) (H := fun _ => [kn_rightR2 GFsC2]) (tabY_ok _ _) hH follows_mixed hA hX (fun x : Int × Int × Int × List DV => (0 ≤ x.1 ∧ x.1 ≤ 8) ∧ ∃ os, x.2.2.2 = ownsD os ∧ ows2R xs x.1.toNat b0 u0 = (os.take x.1.toNat, x.2.1, x.2.2.1) ∧ os.length = 8 ∧ os.drop x.1.toNat = List.replicate (8 - x.1.toNat) ⟨0, zeroRep⟩)
    (fun x => [(2, .ref 0 0 0), (4, .ref 1 0 0), (5, .ref 2 0 0), (6, .d (.sc (.int .i64 x.1)))]) (fun x => [⟨34, z, false, 0, true⟩, rdB 90 xs x.2.1 x.2.2.1, ⟨34, .d (.slc 3 xl) :: x.2.2.2, false, 0, true⟩])
    (fun x => 8 - x.1.toNat) (0, b0, u0, ownsD (List.replicate 8 ⟨0, zeroRep⟩)) ?_ ?_ ?_
  · exact ⟨⟨by simp only; omega, by simp only; omega⟩, _, rfl, rfl, rfl, rfl⟩
  · subst hz
    exact told_upst ⟨_, _, rfl, ⟨rfl, rfl, rfl, rfl, UpL.refl fun a _ => UpD.refl a⟩, _, _, rfl, ⟨rfl, rfl, rfl, rfl, UpL.refl fun a _ => UpD.refl a⟩, _, _, rfl, ⟨rfl, rfl, rfl, rfl, hup xl⟩, rfl⟩ ⟨.inl (UpD.refl _), .inl (UpD.refl _), .inl (UpD.refl _), .inl (UpD.refl _), trivial⟩
  rintro R ⟨i, b, u, cs⟩ hR ⟨hi, hls⟩
  replace hi : 0 ≤ i ∧ i ≤ 8 := hi
  obtain ⟨os, hcs, hls, ho8, hod⟩ := hls
  replace hcs : cs = ownsD os := hcs
  replace hls : ows2R xs i.toNat b0 u0 = (os.take i.toNat, b, u) := hls
  replace hod : os.drop i.toNat = List.replicate (8 - i.toNat) ⟨0, zeroRep⟩ := hod
  have hrd : isRd xs b u := by have := (ows2R_rd hr0 i.toNat).1; rw [hls] at this; exact this
  cbv
  refine part (fun h => ?_) (fun h => ?_)
  · cbv
    have hi8 : i < 8 := by subst hA; simpa [A0] using h
    have hin : i.toNat < os.length := by omega
    have hoz : os[i.toNat]'hin = ⟨0, zeroRep⟩ := by
      have h1 := List.drop_eq_getElem_cons hin
      rw [hod, show 8 - i.toNat = (7 - i.toNat) + 1 by omega, List.replicate_succ] at h1
      exact (List.cons.inj h1).1.symm
    obtain ⟨P, hP, hPl, S, hdec, hset⟩ := own_dec (.d (.slc 3 xl)) hcs i.toNat hin
    rw [hoz] at hdec
    replace hdec : DV.d (.slc 3 xl) :: cs = P ++ (zero6 ++ S) := hdec
    have hsu := ows2R_succ hls
    have hrw := ow2R_eq xs b u
    have k6 : ∀ a0 a1 a2 a3 a4 a5 : DV, splice (P ++ (zero6 ++ S)) (1 + i.toNat * 6) [a0, a1, a2, a3, a4, a5] = P ++ ([a0, a1, a2, a3, a4, a5] ++ S) := fun a0 a1 a2 a3 a4 a5 => splice_six (by omega) rfl rfl
    have hzp : pullL [0, 1, 2] z = z := by rw [hz]; exact pullL_closed _ _ rfl
    repeat' first
      | (refine part (fun h2 => ?_) (fun h2 => ?_) <;> try cbv)
      | (refine And.intro ?_ ?_)
      | (with_reducible refine callB hX hB ?_) <;> cbv
    all_goals subst hA hX hW hR hFsRr hFsGl hFsC2 hFsSr
    all_goals clear hH hB
    all_goals try rw [hdec]
    all_goals simp only [A0, nc, FsRr0, FsGl0, decide_eq_true_eq, decide_eq_false_iff_not] at *
    all_goals have x1 := num_rd hrd
    all_goals generalize numR xs b u = q1 at *
    all_goals obtain ⟨n1, b1, u1⟩ := q1
    all_goals try simp only at *
    all_goals have x2 := num_rd x1.1
    all_goals generalize numR xs b1 u1 = q2 at *
    all_goals obtain ⟨n2, b2, u2⟩ := q2
    all_goals try simp only at *
    all_goals have x3 := flag_rd x2.1
    all_goals generalize flagR xs b2 u2 = q3 at *
    all_goals obtain ⟨n3, b3, u3⟩ := q3
    all_goals try simp only at *
    all_goals have x4 := text_rd 64 x3
    all_goals generalize textR xs b3 u3 64 = q4 at *
    all_goals obtain ⟨n4, b4, u4⟩ := q4
    all_goals try simp only at *
    all_goals have x5 := num_rd x4
    all_goals generalize numR xs b4 u4 = q5 at *
    all_goals obtain ⟨n5, b5, u5⟩ := q5
    all_goals try simp only at *
    all_goals generalize ls2X xs b5 u5 8 = q6 at *
    all_goals obtain ⟨n6, b6, u6⟩ := q6
    all_goals try simp only at *
    all_goals try simp only [k6]
    all_goals first
      | assumption
      | exact id
      | (intro _; exact trivial)
      | exact x1.1
      | exact x2.1
      | exact x3
      | exact x4
      | exact x5.1
      | exact ⟨hi.1, hi8⟩
      | exact ⟨by decide, by decide⟩
      | (intro hq; simpa using hq)
      | (simp only [List.length_append, List.length_cons, List.length_nil, zero6, hPl]; omega)
      | skip
    all_goals have ei : IntKind.wrap .i64 (i + 1) = i + 1 := wrap_i64 (by unfold r64; omega)
    all_goals obtain ⟨o, ho⟩ : ∃ o, o = ow2R xs b u := ⟨_, rfl⟩
    all_goals have how := hrw
    all_goals rw [← ho] at how
    all_goals rw [← ho] at hsu
    · have hc : ¬ n1 = 0 ∧ u1 = 0 := by
        by_cases q : n1 = 0
        · simp [q] at h2
        · exact ⟨q, by simpa [q] using h2⟩
      rw [if_pos hc] at how
      obtain ⟨y1, y2⟩ := own_next ⟨n1, ⟨n2, n3, n4, n5, n6⟩⟩ ho8 (show i.toNat < 8 by omega) hod
      refine ⟨(i + 1, b6, u6, ownsD (os.set i.toNat ⟨n1, ⟨n2, n3, n4, n5, n6⟩⟩)), ⟨⟨by simp only; omega, by simp only; omega⟩, os.set i.toNat ⟨n1, ⟨n2, n3, n4, n5, n6⟩⟩, rfl, ?_, by rw [List.length_set]; exact ho8, ?_⟩, by simp only; omega, told_keep [0, 1, 2] rfl ?_ ?_⟩
      · simp only
        rw [show (i + 1).toNat = i.toNat + 1 by omega, hsu, how, y1]
      · simp only
        rw [show (i + 1).toNat = i.toNat + 1 by omega]
        exact y2
      · have hc1 : pullL [0, 1, 2] (.d (.slc 3 xl) :: ownsD (os.set i.toNat ⟨n1, ⟨n2, n3, n4, n5, n6⟩⟩)) = .d (.slc 3 xl) :: ownsD (os.set i.toNat ⟨n1, ⟨n2, n3, n4, n5, n6⟩⟩) := pullL_closed _ _ (own_clo _)
        rw [hset] at hc1
        simp only
        rw [hset]
        simp [keepSt, pullBox, hzp, pullL, pullD]
        exact hc1.symm
      · simp [toldP, getS, pullD, ei]
        try exact ⟨rfl, rfl, rfl⟩
    · have hc : ¬ (¬ n1 = 0 ∧ u1 = 0) := by
        intro q
        simp [q.1, q.2] at h2
      rw [if_neg hc] at how
      obtain ⟨y1, y2⟩ := own_next ⟨n1, zeroRep⟩ ho8 (show i.toNat < 8 by omega) hod
      refine ⟨(i + 1, b1, u1, ownsD (os.set i.toNat ⟨n1, zeroRep⟩)), ⟨⟨by simp only; omega, by simp only; omega⟩, os.set i.toNat ⟨n1, zeroRep⟩, rfl, ?_, by rw [List.length_set]; exact ho8, ?_⟩, by simp only; omega, Told.trans (s' := [(2, .ref 0 0 0), (4, .ref 1 0 0), (5, .ref 2 0 0), (6, .d (.sc (.int .i64 (i + 1))))]) (told_keep [0, 1, 2] rfl rfl ?_) (told_upst ⟨_, _, rfl, ⟨rfl, rfl, rfl, rfl, ?_⟩, _, _, rfl, ⟨rfl, rfl, rfl, rfl, UpL.refl fun a _ => UpD.refl a⟩, _, _, rfl, ⟨rfl, rfl, rfl, rfl, ?_⟩, rfl⟩ ⟨.inl (UpD.refl _), .inl (UpD.refl _), .inl (UpD.refl _), .inl (UpD.refl _), trivial⟩)⟩
      · simp only
        rw [show (i + 1).toNat = i.toNat + 1 by omega, hsu, how, y1]
      · simp only
        rw [show (i + 1).toNat = i.toNat + 1 by omega]
        exact y2
      · simp [toldP, getS, pullD, ei]
        try exact ⟨rfl, rfl, rfl⟩
      · show UpL (pullL [0, 1, 2] z) z
        rw [hzp]
        exact UpL.refl fun a _ => UpD.refl a
      · have hc0 : closedL 0 (P ++ (zero6 ++ S)) = true := by rw [← hdec, hcs]; exact own_clo _
        show UpL (pullL [0, 1, 2] (P ++ ([.d (.sc (.int .i64 n1)), .d (.sc (.int .i64 0)), .d (.sc (.bool false)), .d (.sc (.string none8)), .d (.sc (.int .i64 0)), .d (.sc (.slice none 0 0))] ++ S))) (.d (.slc 3 xl) :: ownsD (os.set i.toNat ⟨n1, zeroRep⟩))
        rw [pullL_closed _ _ (clo_mid hc0 (by rfl)), hset]
        exact UpL.app (UpL.keep (UpL.keep (UpL.keep (UpL.keep (UpL.keep (UpL.nil (UpL.refl fun a _ => UpD.refl a)))))))
  · cbv
    have hi8 : i = 8 := by
      subst hA
      simp only [A0, decide_eq_false_iff_not] at h
      replace h : ¬ i < 8 := h
      omega
    subst hi8
    have hto : os.take (Int.toNat 8) = os := List.take_of_length_le (by show os.length ≤ 8; omega)
    rw [hto] at hls
    replace hls : ows2R xs 8 b0 u0 = (os, b, u) := hls
    have hgs : getSt2 xs = (if endR xs b u = 0 then (if rightSt (.d (.slc 3 xl) :: cs) = true then (.d (.slc 3 xl) :: cs, 0) else (zeroSt, 4)) else (zeroSt, endR xs b u)) := by
      unfold getSt2
      simp only [hq, hls]
      rw [hxl, hcs]
      rfl
    have hP : isP xl := by rw [hxl]; exact ⟨pl, rfl, hpn⟩
    have hO : isOwn cs := ⟨os, ho8, hcs, fun o ho => by
      have h9 := (ows2R_rd hr0 8).2
      rw [hls] at h9
      exact h9 o ho⟩
    have hst := isSt.mk hP hO
    have hcl := hO.len
    have hzl : z.length = 49 := by rw [hz]; rfl
    repeat' first
      | (refine part (fun h2 => ?_) (fun h2 => ?_) <;> try cbv)
      | (refine And.intro ?_ ?_)
      | (with_reducible refine callB hX hB ?_) <;> cbv
    all_goals subst hA hX hW hR hFsRr hFsGl hFsC2 hFsSr
    all_goals clear hH hB
    all_goals simp only [A0, nc, FsRr0, FsGl0, FsC20, decide_eq_true_eq, decide_eq_false_iff_not] at *
    all_goals first
      | assumption
      | (simp [hcl, hzl]; done)
      | skip
    · have he : ¬ endR xs b u = 0 := by simpa using h2
      rw [hgs, if_neg he]
      exact ret_up ⟨_, rfl, UpL.agg hup0 (UpL.keep UpL.done)⟩ rfl
    · rename_i h3
      have he : endR xs b u = 0 := by simpa using h3
      have hr : ¬ rightSt (.d (.slc 3 xl) :: cs) = true := by simpa using h2
      rw [hgs, if_pos he, if_neg hr]
      exact ret_up ⟨_, rfl, UpL.agg hup0 (UpL.keep UpL.done)⟩ rfl
    · rename_i h3
      have he : endR xs b u = 0 := by simpa using h3
      have hr : rightSt (.d (.slc 3 xl) :: cs) = true := by simpa using h2
      have hclo := hst.closed
      rw [hgs, if_pos he, if_pos hr]
      refine ret_v rfl ?_
      show (closedL 0 (DV.d (.slc 3 xl) :: cs) && true) = true
      rw [hclo]
      rfl
theorem v_getS3 (xs : List (List PD)) (hp0 : isB8 xs) : FnV Try.prog 33 [.d (.slc 1 xs)] (.tup [.agg (getSt xs).1, .d (.sc (.int .i64 (getSt xs).2))]) := by
  rw [← getSt2_eq hp0]
  exact v_getS2 xs hp0
structure FsGr where
  getS3 : List (List PD) → List DV × Int
  isB : List (List PD) → Prop
noncomputable def FsGr0 : FsGr where
  getS3 := getSt
  isB := isB8
def kn_getS3 (F : FsGr) : FuncId × (List DV → RV) := (33, fun args => match args with
  | [.d (.slc 1 xs)] => some ([F.isB xs], .tup [.agg (((F.getS3 xs)).1), intD (((F.getS3 xs)).2)])
  | [.d (.sc (.slice none 0 0))] => some ([F.isB []], .tup [.agg (((F.getS3 [])).1), intD (((F.getS3 [])).2)])
  | _ => none)
theorem ok_getS3 (args : List DV) (cs : List Prop) (r : DV) (h : (kn_getS3 FsGr0).2 args = some (cs, r)) (hc : allP cs True) : FnV Try.prog 33 args r ∧ closedL 0 args = true := by
  unfold kn_getS3 at h
  simp only at h
  split at h
  · cases h; exact ⟨v_getS3 _ hc.1, rfl⟩
  · cases h; exact ⟨FnP.nils (v_getS3 [] hc.1) ⟨.inr ⟨rfl, _, rfl⟩, trivial⟩, rfl⟩
  · cases h
end Go.Proofs.Ytghkcmgiagodlaa
namespace Go.Proofs.Ytghkcmgiagodlaa
open Go.RowKit
set_option linter.all false
set_option maxHeartbeats 4000000
theorem or_add2 (u w k : Nat) (hu : u < 2 ^ k) (hw : u + w * 2 ^ k < 18446744073709551616) : bitsV .u64 (· ||| ·) ((w * 2 ^ k : Nat) : Int) (u : Int) = ((u + w * 2 ^ k : Nat) : Int) := by
  rw [← or_add u w k hu hw]
  show IntKind.wrap .u64 ((BitVec.ofInt 64 _ ||| BitVec.ofInt 64 _).toNat : Int) = IntKind.wrap .u64 ((BitVec.ofInt 64 _ ||| BitVec.ofInt 64 _).toNat : Int)
  rw [BitVec.or_comm]
theorem shl8 (w : Nat) (h : w < 16777216) : IntKind.wrap .u64 ((w : Int) * 2 ^ min (Int.toNat 8) (IntKind.bits .u64)) = ((w * 2 ^ 8 : Nat) : Int) := by
  rw [show (2 : Int) ^ min (Int.toNat 8) (IntKind.bits .u64) = 256 by decide, wrap_u64 (by omega)]
  omega
theorem or8 (w : Nat) (x : UInt8) (h : w < 16777216) : bitsV .u64 (· ||| ·) (IntKind.wrap .u64 ((w : Int) * 2 ^ min (Int.toNat 8) (IntKind.bits .u64))) (IntKind.wrap .u64 (x.toNat : Int)) = ((x.toNat + w * 256 : Nat) : Int) := by
  have hx := x.toNat_lt
  rw [shl8 w h, wrap_u64 (n := (x.toNat : Int)) (by omega), or_add2 x.toNat w 8 (by omega) (by omega)]
theorem row4 {bs : List UInt8} {xs : List (List PD)} {at_ : Int} (hxs : xs = bytesP bs) (hb : bs.length ≤ 8000000) (hp1 : 0 ≤ at_) (hp2 : at_.toNat + 4 = xs.length) : ∃ y0 y1 y2 y3 : UInt8, getW4 xs at_ = ((y0.toNat + 256 * y1.toNat + 65536 * y2.toNat + 16777216 * y3.toNat : Nat) : Int) ∧ ∀ (k : Nat) (y : UInt8), k < 4 → ([y0, y1, y2, y3] : List UInt8)[k]? = some y → xs.getD (IntKind.wrap .i64 (at_ + (k : Int))).toNat [] = [.sc (.int .u8 (y.toNat : Int))] ∧ (0 ≤ IntKind.wrap .i64 (at_ + (k : Int)) ∧ IntKind.wrap .i64 (at_ + (k : Int)) < xs.length) := by
  have hl : xs.length = bs.length := by rw [hxs]; exact bytesP_length bs
  have hbl : 4 ≤ (bs.drop at_.toNat).length := by rw [List.length_drop]; omega
  obtain ⟨y0, y1, y2, y3, hbb⟩ := four hbl
  refine ⟨y0, y1, y2, y3, ?_, fun k y hk hy => ?_⟩
  · unfold getW4 leV
    rw [hxs, bytesOf_bytesP]
    have hg : ∀ k, k < 4 → (bs.drop at_.toNat).getD k 0 = ([y0, y1, y2, y3] : List UInt8).getD k 0 := fun k hk => by
      rw [← hbb, List.getD_eq_getElem?_getD, List.getD_eq_getElem?_getD, List.getElem?_take, if_pos hk]
    rw [hg 0 (by decide), hg 1 (by decide), hg 2 (by decide), hg 3 (by decide)]
    simp
  · have ew : IntKind.wrap .i64 (at_ + (k : Int)) = at_ + (k : Int) := wrap_i64 (by unfold r64; omega)
    rw [ew]
    have hlt : (at_ + (k : Int)).toNat < bs.length := by omega
    refine ⟨?_, by omega, by omega⟩
    rw [rowB (bs := bs) (i := at_ + (k : Int)) hxs (by omega) (by omega)]
    have e1 : bs[(at_ + (k : Int)).toNat]? = some y := by
      rw [show (at_ + (k : Int)).toNat = at_.toNat + k by omega, ← List.getElem?_drop, ← hy, ← hbb, List.getElem?_take, if_pos hk]
    rw [List.getElem?_eq_getElem hlt] at e1
    rw [Option.some.inj e1]
theorem fdk (u : Int) (k : Nat) (h : 0 ≤ u) (hk : k < 64) : u.fdiv (2 ^ min (Int.toNat (k : Int)) (IntKind.bits .u64)) = u / 2 ^ k := by
  rw [show min (Int.toNat (k : Int)) (IntKind.bits .u64) = k by rw [Int.toNat_natCast]; exact Nat.min_eq_left (by show k ≤ 64; omega)]
  exact Int.fdiv_eq_ediv_of_nonneg _ (Int.pow_nonneg (by decide))
set_option maxRecDepth 100000 in
theorem w_rput (bs : List UInt8) (xs : List (List PD)) (u : Int) (hxs : xs = bytesP bs) (hb : bs.length ≤ 8000000) (hu : u64 u) : FnD Try.prog 16 [.d (.slc 1 xs), intD 4, .d (.sc (.int .u64 u))] [] (fun r st' => ∃ v cs m, cs = rowsD (bytesP (bs ++ le4 u)) ∧ m = (bs ++ le4 u).length ∧ r = .view 1 0 v 0 m ∧ st' = [⟨5, cs, true, v, true⟩]) := by
  refine FnD_cbv (T := fun _ => tabY [5003] []) (H := fun _ => []) (tabY_ok _ _) noK_ok follows_mixed Try.func16 rfl Try.ntmps16 (by simp) fun A X W hA hX hW => ?_
  cbv
  have l0 : A.cmp .lss 0 4 = true := by subst hA; rfl
  cbv at l0
  have l1 : A.cmp .lss 1 4 = true := by subst hA; rfl
  cbv at l1
  have l2 : A.cmp .lss 2 4 = true := by subst hA; rfl
  cbv at l2
  have l3 : A.cmp .lss 3 4 = true := by subst hA; rfl
  cbv at l3
  have l4 : A.cmp .lss 4 4 = false := by subst hA; rfl
  cbv at l4
  have b0 : A.bin .add .i64 0 1 = 1 := by subst hA; rfl
  cbv at b0
  have b1 : A.bin .add .i64 1 1 = 2 := by subst hA; rfl
  cbv at b1
  have b2 : A.bin .add .i64 2 1 = 3 := by subst hA; rfl
  cbv at b2
  have b3 : A.bin .add .i64 3 1 = 4 := by subst hA; rfl
  cbv at b3
  have o0_0 : A.off 0 0 1 = 0 := by subst hA; rfl
  cbv at o0_0
  have o0_1 : A.off 0 1 1 = 1 := by subst hA; rfl
  cbv at o0_1
  have o0_2 : A.off 0 2 1 = 2 := by subst hA; rfl
  cbv at o0_2
  have o0_3 : A.off 0 3 1 = 3 := by subst hA; rfl
  cbv at o0_3
  have m0 : A.bin .mul .i64 8 0 = 0 := by subst hA; rfl
  cbv at m0
  have m1 : A.bin .mul .i64 8 1 = 8 := by subst hA; rfl
  cbv at m1
  have m2 : A.bin .mul .i64 8 2 = 16 := by subst hA; rfl
  cbv at m2
  have m3 : A.bin .mul .i64 8 3 = 24 := by subst hA; rfl
  cbv at m3
  have s0 : A.cmp .lss 0 8 = true := by subst hA; rfl
  cbv at s0
  have s1 : A.cmp .lss 1 8 = true := by subst hA; rfl
  cbv at s1
  have s2 : A.cmp .lss 2 8 = true := by subst hA; rfl
  cbv at s2
  have s3 : A.cmp .lss 3 8 = true := by subst hA; rfl
  cbv at s3
  have cc : A.cond true true false = true := by subst hA; rfl
  cbv at cc
  have cf : A.cond false true false = false := by subst hA; rfl
  cbv at cf
  have hl : xs.length = bs.length := by rw [hxs]; exact bytesP_length bs
  repeat' (refine And.intro ?_ ?_)
  rotate_right 1
  · refine unrollL (T := fun _ => tabY [5003] []) (H := fun _ => []) (tabY_ok _ _) noK_ok follows_mixed hA hX 5 fun R hR => ?_
    cbv
    repeat' first
      | (simp only [l0, l1, l2, l3, l4, b0, b1, b2, b3, o0_0, o0_1, o0_2, o0_3, m0, m1, m2, m3, s0, s1, s2, s3, cc, cf, decide_true]; cbv)
      | (refine part (fun h => ?_) (fun h => ?_) <;> try cbv)
      | (refine And.intro ?_ ?_)
      | (refine hR _ _ _ ?_; cbv)
    all_goals clear l0 l1 l2 l3 l4 b0 b1 b2 b3 o0_0 o0_1 o0_2 o0_3 m0 m1 m2 m3 s0 s1 s2 s3 cc cf
    all_goals try clear hR
    all_goals subst hA hX hW
    all_goals simp only [A0, nc, decide_eq_true_eq, decide_eq_false_iff_not]
    all_goals first
      | exact rfl
      | trivial
      | (simp; done)
      | (simp [rowsD_len (bytesP_sz bs), hxs]; done)
      | omega
      | skip
    have d0 : u.fdiv (2 ^ min (Int.toNat 0) (IntKind.bits .u64)) = u := by
      rw [show (2 : Int) ^ min (Int.toNat 0) (IntKind.bits .u64) = 1 by decide]
      simp
    have d1 := fdk u 8 hu.1 (by decide)
    have d2 := fdk u 16 hu.1 (by decide)
    have d3 := fdk u 24 hu.1 (by decide)
    replace d1 : u.fdiv (2 ^ min (Int.toNat 8) (IntKind.bits .u64)) = u / 256 := d1
    replace d2 : u.fdiv (2 ^ min (Int.toNat 16) (IntKind.bits .u64)) = u / 65536 := d2
    replace d3 : u.fdiv (2 ^ min (Int.toNat 24) (IntKind.bits .u64)) = u / 16777216 := d3
    have c0 := b8 u hu.1
    have c1 := b8 (u / 256) (by have := hu.1; omega)
    have c2 := b8 (u / 65536) (by have := hu.1; omega)
    have c3 := b8 (u / 16777216) (by have := hu.1; omega)
    rw [show (u / 256).toNat = u.toNat / 256 by have := hu.1; omega] at c1
    rw [show (u / 65536).toNat = u.toNat / 65536 by have := hu.1; omega] at c2
    rw [show (u / 16777216).toNat = u.toNat / 16777216 by have := hu.1; omega] at c3
    have hcell : rowsD (bytesP (bs ++ le4 u)) = rowsD xs ++ [.d (.sc (.int .u8 (((UInt8.ofNat (u.toNat % 256)).toNat : Nat) : Int)))] ++ [.d (.sc (.int .u8 (((UInt8.ofNat (u.toNat / 256 % 256)).toNat : Nat) : Int)))] ++ [.d (.sc (.int .u8 (((UInt8.ofNat (u.toNat / 65536 % 256)).toNat : Nat) : Int)))] ++ [.d (.sc (.int .u8 (((UInt8.ofNat (u.toNat / 16777216 % 256)).toNat : Nat) : Int)))] := by
      rw [rowsB_append, ← hxs]
      simp only [List.append_assoc]
      rfl
    have hpr : ∀ κ, pullL κ (rowsD (bytesP (bs ++ le4 u))) = rowsD (bytesP (bs ++ le4 u)) := fun κ => by rw [pullL_eq]; exact pull_rows κ _
    rw [d0, d1, d2, d3, c0, c1, c2, c3]
    refine ret_keep [0] rfl ⟨5, rowsD (bytesP (bs ++ le4 u)), (bs ++ le4 u).length, rfl, rfl, ?_, ?_⟩
    · simp [pullD, hl, le4]
    · refine congrArg (fun z => [({ ty := 5, cells := z, ext := true, ver := 5, live := true } : Box)]) (?_ : pullL [0] _ = rowsD (bytesP (bs ++ le4 u)))
      refine Eq.trans (congrArg (pullL [0]) ?_) (hpr [0])
      rw [hcell]
      rfl
  all_goals subst hA hX hW
  all_goals simp only [A0, nc]
  all_goals first
    | exact rfl
    | trivial
    | omega
    | (simp; done)
    | fail
set_option maxRecDepth 100000 in
theorem v_rget (xs : List (List PD)) (at_ : Int) (hp0 : isB xs) (hp1 : 0 ≤ at_) (hp2 : at_.toNat + 4 = xs.length) : FnV Try.prog 46 [.d (.slc 1 xs), intD at_, intD 4] (.tup [.d (.sc (.int .u64 (getW4 xs at_))), intD 0]) := by
  refine FnD_cbv (T := fun _ => tabY [44, 5003] [7]) (H := fun _ => []) (tabY_ok _ _) noK_ok follows_mixed Try.func46 rfl Try.ntmps46 (by simp) fun A X W hA hX hW => ?_
  cbv
  have a1 : A.bin .sub .i64 4 1 = 3 := by subst hA; rfl
  cbv at a1
  have n3 : A.bin .sub .i64 3 1 = 2 := by subst hA; rfl
  cbv at n3
  have n2 : A.bin .sub .i64 2 1 = 1 := by subst hA; rfl
  cbv at n2
  have n1 : A.bin .sub .i64 1 1 = 0 := by subst hA; rfl
  cbv at n1
  have n0 : A.bin .sub .i64 0 1 = -1 := by subst hA; rfl
  cbv at n0
  have q3 : A.cmp .geq 3 0 = true := by subst hA; rfl
  cbv at q3
  have q2 : A.cmp .geq 2 0 = true := by subst hA; rfl
  cbv at q2
  have q1 : A.cmp .geq 1 0 = true := by subst hA; rfl
  cbv at q1
  have q0 : A.cmp .geq 0 0 = true := by subst hA; rfl
  cbv at q0
  have qm : A.cmp .geq (-1) 0 = false := by subst hA; rfl
  cbv at qm
  have cf : A.cond false true false = false := by subst hA; rfl
  cbv at cf
  obtain ⟨bs, hxs, hb⟩ := id hp0
  have hl : xs.length = bs.length := by rw [hxs]; exact bytesP_length bs
  obtain ⟨e, he⟩ : ∃ e : Int, e = at_ + 4 := ⟨_, rfl⟩
  try simp only [nc] at *
  have f1 : A.cmp .lss 4 1 = false := by subst hA; rfl
  have f2 : A.cmp .gtr 4 8 = false := by subst hA; rfl
  have f3 : A.cmp .lss at_ 0 = false := by subst hA; simp only [A0, nc, decide_eq_false_iff_not]; omega
  have f4 : A.cmp .gtr at_ (A.len xs) = false := by subst hA; simp only [A0, nc, decide_eq_false_iff_not]; omega
  have f5 : A.bin .sub .i64 (A.len xs) at_ = 4 := by subst hA; show IntKind.wrap .i64 ((xs.length : Int) - at_) = 4; rw [wrap_i64 (by unfold r64; omega)]; omega
  have f7 : A.cmp .lss 4 4 = false := by subst hA; rfl
  cbv at f1
  cbv at f2
  cbv at f3
  cbv at f4
  cbv at f5
  cbv at f7
  repeat' first
    | (simp only [f1, f2, f3, f4, f5, f7, cf, a1]; cbv)
    | (refine And.intro ?_ ?_)
    | (refine part (fun h => ?_) (fun h => ?_) <;> try cbv)
  rotate_right 1
  · refine unrollL (T := fun _ => tabY [44, 5003] []) (H := fun _ => []) (tabY_ok _ _) noK_ok follows_mixed hA hX 5 fun R hR => ?_
    cbv
    repeat' first
      | (simp only [a1, n3, n2, n1, n0, q3, q2, q1, q0, qm, cf, decide_true]; cbv)
      | (refine part (fun h => ?_) (fun h => ?_) <;> try cbv)
      | (refine And.intro ?_ ?_)
      | (refine hR _ _ _ ?_; cbv)
    all_goals try (subst hA; exact trivial)
    all_goals try (subst hA; show (0 : Int) ≤ _; decide)
    all_goals clear hR
    all_goals obtain ⟨y0, y1, y2, y3, hv, hyk⟩ := row4 hxs hb hp1 hp2
    all_goals have h0 : xs.getD (IntKind.wrap .i64 (at_ + 0)).toNat [] = [.sc (.int .u8 (y0.toNat : Int))] ∧ (0 ≤ IntKind.wrap .i64 (at_ + 0) ∧ IntKind.wrap .i64 (at_ + 0) < xs.length) := hyk 0 y0 (by decide) rfl
    all_goals have h1 : xs.getD (IntKind.wrap .i64 (at_ + 1)).toNat [] = [.sc (.int .u8 (y1.toNat : Int))] ∧ (0 ≤ IntKind.wrap .i64 (at_ + 1) ∧ IntKind.wrap .i64 (at_ + 1) < xs.length) := hyk 1 y1 (by decide) rfl
    all_goals have h2 : xs.getD (IntKind.wrap .i64 (at_ + 2)).toNat [] = [.sc (.int .u8 (y2.toNat : Int))] ∧ (0 ≤ IntKind.wrap .i64 (at_ + 2) ∧ IntKind.wrap .i64 (at_ + 2) < xs.length) := hyk 2 y2 (by decide) rfl
    all_goals have h3 : xs.getD (IntKind.wrap .i64 (at_ + 3)).toNat [] = [.sc (.int .u8 (y3.toNat : Int))] ∧ (0 ≤ IntKind.wrap .i64 (at_ + 3) ∧ IntKind.wrap .i64 (at_ + 3) < xs.length) := hyk 3 y3 (by decide) rfl
    all_goals subst hA hX hW
    all_goals first
      | exact h0.2
      | exact h1.2
      | exact h2.2
      | exact h3.2
      | (simp only [A0]; first | (rw [h0.1]; exact ⟨rfl, Nat.le_refl 1, rfl⟩) | (rw [h1.1]; exact ⟨rfl, Nat.le_refl 1, rfl⟩) | (rw [h2.1]; exact ⟨rfl, Nat.le_refl 1, rfl⟩) | (rw [h3.1]; exact ⟨rfl, Nat.le_refl 1, rfl⟩))
      | skip
    refine ret_v ?_ rfl
    rw [hv]
    have l0 := y0.toNat_lt
    have l1 := y1.toNat_lt
    have l2 := y2.toNat_lt
    have l3 := y3.toNat_lt
    refine congrArg (fun z => DV.tup [DV.d (.sc (.int .u64 z)), intD 0]) ?_
    have e3 := or8 0 y3 (by omega)
    have e2 := or8 (y3.toNat + 0 * 256) y2 (by omega)
    have e1 := or8 (y2.toNat + (y3.toNat + 0 * 256) * 256) y1 (by omega)
    have e0 := or8 (y1.toNat + (y2.toNat + (y3.toNat + 0 * 256) * 256) * 256) y0 (by omega)
    rw [show y0.toNat + 256 * y1.toNat + 65536 * y2.toNat + 16777216 * y3.toNat = y0.toNat + (y1.toNat + (y2.toNat + (y3.toNat + 0 * 256) * 256) * 256) * 256 by omega, ← e0, ← e1, ← e2, ← e3]
    simp only [A0]
    rw [h0.1, h1.1, h2.1, h3.1]
    rfl
  all_goals subst hA
  all_goals first
    | trivial
    | (intro q; exact q)
    | (intro q; trivial)
    | (intro q; exact absurd q (by decide))
    | exact fun _ => rfl
noncomputable def rputX (xs : List (List PD)) (n u : Int) : List (List PD) := xs ++ bytesP (le4 u)
theorem FnV.ofRow {P : Program} {f : FuncId} {args : List DV} {T : TypeId} {L : List UInt8} (h : FnD P f args [] (fun r st' => ∃ v cs m, cs = rowsD (bytesP L) ∧ m = L.length ∧ r = .view 1 0 v 0 m ∧ st' = [⟨T, cs, true, v, true⟩])) : FnV P f args (.d (.slc 1 (bytesP L))) := by
  refine FnD.ret (FnD.mono h ?_)
  rintro r st ⟨v, cs, m, hcs, hm, rfl, rfl⟩
  exact ret_bytes (b := 0) rfl hm hcs rfl
theorem v_rputX (xs : List (List PD)) (n u : Int) (hp0 : isB xs) (hp1 : n = 4) (hp2 : u64 u) : FnV Try.prog 16 [.d (.slc 1 xs), intD n, .d (.sc (.int .u64 u))] (.d (.slc 1 (rputX xs n u))) := by
  obtain ⟨bs, hxs, hb⟩ := hp0
  subst hp1
  have := FnV.ofRow (w_rput bs xs u hxs hb hp2)
  rw [show bytesP (bs ++ le4 u) = rputX xs 4 u by unfold rputX; rw [hxs, bytesP_append]] at this
  exact this
theorem v_rgetX (xs : List (List PD)) (at_ n : Int) (hp0 : isB xs) (hp1 : okAt xs at_ n) : FnV Try.prog 46 [.d (.slc 1 xs), intD at_, intD n] (.tup [.d (.sc (.int .u64 (getWX xs at_ n).1)), intD (getWX xs at_ n).2]) := by
  obtain ⟨h1, h2, rfl⟩ := hp1
  exact v_rget xs at_ hp0 h1 h2
structure FsWe where
  rgetX : List (List PD) → Int → Int → Int × Int
  rputX : List (List PD) → Int → Int → List (List PD)
  isB : List (List PD) → Prop
  u64 : Int → Prop
  okAt : List (List PD) → Int → Int → Prop
noncomputable def FsWe0 : FsWe where
  rgetX := getWX
  rputX := rputX
  isB := isB
  u64 := u64
  okAt := okAt
def kn_rgetX (F : FsWe) : FuncId × (List DV → RV) := (46, fun args => match args with
  | [.d (.slc 1 xs), .d (.sc (.int .i64 at_)), .d (.sc (.int .i64 n))] => some ([F.isB xs, F.okAt xs at_ n], .tup [.d (.sc (.int .u64 (((F.rgetX xs at_ n)).1))), intD (((F.rgetX xs at_ n)).2)])
  | [.d (.sc (.slice none 0 0)), .d (.sc (.int .i64 at_)), .d (.sc (.int .i64 n))] => some ([F.isB [], F.okAt [] at_ n], .tup [.d (.sc (.int .u64 (((F.rgetX [] at_ n)).1))), intD (((F.rgetX [] at_ n)).2)])
  | _ => none)
theorem ok_rgetX (args : List DV) (cs : List Prop) (r : DV) (h : (kn_rgetX FsWe0).2 args = some (cs, r)) (hc : allP cs True) : FnV Try.prog 46 args r ∧ closedL 0 args = true := by
  unfold kn_rgetX at h
  simp only at h
  split at h
  · cases h; exact ⟨v_rgetX _ _ _ hc.1 hc.2.1, rfl⟩
  · cases h; exact ⟨FnP.nils (v_rgetX [] _ _ hc.1 hc.2.1) ⟨.inr ⟨rfl, _, rfl⟩, ⟨.inl rfl, ⟨.inl rfl, trivial⟩⟩⟩, rfl⟩
  · cases h
def kn_rputX (F : FsWe) : FuncId × (List DV → RV) := (16, fun args => match args with
  | [.d (.slc 1 xs), .d (.sc (.int .i64 n)), .d (.sc (.int .u64 u))] => some ([F.isB xs, n = 4, F.u64 u], .d (.slc 1 (F.rputX xs n u)))
  | [.d (.sc (.slice none 0 0)), .d (.sc (.int .i64 n)), .d (.sc (.int .u64 u))] => some ([F.isB [], n = 4, F.u64 u], .d (.slc 1 (F.rputX [] n u)))
  | _ => none)
theorem ok_rputX (args : List DV) (cs : List Prop) (r : DV) (h : (kn_rputX FsWe0).2 args = some (cs, r)) (hc : allP cs True) : FnV Try.prog 16 args r ∧ closedL 0 args = true := by
  unfold kn_rputX at h
  simp only at h
  split at h
  · cases h; exact ⟨v_rputX _ _ _ hc.1 hc.2.1 hc.2.2.1, rfl⟩
  · cases h; exact ⟨FnP.nils (v_rputX [] _ _ hc.1 hc.2.1 hc.2.2.1) ⟨.inr ⟨rfl, _, rfl⟩, ⟨.inl rfl, ⟨.inl rfl, trivial⟩⟩⟩, rfl⟩
  · cases h
end Go.Proofs.Ytghkcmgiagodlaa
namespace Go.Proofs.Ytghkcmgiagodlaa
open Go.RowKit
set_option linter.all false
theorem FnV.ro2 {P : Program} {f : FuncId} {xs ys : List (List PD)} {o n : Nat} {rest : List DV} {a r : DV} {st : Store} {K : DV → Store → Prop} (b sz : Nat) (bx : Box) (hb : st[b]? = some bx) (hl : bx.live = true) (hcells : bx.cells = rowsD xs) (hsz : ∀ x ∈ xs, x.length = sz) (k : Nat) (ho : o = k * sz) (hkn : k + n ≤ xs.length) (hys : ys = (xs.drop k).take n)
    (h : FnV P f (a :: .d (.slc sz ys) :: rest) r) (hca : closedL 0 [a] = true) (hcr : closedL 0 rest = true) (hs : scalD r = true) (hk : K r st) : FnD P f (a :: .view sz b bx.ver o n :: rest) st K := by
  intro E vs hc hst hargs
  subst hst
  cases vs with
  | nil => exact hargs.elim
  | cons va vs =>
  obtain ⟨hva, hargs⟩ := hargs
  cases vs with
  | nil => exact hargs.elim
  | cons v vs =>
  obtain ⟨hv, hvs⟩ := hargs
  have hbl := (List.getElem?_eq_some_iff.1 hb).1
  have hlen := hc.len
  obtain ⟨⟨g, z⟩, hg⟩ : ∃ gz, E.σ[b]? = some gz := ⟨E.σ[b]'(by omega), List.getElem?_eq_getElem _⟩
  obtain ⟨cur, a1, a2, a3, a4, a5, a6, a7, a8⟩ := hc.box b bx g z hb hg hl
  let S' : Nat → Prop := fun g' => E.S g' ∨ g' = g
  have hkept : Kept E.w E.w E.S S' := fun g' h => ⟨.inl h, rfl⟩
  have hrows : RowsP E.w S' sz xs ⟨g, 0, none⟩ := by
    refine RowsP.of_flat xs _ hsz (CellsP.of_get _ _ fun j p hj => ?_)
    obtain ⟨u, c1, c2, c3⟩ := a7 j (.d p) (by rw [hcells, rowsD_get, hj]; rfl)
    refine ⟨u, ?_, c2, RepP.keep hkept p u c3⟩
    have hadd : (⟨g, 0, none⟩ : Addr).add j = ⟨g, j, none⟩ := by unfold Addr.add; split <;> simp_all
    rw [hadd]
    simp [World.cell?, a1, c1]
  let Em : Env := ⟨E.w, S', E.σ, E.st⟩
  have hem : Ext E Em := ⟨Nat.le_refl _, rfl, rfl, rfl, fun _ h => .inl h, fun g' h => by
    rcases h with h | h
    · exact .inl h
    · exact .inr (.inr ⟨b, z, by rw [hg, h]⟩), fun _ _ _ => rfl, fun _ bx gz h1 h2 => ⟨bx, gz, h1, h2, Nat.le_refl _, fun _ => rfl, id, .inl rfl⟩, fun _ _ h1 h2 => by rw [show Em.σ = E.σ from rfl, h1] at h2; cases h2⟩
  let E1 : Env := ⟨E.w, S', [], []⟩
  have hold : ∀ g', S' g' → g' < E.w.heap.size := fun g' h => by
    rcases h with h | h
    · exact hc.old g' h
    · rw [h]; exact hc.lt b g z hg
  have hc1 : Conc E1 := by
    refine ⟨rfl, ?_, ?_, hold, ?_⟩
    · intro i bi g' z' h1; cases h1
    · intro i i' g' z' g2 z2 h1; cases h1
    · intro i g' z' h1; cases h1
  have hv1 : Rep E1 (.d (.slc sz ys)) v := by
    obtain ⟨bi, gz, h1, h2, h0, h3, h4⟩ := hv
    rw [hb] at h1; cases h1
    rw [hg] at h2; cases h2
    obtain ⟨c, rfl, c1, c2, c3⟩ := h4 rfl
    have hyl : ys.length = n := by rw [hys, List.length_take, List.length_drop]; omega
    refine .inr ⟨⟨g, o, none⟩, c, by rw [hyl], by rw [hyl]; exact c1, c2, fun _ => .inr rfl, ?_⟩
    have hadd : (⟨g, 0, none⟩ : Addr).add (k * sz) = ⟨g, o, none⟩ := by rw [← ho]; unfold Addr.add; split <;> simp_all
    rw [hys, ← hadd]
    exact RowsP.take _ _ _ (RowsP.cut _ _ _ hrows)
  have hvs1 : Reps E1 rest vs := by
    have h1 := Reps.ext hc hem rest vs hvs
    have hbk : Back Em E1 (fun b => b) 0 := ⟨rfl, rfl, fun i bi hi => absurd hi (by omega), fun i gz hi => absurd hi (by omega)⟩
    exact Reps.back hbk rest vs hcr (by rw [renL_pure _ rest hcr]; exact h1)
  have hva1 : Reps E1 [a] [va] := by
    have h1 := Reps.ext hc hem [a] [va] ⟨hva, trivial⟩
    have hbk : Back Em E1 (fun b => b) 0 := ⟨rfl, rfl, fun i bi hi => absurd hi (by omega), fun i gz hi => absurd hi (by omega)⟩
    exact Reps.back hbk [a] [va] hca (by rw [renL_pure _ [a] hca]; exact h1)
  refine (h E1 (va :: v :: vs) hc1 rfl ⟨hva1.1, hv1, hvs1⟩).mono ?_
  rintro e w' ⟨v2, E2, r2, k1, k2, ⟨k3, k4, k5⟩, k6, k7, k8⟩
  have k5 : r2 = r := k5
  subst k5
  have hheap : ∀ x, x < E.w.heap.size → E2.w.heap[x]? = E.w.heap[x]? := fun x hx => k7.heap x hx (fun i z' bi h1 => by cases h1)
  have hS2 : ∀ x, E2.S x → E.S x ∨ x = g ∨ E.w.heap.size ≤ x := fun x hx => by
    rcases k7.fresh x hx with h1 | h1 | ⟨i, z', h1⟩
    · rcases h1 with h1 | h1
      · exact .inl h1
      · exact .inr (.inl h1)
    · exact .inr (.inr h1)
    · cases h1
  have hglt := hc.lt b g z hg
  let E3 : Env := ⟨E2.w, fun x => E2.S x ∧ x ≠ g, E.σ, E.st⟩
  have hx3 : Ext E E3 := ⟨k7.size, k7.os, k7.tape, k7.output, fun x hx => ⟨k7.set x (.inl hx), fun e => a6 (e ▸ hx)⟩, fun x hx => by
    rcases hS2 x hx.1 with h1 | h1 | h1
    · exact .inl h1
    · exact absurd h1 hx.2
    · exact .inr (.inl h1), fun x hx _ => hheap x hx, fun _ bx gz h1 h2 => ⟨bx, gz, h1, h2, Nat.le_refl _, fun _ => rfl, id, .inl rfl⟩, fun _ _ h1 h2 => by rw [show E3.σ = E.σ from rfl, h1] at h2; cases h2⟩
  have hc3 : Conc E3 := by
    refine ⟨hc.len, fun i bi g' z' h1 h2 hli => ?_, hc.inj, fun x hx => k6.old x hx.1, fun i g' z' h1 => Nat.lt_of_lt_of_le (hc.lt i g' z' h1) k7.size⟩
    obtain ⟨cur', c1, c2, c3, c4, c5, c6, c7, c8⟩ := hc.box i bi g' z' h1 h2 hli
    have hlt := hc.lt i g' z' h2
    refine ⟨cur', by rw [show E3.w = E2.w from rfl, hheap g' hlt]; exact c1, c2, c3, c4, c5, fun hS => ?_, fun j d hj => ?_, c8⟩
    · rcases hS2 g' hS.1 with q | q | q
      · exact c6 q
      · exact hS.2 q
      · omega
    · obtain ⟨u, u1, u2, u3⟩ := c7 j d hj
      exact ⟨u, u1, u2, Rep.ext hc hx3 d u u3⟩
  exact ⟨v2, E3, r2, k1, k2, hk, hc3, hx3, scal_rep r2 v2 hs k8⟩
end Go.Proofs.Ytghkcmgiagodlaa
namespace Go.Proofs.Ytghkcmgiagodlaa
open Go.RowKit
set_option linter.all false
set_option maxHeartbeats 4000000
theorem clo0 {d : DV} {rest : List DV} (h : closedD 0 d = true) (h2 : closedL 0 rest = true) : closedL 0 (d :: rest) = true := by simp only [closedL, h, h2, Bool.and_self]
/-- An image, or nothing. -/
noncomputable def imgT (d : Deps) (s : List DV) : List (List PD) := bif rightDs d then bytesP (imgI d s) else []
set_option maxRecDepth 100000 in
theorem v_iputN (d : Deps) (s : List DV) (hs : isSt s) (hr : rightSt s = true) (hd : rightDs d = false) : FnV Try.prog 10 [d.D, .agg s] (.d (.slc 1 [])) := by
  obtain ⟨d0, d1, d2, d3, d4, d5, d6⟩ := d
  have hsl := hs.len
  obtain ⟨GFsS4, hFsS4⟩ : ∃ F, F = FsS40 := ⟨_, rfl⟩
  obtain ⟨GFsIa, hFsIa⟩ : ∃ F, F = FsIa0 := ⟨_, rfl⟩
  have hH : SoundK Try.prog [kn_rightSt GFsS4, kn_imgR GFsIa] := by subst hFsS4 hFsIa; exact orK_ok ok_rightSt (orK_ok ok_imgR noK_ok)
  have hB : SoundB Try.prog [] := by subst hFsS4 hFsIa; exact noB_ok
  refine FnD_cbv (T := fun _ => tabY [1, 1003, 1008, 1025, 5003, 5004] []) (H := fun _ => [kn_rightSt GFsS4, kn_imgR GFsIa]) (tabY_ok _ _) hH follows_mixed Try.func10 rfl Try.ntmps10 (by simp) fun A X W hA hX hW => ?_
  cbv
  have er : GFsS4.rightSt s = true := by subst hFsS4; exact hr
  have ed : GFsIa.imgR ⟨d0, d1, d2, d3, d4, d5, d6⟩ = false := by subst hFsIa; exact hd
  have en : A.not true = false := by subst hA; rfl
  have en2 : A.not false = true := by subst hA; rfl
  cbv at er
  cbv at ed
  cbv at en
  cbv at en2
  repeat' first
    | (simp only [er, ed, en, en2]; cbv)
    | (refine And.intro ?_ ?_)
    | (refine part (fun h => ?_) (fun h => ?_) <;> try cbv)
  all_goals subst hA hX hW hFsS4 hFsIa
  all_goals first
    | exact rfl
    | exact ret_nil rfl
    | assumption
    | trivial
    | exact id
    | (intro hq; exact hq)
    | exact fun _ => hs
    | (show List.length _ = 49 * 1; exact hsl)
    | (show s.length ≤ 1000000; rw [hsl]; decide)
    | fail
set_option maxRecDepth 100000 in
theorem v_rimg (d : Deps) (s : List DV) (hs : isSt s) (hv : okV s) (hsm : smallS s) (hpo : 0 < (bytesSt s).length) (hrd : rDeps d) : FnV Try.prog 15 [d.D, .agg s] (.d (.slc 1 (imgT d s))) := by
  obtain ⟨d0, d1, d2, d3, d4, d5, d6⟩ := d
  have hsl := hs.len
  have hsc := hs.closed
  obtain ⟨GFsPu, hFsPu⟩ : ∃ F, F = FsPu0 := ⟨_, rfl⟩
  obtain ⟨GFsIa, hFsIa⟩ : ∃ F, F = FsIa0 := ⟨_, rfl⟩
  have hH : SoundK Try.prog [kn_stPutR GFsPu, kn_rightD GFsIa] := by subst hFsPu hFsIa; exact orK_ok ok_stPutR (orK_ok ok_rightD noK_ok)
  have hB : SoundB Try.prog [] := by subst hFsPu hFsIa; exact noB_ok
  refine FnD_cbv (T := fun _ => tabY [1, 1001, 1003, 1008, 5003, 5004] []) (H := fun _ => [kn_stPutR GFsPu, kn_rightD GFsIa]) (tabY_ok _ _) hH follows_mixed Try.func15 rfl Try.ntmps15 (by simp) fun A X W hA hX hW => ?_
  cbv
  have l0 : A.cmp .lss 0 7 = true := by subst hA; rfl
  cbv at l0
  have l1 : A.cmp .lss 1 7 = true := by subst hA; rfl
  cbv at l1
  have l2 : A.cmp .lss 2 7 = true := by subst hA; rfl
  cbv at l2
  have l3 : A.cmp .lss 3 7 = true := by subst hA; rfl
  cbv at l3
  have l4 : A.cmp .lss 4 7 = true := by subst hA; rfl
  cbv at l4
  have l5 : A.cmp .lss 5 7 = true := by subst hA; rfl
  cbv at l5
  have l6 : A.cmp .lss 6 7 = true := by subst hA; rfl
  cbv at l6
  have l7 : A.cmp .lss 7 7 = false := by subst hA; rfl
  cbv at l7
  have b0 : A.bin .add .i64 0 1 = 1 := by subst hA; rfl
  cbv at b0
  have b1 : A.bin .add .i64 1 1 = 2 := by subst hA; rfl
  cbv at b1
  have b2 : A.bin .add .i64 2 1 = 3 := by subst hA; rfl
  cbv at b2
  have b3 : A.bin .add .i64 3 1 = 4 := by subst hA; rfl
  cbv at b3
  have b4 : A.bin .add .i64 4 1 = 5 := by subst hA; rfl
  cbv at b4
  have b5 : A.bin .add .i64 5 1 = 6 := by subst hA; rfl
  cbv at b5
  have b6 : A.bin .add .i64 6 1 = 7 := by subst hA; rfl
  cbv at b6
  have o0_0 : A.off 0 0 1 = 0 := by subst hA; rfl
  cbv at o0_0
  have o0_1 : A.off 0 1 1 = 1 := by subst hA; rfl
  cbv at o0_1
  have o0_2 : A.off 0 2 1 = 2 := by subst hA; rfl
  cbv at o0_2
  have o0_3 : A.off 0 3 1 = 3 := by subst hA; rfl
  cbv at o0_3
  have o0_4 : A.off 0 4 1 = 4 := by subst hA; rfl
  cbv at o0_4
  have o0_5 : A.off 0 5 1 = 5 := by subst hA; rfl
  cbv at o0_5
  have o0_6 : A.off 0 6 1 = 6 := by subst hA; rfl
  cbv at o0_6
  have v0 : A.gi [.d (.sc (.int .i64 d0)), .d (.sc (.int .i64 d1)), .d (.sc (.int .i64 d2)), .d (.sc (.int .i64 d3)), .d (.sc (.int .i64 d4)), .d (.sc (.int .i64 d5)), .d (.sc (.int .i64 d6))] 0 = d0 := by subst hA; rfl
  cbv at v0
  have v1 : A.gi [.d (.sc (.int .i64 d0)), .d (.sc (.int .i64 d1)), .d (.sc (.int .i64 d2)), .d (.sc (.int .i64 d3)), .d (.sc (.int .i64 d4)), .d (.sc (.int .i64 d5)), .d (.sc (.int .i64 d6))] 1 = d1 := by subst hA; rfl
  cbv at v1
  have v2 : A.gi [.d (.sc (.int .i64 d0)), .d (.sc (.int .i64 d1)), .d (.sc (.int .i64 d2)), .d (.sc (.int .i64 d3)), .d (.sc (.int .i64 d4)), .d (.sc (.int .i64 d5)), .d (.sc (.int .i64 d6))] 2 = d2 := by subst hA; rfl
  cbv at v2
  have v3 : A.gi [.d (.sc (.int .i64 d0)), .d (.sc (.int .i64 d1)), .d (.sc (.int .i64 d2)), .d (.sc (.int .i64 d3)), .d (.sc (.int .i64 d4)), .d (.sc (.int .i64 d5)), .d (.sc (.int .i64 d6))] 3 = d3 := by subst hA; rfl
  cbv at v3
  have v4 : A.gi [.d (.sc (.int .i64 d0)), .d (.sc (.int .i64 d1)), .d (.sc (.int .i64 d2)), .d (.sc (.int .i64 d3)), .d (.sc (.int .i64 d4)), .d (.sc (.int .i64 d5)), .d (.sc (.int .i64 d6))] 4 = d4 := by subst hA; rfl
  cbv at v4
  have v5 : A.gi [.d (.sc (.int .i64 d0)), .d (.sc (.int .i64 d1)), .d (.sc (.int .i64 d2)), .d (.sc (.int .i64 d3)), .d (.sc (.int .i64 d4)), .d (.sc (.int .i64 d5)), .d (.sc (.int .i64 d6))] 5 = d5 := by subst hA; rfl
  cbv at v5
  have v6 : A.gi [.d (.sc (.int .i64 d0)), .d (.sc (.int .i64 d1)), .d (.sc (.int .i64 d2)), .d (.sc (.int .i64 d3)), .d (.sc (.int .i64 d4)), .d (.sc (.int .i64 d5)), .d (.sc (.int .i64 d6))] 6 = d6 := by subst hA; rfl
  cbv at v6
  obtain ⟨x1, hx1⟩ : ∃ x, x = numX [] d0 := ⟨_, rfl⟩
  have hN0 : FnV Try.prog 45 [.d (.sc (.slice none 0 0)), .d (.sc (.int .i64 d0))] (.d (.slc 1 x1)) := by
    refine FnP.ups (args := [.d (.sc (.slice none 0 0)), .d (.sc (.int .i64 d0))]) (?_ : FnV Try.prog 45 [.d (.slc 1 []), .d (.sc (.int .i64 d0))] (.d (.slc 1 x1))) (UpL.nil (UpL.keep UpL.done))
    rw [hx1]
    exact v_rnum [] d0 ⟨[], rfl, by decide⟩ hrd.1
  have hy1 : isLn 10 x1 := by rw [hx1]; exact isLn.nil.num d0
  obtain ⟨x2, hx2⟩ : ∃ x, x = numX x1 d1 := ⟨_, rfl⟩
  have hN1 : FnV Try.prog 45 [.d (.slc 1 x1), .d (.sc (.int .i64 d1))] (.d (.slc 1 x2)) := by
    rw [hx2]
    exact v_rnum x1 d1 (hy1.le (by decide)) hrd.2.1
  have hy2 : isLn 20 x2 := by rw [hx2]; exact hy1.num d1
  obtain ⟨x3, hx3⟩ : ∃ x, x = numX x2 d2 := ⟨_, rfl⟩
  have hN2 : FnV Try.prog 45 [.d (.slc 1 x2), .d (.sc (.int .i64 d2))] (.d (.slc 1 x3)) := by
    rw [hx3]
    exact v_rnum x2 d2 (hy2.le (by decide)) hrd.2.2.1
  have hy3 : isLn 30 x3 := by rw [hx3]; exact hy2.num d2
  obtain ⟨x4, hx4⟩ : ∃ x, x = numX x3 d3 := ⟨_, rfl⟩
  have hN3 : FnV Try.prog 45 [.d (.slc 1 x3), .d (.sc (.int .i64 d3))] (.d (.slc 1 x4)) := by
    rw [hx4]
    exact v_rnum x3 d3 (hy3.le (by decide)) hrd.2.2.2.1
  have hy4 : isLn 40 x4 := by rw [hx4]; exact hy3.num d3
  obtain ⟨x5, hx5⟩ : ∃ x, x = numX x4 d4 := ⟨_, rfl⟩
  have hN4 : FnV Try.prog 45 [.d (.slc 1 x4), .d (.sc (.int .i64 d4))] (.d (.slc 1 x5)) := by
    rw [hx5]
    exact v_rnum x4 d4 (hy4.le (by decide)) hrd.2.2.2.2.1
  have hy5 : isLn 50 x5 := by rw [hx5]; exact hy4.num d4
  obtain ⟨x6, hx6⟩ : ∃ x, x = numX x5 d5 := ⟨_, rfl⟩
  have hN5 : FnV Try.prog 45 [.d (.slc 1 x5), .d (.sc (.int .i64 d5))] (.d (.slc 1 x6)) := by
    rw [hx6]
    exact v_rnum x5 d5 (hy5.le (by decide)) hrd.2.2.2.2.2.1
  have hy6 : isLn 60 x6 := by rw [hx6]; exact hy5.num d5
  obtain ⟨c6, hc6, hc6l⟩ := id hy6
  have hW6 := w_rnum c6 x6 d6 hc6 (by omega) hrd.2.2.2.2.2.2
  obtain ⟨sb, hsb, hsbl⟩ := hsm
  obtain ⟨sx, hsx⟩ : ∃ sx, sx = bytesSt s := ⟨_, rfl⟩
  obtain ⟨hb, hbe⟩ : ∃ hb, hb = imgH ⟨d0, d1, d2, d3, d4, d5, d6⟩ s := ⟨_, rfl⟩
  obtain ⟨hx, hhx⟩ : ∃ hx, hx = bytesP hb := ⟨_, rfl⟩
  have hc6e : c6 = numB d0 ++ numB d1 ++ numB d2 ++ numB d3 ++ numB d4 ++ numB d5 := by
    have h1 : bytesP c6 = bytesP (numB d0 ++ numB d1 ++ numB d2 ++ numB d3 ++ numB d4 ++ numB d5) := by
      rw [← hc6, hx6, hx5, hx4, hx3, hx2, hx1]
      simp only [numX, List.nil_append, bytesP_append]
    exact bytesP_inj.1 h1
  have hsb2 : bytesOf sx = sb := by rw [hsx, hsb]; exact bytesOf_bytesP sb
  have hbe2 : hb = c6 ++ numB d6 ++ sb := by rw [hbe, hc6e, imgH, ← hsx, hsb2]; rfl
  have hbl : hb.length ≤ 8000000 := by
    have := numB_length d6
    rw [hbe2, List.length_append, List.length_append]
    omega
  have hxB : isB hx := ⟨hb, hhx, hbl⟩
  have hsz := bytesP_sz hb
  rw [← hhx] at hsz
  obtain ⟨su, hsu0⟩ : ∃ su, su = onX 0 hx := ⟨_, rfl⟩
  have hsu1 := onX_range 0 (by decide) hx
  have hsu : u64 su := by rw [hsu0]; exact ⟨hsu1.1, Int.lt_trans hsu1.2 (by decide)⟩
  have hrow : rowsD (bytesP (c6 ++ numB d6)) ++ rowsD sx = rowsD hx := by
    rw [hhx, hbe2, rowsB_append (c6 ++ numB d6) sb, hsx, hsb]
  rw [← hsx] at hpo
  obtain ⟨p0, pt, hpt⟩ : ∃ p0 pt, sx = p0 :: pt := by
    cases sx with
    | nil => simp at hpo
    | cons p0 pt => exact ⟨p0, pt, rfl⟩
  have es : GFsPu.stPutR s = p0 :: pt := by subst hFsPu; rw [← hpt]; exact hsx.symm
  have en : A.not true = false := by subst hA; rfl
  have en2 : A.not false = true := by subst hA; rfl
  have ec1 : A.cond false true true = true := by subst hA; rfl
  have ec2 : A.cond false true false = false := by subst hA; rfl
  cbv at en
  cbv at en2
  cbv at es
  cbv at ec1
  cbv at ec2
  cases hdq : rightDs ⟨d0, d1, d2, d3, d4, d5, d6⟩
  · have ed : GFsIa.rightD ⟨d0, d1, d2, d3, d4, d5, d6⟩ = false := by subst hFsIa; exact hdq
    cbv at ed
    repeat' first
      | (simp only [ed, en, en2, es, ec1, ec2]; cbv)
      | (refine And.intro ?_ ?_)
      | (refine part (fun h => ?_) (fun h => ?_) <;> try cbv)
    all_goals subst hA hX hW hFsPu hFsIa
    all_goals first
      | exact rfl
      | exact id
      | exact hs
      | exact hv
      | exact hsl
      | exact hy1
      | trivial
      | (intro hq; exact hq)
      | (show s.length ≤ 1000000; rw [hsl]; decide)
      | (show List.length _ = 49 * 1; exact hsl)
      | exact fun _ => hs
      | (rw [show imgT ⟨d0, d1, d2, d3, d4, d5, d6⟩ s = [] by unfold imgT; rw [hdq]; rfl]; exact ret_nil rfl)
      | (intro hq; simpa [A0] using hq)
      | fail
  have ed : GFsIa.rightD ⟨d0, d1, d2, d3, d4, d5, d6⟩ = true := by subst hFsIa; exact hdq
  cbv at ed
  repeat' first
    | (simp only [ed, en, en2, es, ec1, ec2]; cbv)
    | (refine And.intro ?_ ?_)
    | (refine part (fun h => ?_) (fun h => ?_) <;> try cbv)
  rotate_right 1
  · refine unrollL (T := fun _ => tabY [1, 1001, 1003, 1008, 5003, 5004] []) (H := fun _ => [kn_stPutR GFsPu, kn_rightD GFsIa]) (tabY_ok _ _) hH follows_mixed hA hX 8 fun R hR => ?_
    cbv
    repeat' first
      | (simp only [l0, l1, l2, l3, l4, l5, l6, l7, b0, b1, b2, b3, b4, b5, b6, o0_0, o0_1, o0_2, o0_3, o0_4, o0_5, o0_6, v0, v1, v2, v3, v4, v5, v6, decide_true]; cbv)
      | (refine And.intro ?_ ?_)
      | (refine callL hX (FnV.use hN0 rfl ?_); cbv)
      | (refine callL hX (FnV.use hN1 rfl ?_); cbv)
      | (refine callL hX (FnV.use hN2 rfl ?_); cbv)
      | (refine callL hX (FnV.use hN3 rfl ?_); cbv)
      | (refine callL hX (FnV.use hN4 rfl ?_); cbv)
      | (refine callL hX (FnV.use hN5 rfl ?_); cbv)
      | (refine hR _ _ _ ?_; cbv)
    rotate_right 1
    · refine callL hX (FnD.newRow hW6 rfl fun v c7 m7 hc7 hm7 => ?_)
      cbv
      repeat' first
        | (simp only [l0, l1, l2, l3, l4, l5, l6, l7, b0, b1, b2, b3, b4, b5, b6, o0_0, o0_1, o0_2, o0_3, o0_4, o0_5, o0_6, v0, v1, v2, v3, v4, v5, v6, decide_true]; cbv)
        | (refine And.intro ?_ ?_)
        | (refine hR _ _ _ ?_; cbv)
      rotate_right 1
      · have hon : FnV Try.prog 17 [.d (.sc (.int .u32 0)), .d (.slc 1 hx)] (.d (.sc (.int .u32 su))) := by rw [hsu0]; exact v_onR 0 hx ⟨by decide, by decide⟩ hxB
        obtain ⟨rq, hrq⟩ : ∃ rq, rq = rputX hx 4 su := ⟨_, rfl⟩
        have hrp : FnV Try.prog 16 [.d (.slc 1 hx), .d (.sc (.int .i64 4)), .d (.sc (.int .u64 su))] (.d (.slc 1 rq)) := by rw [hrq]; exact v_rputX hx 4 su hxB rfl hsu
        have hn7 : m7 + (p0 :: pt).length = hx.length := by
          have h9 := congrArg List.length hrow
          rw [List.length_append, rowsB_length, ← hm7, rowsD_len hsz, hsx, hsb, rowsB_length] at h9
          rw [← hpt, hsx, hsb, bytesP_length]
          omega
        refine callL hX (FnV.ro2 (o := 0) (ys := hx) 2 1 ⟨5, A.app c7 (A.rows (p0 :: pt)), true, A.nxt v, true⟩ rfl rfl (xs := hx) ?_ hsz 0 rfl ?_ ?_ hon rfl rfl rfl ?_)
        rotate_right 1
        · cbv
          refine callL hX (FnD.freezeTo (args' := [.d (.slc 1 hx), .d (.sc (.int .i64 4)), .d (.sc (.int .u64 su))]) 2 1 hx ⟨5, A.app c7 (A.rows (p0 :: pt)), true, A.nxt v, true⟩ rfl rfl ?_ hsz ?_ (FnV.use hrp rfl ?_))
          rotate_right 1
          · cbv
            subst hA hX hW
            refine ret_v ?_ rfl
            unfold imgT
            rw [hdq]
            rw [hrq]
            show DV.d (.slc 1 (rputX hx 4 su)) = .d (.slc 1 (bytesP (imgI ⟨d0, d1, d2, d3, d4, d5, d6⟩ s)))
            unfold imgI rputX
            rw [← hbe, ← hhx, ← bytesP_append, ← hhx, hsu0]
            rfl
          · subst hA
            show c7 ++ rowsD (p0 :: pt) = rowsD hx
            rw [← hpt, hc7]
            exact hrow
          · subst hA
            have hw : IntKind.wrap .u64 su = su := wrap_u64 hsu
            show [fzD 2 _ 1 hx (.view 1 2 _ 0 (m7 + (p0 :: pt).length)), .d (.sc (.int .i64 4)), .d (.sc (.int .u64 (IntKind.wrap .u64 su)))] = _
            rw [hw, hn7]
            simp [fzD]
        · subst hA
          show c7 ++ rowsD (p0 :: pt) = rowsD hx
          rw [← hpt, hc7]
          exact hrow
        · subst hA
          show 0 + (m7 + (p0 :: pt).length) ≤ hx.length
          omega
        · subst hA
          show hx = List.take (m7 + (p0 :: pt).length) (List.drop 0 hx)
          rw [hn7, List.drop_zero, List.take_length]
      all_goals subst hA hX hFsPu hFsIa
      all_goals first
        | exact rfl
        | (show c7.length = m7 * 1; rw [hc7, rowsB_length, hm7]; omega)
        | (have hm7l : m7 ≤ 1000000 := by
             have := numB_length d6
             rw [hm7, List.length_append]
             omega
           have hsxl : (p0 :: pt).length ≤ 1000000 := by rw [← hpt, hsx, hsb, bytesP_length]; exact hsbl
           simp only [A0]
           omega)
        | fail
    all_goals subst hA hX hFsPu hFsIa
    all_goals first
      | exact ⟨by decide, by decide⟩
      | exact ⟨rfl, Nat.le_of_ble_eq_true rfl, rfl⟩
      | exact rfl
      | fail
  all_goals subst hA hX hW hFsPu hFsIa
  all_goals first
    | exact rfl
    | exact id
    | exact hs
    | exact hv
    | exact hsl
    | exact hy1
    | trivial
    | (intro hq; exact hq)
    | (show s.length ≤ 1000000; rw [hsl]; decide)
    | (show List.length _ = 49 * 1; exact hsl)
    | exact fun _ => hs
    | (rw [show imgT ⟨d0, d1, d2, d3, d4, d5, d6⟩ s = [] by unfold imgT; rw [hdq]; rfl]; exact ret_nil rfl)
    | (intro hq; simpa [A0] using hq)
    | fail
end Go.Proofs.Ytghkcmgiagodlaa
namespace Go.Proofs.Ytghkcmgiagodlaa
open Go.RowKit
set_option linter.all false
set_option maxHeartbeats 4000000
noncomputable def behL : List DV → List Cmd → List DV
  | s, [] => s
  | s, c :: l => behL (applyS s c).1 l
noncomputable def behX (xs : List (List PD)) : List DV := behL zeroSt ((cmdsOf xs).take 60)
theorem behL_play : ∀ (l : List Cmd) (s : List DV) (acc : List Reply), (playL s l acc).1 = behL s l
  | [], _, _ => rfl
  | c :: l, s, acc => behL_play l (applyS s c).1 (acc ++ [(applyS s c).2])
theorem beh_ok {xs : List (List PD)} (h : isC xs) : ∃ ps os, behX xs = cellsS ps os ∧ okSt 60 ps os := by
  obtain ⟨l, e, _⟩ := h
  have h60 : (l.take 60).length ≤ 60 := by rw [List.length_take]; omega
  obtain ⟨qs, rs, e2, h2⟩ := playL_st (l.take 60) [] zero_st (by decide) (by omega)
  refine ⟨qs, rs, ?_, h2.mono (by omega)⟩
  unfold behX
  rw [e, cmdsOf_X, ← e2, behL_play]
  rfl
set_option maxRecDepth 1000000 in
theorem v_behind (xs : List (List PD)) (hp0 : isC xs) : FnV Try.prog 13 [.d (.slc 7 xs)] (.agg (behX xs)) := by
  obtain ⟨l, hxs, hl⟩ := id hp0
  have hlen : xs.length = l.length := by rw [hxs]; simp [cmdsX]
  have hof : cmdsOf xs = l := by rw [hxs]; exact cmdsOf_X l
  obtain ⟨q, hq⟩ : ∃ q, q = behX xs := ⟨_, rfl⟩
  rw [← hq]
  unfold behX at hq
  rw [hof] at hq
  obtain ⟨z, hz⟩ : ∃ z, z = DV.d (.sc (.slice none 0 0)) :: Z48 := ⟨_, rfl⟩
  obtain ⟨s0, hs0⟩ : ∃ s0, s0 = zeroSt := ⟨_, rfl⟩
  rw [← hs0] at hq
  have hs0S : isSt s0 := by rw [hs0]; exact zst_ok.is
  have hup0 : UpL (DV.d (.sc (.slice none 0 0)) :: Z48) s0 := by
    have e : upCs (DV.d (.sc (.slice none 0 0)) :: Z48) = s0 := by rw [hs0]; rfl
    rw [← e]
    exact upL_upCs _
  obtain ⟨GFsSD, hGFsSD⟩ : ∃ F, F = FsSD0 := ⟨_, rfl⟩
  have hH : SoundK Try.prog [kn_applyR GFsSD] := by subst hGFsSD; exact orK_ok ok_applyR noK_ok
  refine FnD_cbv (T := fun _ => tabY [20, 1002, 1003, 1017, 1021, 1023, 1025, 1016, 1022, 5004] [5]) (H := fun _ => [kn_applyR GFsSD]) (tabY_ok _ _) hH follows_mixed Try.func13 rfl Try.ntmps13 (by simp) fun A X W hA hX hW => ?_
  cbv
  refine loopL (T := fun _ => tabY [20, 1002, 1003, 1017, 1021, 1023, 1025, 1016, 1022, 5004] [5]) (H := fun _ => [kn_applyR GFsSD]) (tabY_ok _ _) hH follows_mixed hA hX (fun x : Int × List DV => (0 ≤ x.1 ∧ x.1 ≤ 60 ∧ x.1 ≤ (l.length : Int)) ∧ isSt x.2 ∧ q = behL x.2 ((l.take 60).drop x.1.toNat))
    (fun x => [(0, .d (.slc 7 xs)), (2, .ref 0 0 0), (3, .ref 1 0 0), (4, .d (.sc (.int .i64 x.1)))]) (fun x => [⟨34, z, false, 0, true⟩, ⟨34, x.2, false, 0, true⟩])
    (fun x => 60 - x.1.toNat) (0, s0) ?_ ?_ ?_
  · exact ⟨⟨by simp only; omega, by simp only; omega, by simp only; omega⟩, hs0S, hq⟩
  · subst hz
    exact told_upst ⟨_, _, rfl, ⟨rfl, rfl, rfl, rfl, UpL.refl fun a _ => UpD.refl a⟩, _, _, rfl, ⟨rfl, rfl, rfl, rfl, hup0⟩, rfl⟩ ⟨.inl (UpD.refl _), .inl (UpD.refl _), .inl (UpD.refl _), .inl (UpD.refl _), trivial⟩
  rintro R ⟨i, s⟩ hR ⟨hi, hs, hqi⟩
  replace hi : 0 ≤ i ∧ i ≤ 60 ∧ i ≤ (l.length : Int) := hi
  replace hs : isSt s := hs
  replace hqi : q = behL s ((l.take 60).drop i.toNat) := hqi
  have hsl := hs.len
  have hsc := hs.closed
  have hzl : z.length = 49 := by rw [hz]; rfl
  have hzc : closedL 0 z = true := by rw [hz]; rfl
  cbv
  repeat' first
    | ((with_reducible refine regionU [] [] [0, 0, 0, 0, 0, 0, 0, 0] (T := fun _ => tabY [20, 1002, 1003, 1017, 1021, 1023, 1025, 1016, 1022, 5004] []) (H := fun _ => [kn_applyR GFsSD]) (B := fun _ => []) (R := fun _ => []) (A := A) (tabY_ok _ _) hH noB_ok noR_ok follows_mixed hA hX (by kernel_rfl) (by kernel_rfl) (by kernel_rfl) (by kernel_rfl) (by kernel_rfl) ?_) <;> cbv)
    | (refine part (fun h => ?_) (fun h => ?_) <;> try cbv)
    | (refine And.intro ?_ ?_)
  all_goals subst hA hX hW hR hGFsSD
  all_goals try clear hH
  all_goals try simp only [nc] at hi
  all_goals simp only [A0, nc, decide_eq_true_eq, decide_eq_false_iff_not] at *
  all_goals first
    | exact rfl
    | exact id
    | assumption
    | (intro _; exact trivial)
    | (intro hq2; simpa using hq2)
    | (have hh : i < xs.length ∧ i < 60 := by simpa using h
       exact ⟨hi.1, hh.1⟩)
    | (have hh : i < xs.length ∧ i < 60 := by simpa using h
       have hlt : i < l.length := by have := hh.1; omega
       have hi60 := hh.2
       have hrow := crow hxs hi.1 hlt
       have hd : (l.take 60).drop i.toNat = (l[i.toNat]'(by omega)) :: (l.take 60).drop (i + 1).toNat := by
         have hlt2 : i.toNat < (l.take 60).length := by rw [List.length_take]; omega
         rw [List.drop_eq_getElem_cons hlt2, List.getElem_take, show i.toNat + 1 = (i + 1).toNat by omega]
       generalize l[i.toNat]'(by omega) = c at hrow hd
       rw [hd] at hqi
       replace hqi : q = behL (applyS s c).1 ((l.take 60).drop (i + 1).toNat) := hqi
       have hai := hs.apply c
       have hal := hai.len
       have hac := hai.closed
       obtain ⟨t, ht⟩ : ∃ t, t = applyS s c := ⟨_, rfl⟩
       rw [← ht] at hqi hai hal hac
       have ht2 : applyS s ⟨c.kind, c.client, c.seq, c.key, c.fin, c.old, c.val⟩ = t := ht.symm
       have ei : IntKind.wrap .i64 (i + 1) = i + 1 := wrap_i64 (by unfold r64; omega)
       simp only [A0, nc, FsSD0, hrow, Cmd.row, List.map_cons, List.map_nil, Nat.zero_add, List.getElem?_cons_zero, List.getElem?_cons_succ, List.drop_zero, List.take_succ_cons, List.take_zero, List.length_cons, List.length_nil, ht2]
       first
         | (refine ⟨by omega, by omega⟩)
         | (show List.length _ = 49 * 1; assumption)
         | (simp; done)
         | (refine ⟨(i + 1, t.1), ⟨⟨by simp only; omega, by simp only; omega, by simp only; omega⟩, hai, hqi⟩, by simp only; omega, told_keep [0, 1] rfl ?_ ?_⟩
            · simp [keepSt, pullBox, pullL_closed _ _ hac, pullL_closed _ _ hzc]
            · simp [toldP, getS, pullD, ei]
              try exact ⟨rfl, rfl⟩))
    | (have hh : ¬ (i < xs.length ∧ i < 60) := fun q => by simp [q.1, q.2] at h
       have hend : (l.take 60).drop i.toNat = [] := List.drop_eq_nil_of_le (by rw [List.length_take]; omega)
       rw [hend] at hqi
       replace hqi : q = s := hqi
       rw [hqi]
       refine ret_v rfl ?_
       show closedL 0 s = true
       exact hsc)
    | (show List.length _ = 49 * 1; assumption)
    | fail
structure FsBe where
  behX : List (List PD) → List DV
  isC : List (List PD) → Prop
noncomputable def FsBe0 : FsBe where
  behX := behX
  isC := isC
theorem v_behX (xs : List (List PD)) (h : isC xs) : FnV Try.prog 13 [.d (.slc 7 xs)] (.agg (behX xs)) := v_behind xs h
def kn_behX (F : FsBe) : FuncId × (List DV → RV) := (13, fun args => match args with
  | [.d (.slc 7 xs)] => some ([F.isC xs], .agg ((F.behX xs)))
  | [.d (.sc (.slice none 0 0))] => some ([F.isC []], .agg ((F.behX [])))
  | _ => none)
theorem ok_behX (args : List DV) (cs : List Prop) (r : DV) (h : (kn_behX FsBe0).2 args = some (cs, r)) (hc : allP cs True) : FnV Try.prog 13 args r ∧ closedL 0 args = true := by
  unfold kn_behX at h
  simp only at h
  split at h
  · cases h; exact ⟨v_behX _ hc.1, rfl⟩
  · cases h; exact ⟨FnP.nils (v_behX [] hc.1) ⟨.inr ⟨rfl, _, rfl⟩, trivial⟩, rfl⟩
  · cases h
end Go.Proofs.Ytghkcmgiagodlaa
namespace Go.Proofs.Ytghkcmgiagodlaa
open Go.RowKit
set_option linter.all false
set_option maxHeartbeats 4000000
def okI (s : List DV) : Prop := ∃ k ps os, k ≤ 4611686018427387904 ∧ okSt k ps os ∧ s = cellsS ps os
theorem beh_okI {xs : List (List PD)} (h : isC xs) : okI (behX xs) := by
  obtain ⟨ps, os, e, hk⟩ := beh_ok h
  exact ⟨60, ps, os, by decide, hk, e⟩
theorem okI.is {s : List DV} (h : okI s) : isSt s := by
  obtain ⟨k, ps, os, _, hk, rfl⟩ := h
  exact hk.is
noncomputable def iputX (d : Deps) (s : List DV) : List (List PD) := bytesP (imgI d s)
theorem iput_isB {a : Deps} {s : List DV} (hs : okI s) : isB (iputX a s) := by
  obtain ⟨k, ps, os, hk, h1, rfl⟩ := hs
  obtain ⟨bs, h2, h3⟩ := img_small h1 hk
  have h4 := dpB_len a
  refine ⟨_, rfl, ?_⟩
  unfold imgI imgH
  rw [h2, bytesOf_bytesP, List.length_append, List.length_append, le4_len]
  omega
structure FsI4 where
  iputX : Deps → List DV → List (List PD)
  iruns3 : Bool
  okI : List DV → Prop
  rightDq : Deps → Bool
noncomputable def FsI40 : FsI4 where
  iputX := iputX
  iruns3 := runs21
  okI := okI
  rightDq := rightDs
theorem v_iputX (d : Deps) (s : List DV) (hs : isSt s) (ho : okI s) (hd : rightDs d = true) : FnV Try.prog 10 [d.D, .agg s] (.d (.slc 1 (iputX d s))) := by
  obtain ⟨k, ps, os, hk, h1, rfl⟩ := ho
  exact FnV.ofRow (w_iput d _ h1.is (h1.v hk) (img_small h1 hk) (rightDs_r hd) h1.right hd)
theorem v_iruns3 : FnV Try.prog 3 [] (boolD runs21) := v_iruns
def kn_iruns3 (F : FsI4) : FuncId × (List DV → RV) := (3, fun args => match args with
  | [] => some ([], boolD F.iruns3)
  | _ => none)
theorem ok_iruns3 (args : List DV) (cs : List Prop) (r : DV) (h : (kn_iruns3 FsI40).2 args = some (cs, r)) (hc : allP cs True) : FnV Try.prog 3 args r ∧ closedL 0 args = true := by
  unfold kn_iruns3 at h
  simp only at h
  split at h
  · cases h; exact ⟨v_iruns3, rfl⟩
  · cases h
end Go.Proofs.Ytghkcmgiagodlaa
namespace Go.Proofs.Ytghkcmgiagodlaa
open Go.RowKit
set_option linter.all false
set_option maxHeartbeats 4000000
set_option maxRecDepth 1000000 in
theorem v_unim (ys : List (List PD)) (hp0 : isB8 ys) : FnV Try.prog 19 [.d (.slc 1 ys)] (.tup [.agg (igetX ys).1.cells, .agg (igetX ys).2.1, .d (.sc (.int .i64 (igetX ys).2.2))]) := by
  obtain ⟨n, hn⟩ : ∃ n, n = ys.length := ⟨_, rfl⟩
  obtain ⟨N, hN⟩ : ∃ N : Int, N = (n : Int) - 4 := ⟨_, rfl⟩
  have hnl : n ≤ 8000000 := by obtain ⟨bs, rfl, hb⟩ := id hp0; rw [hn, bytesP_length]; exact hb
  obtain ⟨GFsIa, hFsIa⟩ : ∃ F, F = FsIa0 := ⟨_, rfl⟩
  obtain ⟨GFsWe, hFsWe⟩ : ∃ F, F = FsWe0 := ⟨_, rfl⟩
  obtain ⟨GFsCr, hFsCr⟩ : ∃ F, F = FsCr0 := ⟨_, rfl⟩
  obtain ⟨GFsGr, hFsGr⟩ : ∃ F, F = FsGr0 := ⟨_, rfl⟩
  obtain ⟨GFsSr, hFsSr⟩ : ∃ F, F = FsSr0 := ⟨_, rfl⟩
  obtain ⟨GFsRr, hFsRr⟩ : ∃ F, F = FsRr0 := ⟨_, rfl⟩
  have hH : SoundK Try.prog [kn_rightD GFsIa, kn_rgetX GFsWe, kn_onR GFsCr, kn_getS3 GFsGr] := by subst hFsIa hFsWe hFsCr hFsGr hFsSr hFsRr; exact orK_ok ok_rightD (orK_ok ok_rgetX (orK_ok ok_onR (orK_ok ok_getS3 noK_ok)))
  have hB : SoundB Try.prog [kb_rRead GFsSr, kb_rNum GFsRr] := by subst hFsIa hFsWe hFsCr hFsGr hFsSr hFsRr; exact orB_ok okb_rRead (orB_ok okb_rNum noB_ok)
  refine FnD_cbv (T := fun _ => tabY [1003, 1011, 1017, 1035, 1054, 1063, 1073, 1078, 1081, 5003, 5004] [13]) (H := fun _ => [kn_rightD GFsIa, kn_rgetX GFsWe, kn_onR GFsCr, kn_getS3 GFsGr]) (tabY_ok _ _) hH follows_mixed Try.func19 rfl Try.ntmps19 (by simp) fun A X W hA hX hW => ?_
  cbv
  have l0 : A.cmp .lss 0 7 = true := by subst hA; rfl
  cbv at l0
  have l1 : A.cmp .lss 1 7 = true := by subst hA; rfl
  cbv at l1
  have l2 : A.cmp .lss 2 7 = true := by subst hA; rfl
  cbv at l2
  have l3 : A.cmp .lss 3 7 = true := by subst hA; rfl
  cbv at l3
  have l4 : A.cmp .lss 4 7 = true := by subst hA; rfl
  cbv at l4
  have l5 : A.cmp .lss 5 7 = true := by subst hA; rfl
  cbv at l5
  have l6 : A.cmp .lss 6 7 = true := by subst hA; rfl
  cbv at l6
  have l7 : A.cmp .lss 7 7 = false := by subst hA; rfl
  cbv at l7
  have b0 : A.bin .add .i64 0 1 = 1 := by subst hA; rfl
  cbv at b0
  have b1 : A.bin .add .i64 1 1 = 2 := by subst hA; rfl
  cbv at b1
  have b2 : A.bin .add .i64 2 1 = 3 := by subst hA; rfl
  cbv at b2
  have b3 : A.bin .add .i64 3 1 = 4 := by subst hA; rfl
  cbv at b3
  have b4 : A.bin .add .i64 4 1 = 5 := by subst hA; rfl
  cbv at b4
  have b5 : A.bin .add .i64 5 1 = 6 := by subst hA; rfl
  cbv at b5
  have b6 : A.bin .add .i64 6 1 = 7 := by subst hA; rfl
  cbv at b6
  have o0_0 : A.off 0 0 1 = 0 := by subst hA; rfl
  cbv at o0_0
  have o0_1 : A.off 0 1 1 = 1 := by subst hA; rfl
  cbv at o0_1
  have o0_2 : A.off 0 2 1 = 2 := by subst hA; rfl
  cbv at o0_2
  have o0_3 : A.off 0 3 1 = 3 := by subst hA; rfl
  cbv at o0_3
  have o0_4 : A.off 0 4 1 = 4 := by subst hA; rfl
  cbv at o0_4
  have o0_5 : A.off 0 5 1 = 5 := by subst hA; rfl
  cbv at o0_5
  have o0_6 : A.off 0 6 1 = 6 := by subst hA; rfl
  cbv at o0_6
  try simp only [nc] at hN
  have eN : A.bin .sub .i64 (A.len ys) 4 = N := by subst hA; show IntKind.wrap .i64 ((ys.length : Int) - 4) = N; rw [wrap_i64 (by unfold r64; omega), hN, hn]
  cbv at eN
  try simp only [nc] at *
  have hup0 : UpL (DV.d (.sc (.slice none 0 0)) :: Z48) zeroSt := by
    have e : upCs (DV.d (.sc (.slice none 0 0)) :: Z48) = zeroSt := rfl
    rw [← e]
    exact upL_upCs _
  by_cases h4 : n < 4
  · have f1 : A.cmp .lss (A.len ys) 4 = true := by subst hA; exact decide_eq_true (by show (ys.length : Int) < 4; omega)
    cbv at f1
    repeat' first
      | (simp only [eN, f1]; cbv)
      | (refine And.intro ?_ ?_)
      | (refine part (fun h2 => ?_) (fun h2 => ?_) <;> try cbv)
    all_goals subst hX hW hA
    all_goals first
      | exact rfl
      | (show List.length _ = _; rfl)
      | (have hm0 : igetX ys = (zeroDp, zeroSt, 3) := by unfold igetX; rw [if_pos (by omega)]
         rw [hm0]
         exact ret_up ⟨_, rfl, UpL.keep (UpL.agg hup0 (UpL.keep UpL.done))⟩ rfl)
      | fail
  · obtain ⟨M, hM⟩ : ∃ M : Nat, M = n - 4 := ⟨_, rfl⟩
    obtain ⟨zs, hzs⟩ : ∃ zs, zs = ys.take M := ⟨_, rfl⟩
    obtain ⟨c0, hc0⟩ : ∃ c0, c0 = getW4 ys N := ⟨_, rfl⟩
    obtain ⟨s0, hs0⟩ : ∃ s0, s0 = onX 0 zs := ⟨_, rfl⟩
    have hMN : N = (M : Int) := by omega
    have hb1 : (0 : Int) ≤ N := by omega
    have hb2 : N ≤ (n : Int) := by omega
    have hzB : isB8 zs := isB8_cut (o := 0) hp0 (by rw [List.drop_zero]; exact hzs)
    have hok : okAt ys N 4 := ⟨hb1, by omega, rfl⟩
    have f1 : A.cmp .lss (A.len ys) 4 = false := by subst hA; exact decide_eq_false (by show ¬ (ys.length : Int) < 4; omega)
    have f3 : A.sub ys 0 N = zs := by subst hA; show (ys.drop 0).take (N.toNat - 0) = zs; rw [List.drop_zero, hzs, show N.toNat - 0 = M by omega]
    have f4 : GFsWe.rgetX ys N 4 = (c0, 0) := by subst hFsWe; rw [hc0]; rfl
    have f5 : GFsCr.onR 0 zs = s0 := by subst hFsCr; exact hs0.symm
    cbv at f1
    cbv at f3
    cbv at f4
    cbv at f5
    try simp only [nc] at *
    have r0 := rd0 hzB
    obtain ⟨⟨m0, a1, u1⟩, j0⟩ : ∃ q, numR zs 0 0 = q := ⟨_, rfl⟩
    have r1 := num_rd r0
    rw [j0] at r1
    have e0 : GFsRr.num zs 0 0 = (m0, a1, u1) := by subst hFsRr; exact j0
    obtain ⟨⟨m1, a2, u2⟩, j1⟩ : ∃ q, numR zs a1 u1 = q := ⟨_, rfl⟩
    have r2 := num_rd r1.1
    rw [j1] at r2
    have e1 : GFsRr.num zs a1 u1 = (m1, a2, u2) := by subst hFsRr; exact j1
    obtain ⟨⟨m2, a3, u3⟩, j2⟩ : ∃ q, numR zs a2 u2 = q := ⟨_, rfl⟩
    have r3 := num_rd r2.1
    rw [j2] at r3
    have e2 : GFsRr.num zs a2 u2 = (m2, a3, u3) := by subst hFsRr; exact j2
    obtain ⟨⟨m3, a4, u4⟩, j3⟩ : ∃ q, numR zs a3 u3 = q := ⟨_, rfl⟩
    have r4 := num_rd r3.1
    rw [j3] at r4
    have e3 : GFsRr.num zs a3 u3 = (m3, a4, u4) := by subst hFsRr; exact j3
    obtain ⟨⟨m4, a5, u5⟩, j4⟩ : ∃ q, numR zs a4 u4 = q := ⟨_, rfl⟩
    have r5 := num_rd r4.1
    rw [j4] at r5
    have e4 : GFsRr.num zs a4 u4 = (m4, a5, u5) := by subst hFsRr; exact j4
    obtain ⟨⟨m5, a6, u6⟩, j5⟩ : ∃ q, numR zs a5 u5 = q := ⟨_, rfl⟩
    have r6 := num_rd r5.1
    rw [j5] at r6
    have e5 : GFsRr.num zs a5 u5 = (m5, a6, u6) := by subst hFsRr; exact j5
    obtain ⟨⟨m6, a7, u7⟩, j6⟩ : ∃ q, numR zs a6 u6 = q := ⟨_, rfl⟩
    have r7 := num_rd r6.1
    rw [j6] at r7
    have e6 : GFsRr.num zs a6 u6 = (m6, a7, u7) := by subst hFsRr; exact j6
    obtain ⟨na, hna⟩ : ∃ na : Nat, a7 = (na : Int) := ⟨a7.toNat, by have := r7.1.2.1; simp only at this; omega⟩
    have hzl : zs.length = M := by rw [hzs, List.length_take]; omega
    have hnaM : na ≤ M := by have := r7.1.2.2.1; simp only at this; omega
    obtain ⟨us, hus⟩ : ∃ us, us = (ys.drop na).take (M - na) := ⟨_, rfl⟩
    have husz : us = zs.drop na := by rw [hus, hzs, List.drop_take]
    have huB : isB8 us := isB8_cut hp0 hus
    obtain ⟨⟨sg, eg⟩, hsg⟩ : ∃ q, getSt us = q := ⟨_, rfl⟩
    have hsgS : isSt sg := by
      obtain ⟨ub, hub, hubl⟩ := id huB
      have := (getSt_is hubl).1
      rw [← hub, hsg] at this
      exact this
    have hsgl := hsgS.len
    have hsgc : closedD 0 (.tup [.agg sg, .d (.sc (.int .i64 eg))]) = true := by
      show (closedL 0 sg && true) = true
      rw [hsgS.closed]
      rfl
    have f6 : A.sub ys a7 N = us := by subst hA; show (ys.drop a7.toNat).take (N.toNat - a7.toNat) = us; rw [hus, hna, show ((na : Int)).toNat = na by omega, show N.toNat = M by omega]
    have f7 : GFsGr.getS3 us = (sg, eg) := by subst hFsGr; exact hsg
    cbv at f6
    cbv at f7
    try simp only [nc] at *
    have hbn : 0 ≤ a7 ∧ a7 ≤ N ∧ N ≤ (ys.length : Int) := ⟨by omega, by omega, by omega⟩
    have hbz : (0 : Int) ≤ 0 ∧ 0 ≤ N ∧ N ≤ (ys.length : Int) := ⟨by omega, by omega, by omega⟩
    obtain ⟨D, hD⟩ : ∃ D : Deps, D = ⟨m0, m1, m2, m3, m4, m5, m6⟩ := ⟨_, rfl⟩
    have hdp : dpsR zs = (D, a7, u7) := by
      unfold dpsR
      simp only [j0, j1, j2, j3, j4, j5, j6, hD]
    have hmod : igetX ys = (if c0 = s0 then (if u7 = 0 then (if rightDs D = true then (if eg = 0 then (D, sg, 0) else (zeroDp, zeroSt, eg)) else (zeroDp, zeroSt, 4)) else (zeroDp, zeroSt, u7)) else (zeroDp, zeroSt, 6)) := by
      have hz2 : ys.take (ys.length - 4) = zs := by rw [hzs, hM, hn]
      have hN2 : ((ys.length : Int) - 4) = N := by rw [hN, hn]
      unfold igetX
      rw [if_neg (by omega), hz2, hN2, ← hc0, show ofX zs = s0 from hs0.symm]
      unfold igetB
      simp only [hdp]
      rw [hna, show ((na : Int)).toNat = na by omega, ← husz, hsg]
    obtain ⟨t1, ht1⟩ : ∃ t1, t1 = !decide (c0 = s0) := ⟨_, rfl⟩
    obtain ⟨t2, ht2⟩ : ∃ t2, t2 = !decide (u7 = 0) := ⟨_, rfl⟩
    obtain ⟨t3, ht3⟩ : ∃ t3, t3 = !rightDs D := ⟨_, rfl⟩
    obtain ⟨t4, ht4⟩ : ∃ t4, t4 = !decide (eg = 0) := ⟨_, rfl⟩
    have hs64 : IntKind.wrap .u64 s0 = s0 := by
      have := onX_range 0 (by decide) zs
      rw [hs0]
      exact wrap_u64 ⟨this.1, Int.lt_trans this.2 (by decide)⟩
    have g1 : A.cmp .neq c0 (A.wrap .u64 s0) = t1 := by subst hA; show (!decide (c0 = IntKind.wrap .u64 s0)) = t1; rw [hs64, ht1]
    have g2 : A.cmp .neq u7 0 = t2 := by subst hA; rw [ht2]; rfl
    have g3 : A.not (GFsIa.rightD ⟨m0, m1, m2, m3, m4, m5, m6⟩) = t3 := by subst hA hFsIa; rw [ht3, hD]; rfl
    have g4 : A.cmp .neq eg 0 = t4 := by subst hA; rw [ht4]; rfl
    have hzero : ∀ (e : Int) (bs : Store), RetW 0 (fun x st => st = [] ∧ pureD x = true ∧ x = .tup [.agg zeroDp.cells, .agg zeroSt, .d (.sc (.int .i64 e))]) (.tup [.agg zeroDp.cells, .agg (DV.d (.sc (.slice none 0 0)) :: Z48), .d (.sc (.int .i64 e))]) bs := fun e bs => ret_up ⟨_, rfl, UpL.keep (UpL.agg hup0 (UpL.keep UpL.done))⟩ rfl
    have hgood : ∀ (bs : Store), RetW 0 (fun x st => st = [] ∧ pureD x = true ∧ x = .tup [.agg D.cells, .agg sg, .d (.sc (.int .i64 0))]) (.tup [.agg D.cells, .agg sg, .d (.sc (.int .i64 0))]) bs := fun bs => ret_v rfl (by
      show (closedL 0 D.cells && (closedL 0 sg && true)) = true
      rw [hsgS.closed]
      rfl)
    cbv at g1
    cbv at g2
    cbv at g3
    cbv at g4
    cbv at e0
    cbv at e1
    cbv at e2
    cbv at e3
    cbv at e4
    cbv at e5
    cbv at e6
    repeat' first
      | (simp only [eN, f1, f3, f4, f5, g1]; cbv)
      | (refine And.intro ?_ ?_)
      | ((with_reducible refine callB hX hB ?_) <;> cbv)
      | (refine part (fun h2 => ?_) (fun h2 => ?_) <;> try cbv)
    rotate_right 1
    · refine unrollL (T := fun _ => tabY [1003, 1011, 1017, 1035, 1054, 1063, 1073, 1078, 1081, 5003, 5004] [13]) (H := fun _ => [kn_rightD GFsIa, kn_rgetX GFsWe, kn_onR GFsCr, kn_getS3 GFsGr]) (tabY_ok _ _) hH follows_mixed hA hX 8 fun R hR => ?_
      cbv
      repeat' first
        | (simp only [l0, l1, l2, l3, l4, l5, l6, l7, b0, b1, b2, b3, b4, b5, b6, o0_0, o0_1, o0_2, o0_3, o0_4, o0_5, o0_6, e0, e1, e2, e3, e4, e5, e6, decide_true]; cbv)
        | (refine And.intro ?_ ?_)
        | ((with_reducible refine callB hX hB ?_) <;> cbv)
        | (refine hR _ _ _ ?_; cbv)
      rotate_right 1
      · refine pauseL hX (s' := [(0, .d (.slc 1 ys)), (2, .ref 0 0 0), (3, .ref 1 0 0), (5, .d (.sc (.int .i64 N))), (8, .ref 2 0 0), (9, .ref 3 0 0)]) (told_less ⟨.inl rfl, .inl rfl, .inl rfl, .inl rfl, .inl rfl, .inl rfl, trivial⟩) ?_
        (with_reducible refine goL (c := .region 13 _ _) (T := fun _ => tabY [1003, 1011, 1017, 1035, 1054, 1063, 1073, 1078, 1081, 5003, 5004] []) (H := fun _ => [kn_rightD GFsIa, kn_rgetX GFsWe, kn_onR GFsCr, kn_getS3 GFsGr]) (tabY_ok _ _) hH follows_mixed hA hX ?_) <;> cbv
        repeat' first
          | (simp only [g2, g3, g4, f6, f7]; cbv)
          | (refine And.intro ?_ ?_)
          | ((with_reducible refine callB hX hB ?_) <;> cbv)
          | (refine part (fun h3 => ?_) (fun h3 => ?_) <;> try cbv)
        all_goals subst hX hW
        all_goals first
          | (subst hA; exact rfl)
          | (subst hA; show Region.lexB _ _ = true; kernel_rfl)
          | (subst hA; show turnsB _ = true; kernel_rfl)
          | (subst hFsRr; exact r7.1)
          | (subst hFsGr; exact huB)
          | (subst hA; exact hbn)
          | (subst hA; show List.length _ = 49 * 1; exact hsgl)
          | (have y2 : t2 = true := by assumption
             rw [hmod, if_pos (by simpa [ht1] using ‹t1 = false›), if_neg (by simpa [ht2] using y2)]
             exact hzero u7 _)
          | (have y2 : t2 = false := by assumption
             have y3 : t3 = true := by assumption
             rw [hmod, if_pos (by simpa [ht1] using ‹t1 = false›), if_pos (by simpa [ht2] using y2), if_neg (by simpa [ht3] using y3)]
             exact hzero 4 _)
          | (have y2 : t2 = false := by assumption
             have y3 : t3 = false := by assumption
             have y4 : t4 = true := by assumption
             rw [hmod, if_pos (by simpa [ht1] using ‹t1 = false›), if_pos (by simpa [ht2] using y2), if_pos (by simpa [ht3] using y3), if_neg (by simpa [ht4] using y4)]
             exact hzero eg _)
          | (have y2 : t2 = false := by assumption
             have y3 : t3 = false := by assumption
             have y4 : t4 = false := by assumption
             rw [hmod, if_pos (by simpa [ht1] using ‹t1 = false›), if_pos (by simpa [ht2] using y2), if_pos (by simpa [ht3] using y3), if_pos (by simpa [ht4] using y4), hD]
             rw [hD] at hgood
             exact hgood _)
          | fail
      all_goals subst hX hW hA hFsRr
      all_goals first
        | exact rfl
        | exact r0
        | exact r1.1
        | exact r2.1
        | exact r3.1
        | exact r4.1
        | exact r5.1
        | exact r6.1
        | exact r7.1
        | exact ⟨by decide, by decide⟩
        | exact ⟨rfl, Nat.le_of_ble_eq_true rfl, rfl⟩
        | fail
    all_goals subst hX hW
    all_goals first
      | (subst hA; exact rfl)
      | (subst hFsWe; exact hp0)
      | (subst hFsWe; exact hok)
      | (subst hFsCr; exact ⟨by decide, by decide⟩)
      | (subst hFsCr; exact hzB)
      | (subst hFsSr; exact hzB)
      | (subst hA; exact hbz)
      | (subst hFsRr; exact r0)
      | (show List.length _ = _; rfl)
      | (rw [hmod, if_neg (by simpa [ht1] using ‹t1 = true›)]
         exact hzero 6 _)
      | fail
theorem v_unimK (ys : List (List PD)) (hp0 : isB8 ys) : FnV Try.prog 19 [.d (.slc 1 ys)] (.tup [(igetX ys).1.D, .agg (igetX ys).2.1, intD (igetX ys).2.2]) := v_unim ys hp0
structure FsUk where
  unimK : List (List PD) → Deps × List DV × Int
  isB : List (List PD) → Prop
noncomputable def FsUk0 : FsUk where
  unimK := igetX
  isB := isB8
def kn_unimK (F : FsUk) : FuncId × (List DV → RV) := (19, fun args => match args with
  | [.d (.slc 1 ys)] => some ([F.isB ys], .tup [Deps.D (((F.unimK ys)).1), .agg (((F.unimK ys)).2.1), intD (((F.unimK ys)).2.2)])
  | [.d (.sc (.slice none 0 0))] => some ([F.isB []], .tup [Deps.D (((F.unimK [])).1), .agg (((F.unimK [])).2.1), intD (((F.unimK [])).2.2)])
  | _ => none)
theorem ok_unimK (args : List DV) (cs : List Prop) (r : DV) (h : (kn_unimK FsUk0).2 args = some (cs, r)) (hc : allP cs True) : FnV Try.prog 19 args r ∧ closedL 0 args = true := by
  unfold kn_unimK at h
  simp only at h
  split at h
  · cases h; exact ⟨v_unimK _ hc.1, rfl⟩
  · cases h; exact ⟨FnP.nils (v_unimK [] hc.1) ⟨.inr ⟨rfl, _, rfl⟩, trivial⟩, rfl⟩
  · cases h
end Go.Proofs.Ytghkcmgiagodlaa
namespace Go.Proofs.Ytghkcmgiagodlaa
open Go.RowKit
set_option linter.all false
set_option maxHeartbeats 4000000
set_option maxRecDepth 1000000 in
theorem v_igetS (ys : List (List PD)) (hp0 : isB8 ys) : FnV Try.prog 11 [.d (.slc 1 ys)] (.tup [.agg (igetX ys).1.cells, .agg (igetX ys).2.1, .d (.sc (.int .i64 (igetX ys).2.2))]) := by
  obtain ⟨n, hn⟩ : ∃ n, n = ys.length := ⟨_, rfl⟩
  obtain ⟨N, hN⟩ : ∃ N : Int, N = (n : Int) - 4 := ⟨_, rfl⟩
  have hnl : n ≤ 8000000 := by obtain ⟨bs, rfl, hb⟩ := id hp0; rw [hn, bytesP_length]; exact hb
  obtain ⟨GFsIa, hFsIa⟩ : ∃ F, F = FsIa0 := ⟨_, rfl⟩
  obtain ⟨GFsWg, hFsWg⟩ : ∃ F, F = FsWg0 := ⟨_, rfl⟩
  obtain ⟨GFsCr, hFsCr⟩ : ∃ F, F = FsCr0 := ⟨_, rfl⟩
  obtain ⟨GFsGs, hFsGs⟩ : ∃ F, F = FsGs0 := ⟨_, rfl⟩
  obtain ⟨GFsSr, hFsSr⟩ : ∃ F, F = FsSr0 := ⟨_, rfl⟩
  obtain ⟨GFsRr, hFsRr⟩ : ∃ F, F = FsRr0 := ⟨_, rfl⟩
  have hH : SoundK Try.prog [kn_imgR GFsIa, kn_wget2 GFsWg, kn_sof GFsCr, kn_getS GFsGs] := by subst hFsIa hFsWg hFsCr hFsGs hFsSr hFsRr; exact orK_ok ok_imgR (orK_ok ok_wget2 (orK_ok ok_sof (orK_ok ok_getS noK_ok)))
  have hB : SoundB Try.prog [kb_pRead GFsSr, kb_pNum GFsRr, kb_pwrong GFsRr, kb_pat GFsRr] := by subst hFsIa hFsWg hFsCr hFsGs hFsSr hFsRr; exact orB_ok okb_pRead (orB_ok okb_pNum (orB_ok okb_pwrong (orB_ok okb_pat noB_ok)))
  refine FnD_cbv (T := fun _ => tabY [1003, 1012, 1020, 1035, 1053, 1059, 1067, 1072, 1075, 5003, 5004] [14]) (H := fun _ => [kn_imgR GFsIa, kn_wget2 GFsWg, kn_sof GFsCr, kn_getS GFsGs]) (tabY_ok _ _) hH follows_mixed Try.func11 rfl Try.ntmps11 (by simp) fun A X W hA hX hW => ?_
  cbv
  have l0 : A.cmp .lss 0 7 = true := by subst hA; rfl
  cbv at l0
  have l1 : A.cmp .lss 1 7 = true := by subst hA; rfl
  cbv at l1
  have l2 : A.cmp .lss 2 7 = true := by subst hA; rfl
  cbv at l2
  have l3 : A.cmp .lss 3 7 = true := by subst hA; rfl
  cbv at l3
  have l4 : A.cmp .lss 4 7 = true := by subst hA; rfl
  cbv at l4
  have l5 : A.cmp .lss 5 7 = true := by subst hA; rfl
  cbv at l5
  have l6 : A.cmp .lss 6 7 = true := by subst hA; rfl
  cbv at l6
  have l7 : A.cmp .lss 7 7 = false := by subst hA; rfl
  cbv at l7
  have b0 : A.bin .add .i64 0 1 = 1 := by subst hA; rfl
  cbv at b0
  have b1 : A.bin .add .i64 1 1 = 2 := by subst hA; rfl
  cbv at b1
  have b2 : A.bin .add .i64 2 1 = 3 := by subst hA; rfl
  cbv at b2
  have b3 : A.bin .add .i64 3 1 = 4 := by subst hA; rfl
  cbv at b3
  have b4 : A.bin .add .i64 4 1 = 5 := by subst hA; rfl
  cbv at b4
  have b5 : A.bin .add .i64 5 1 = 6 := by subst hA; rfl
  cbv at b5
  have b6 : A.bin .add .i64 6 1 = 7 := by subst hA; rfl
  cbv at b6
  have o0_0 : A.off 0 0 1 = 0 := by subst hA; rfl
  cbv at o0_0
  have o0_1 : A.off 0 1 1 = 1 := by subst hA; rfl
  cbv at o0_1
  have o0_2 : A.off 0 2 1 = 2 := by subst hA; rfl
  cbv at o0_2
  have o0_3 : A.off 0 3 1 = 3 := by subst hA; rfl
  cbv at o0_3
  have o0_4 : A.off 0 4 1 = 4 := by subst hA; rfl
  cbv at o0_4
  have o0_5 : A.off 0 5 1 = 5 := by subst hA; rfl
  cbv at o0_5
  have o0_6 : A.off 0 6 1 = 6 := by subst hA; rfl
  cbv at o0_6
  try simp only [nc] at hN
  have eN : A.bin .sub .i64 (A.len ys) 4 = N := by subst hA; show IntKind.wrap .i64 ((ys.length : Int) - 4) = N; rw [wrap_i64 (by unfold r64; omega), hN, hn]
  cbv at eN
  try simp only [nc] at *
  have hup0 : UpL (DV.d (.sc (.slice none 0 0)) :: Z48) zeroSt := by
    have e : upCs (DV.d (.sc (.slice none 0 0)) :: Z48) = zeroSt := rfl
    rw [← e]
    exact upL_upCs _
  by_cases h4 : n < 4
  · have f1 : A.cmp .lss N 0 = true := by subst hA; exact decide_eq_true (by show N < 0; omega)
    cbv at f1
    repeat' first
      | (simp only [eN, f1]; cbv)
      | (refine And.intro ?_ ?_)
      | (refine part (fun h2 => ?_) (fun h2 => ?_) <;> try cbv)
    all_goals subst hX hW hA
    all_goals first
      | exact rfl
      | (show List.length _ = _; rfl)
      | (have hm0 : igetX ys = (zeroDp, zeroSt, 3) := by unfold igetX; rw [if_pos (by omega)]
         rw [hm0]
         exact ret_up ⟨_, rfl, UpL.keep (UpL.agg hup0 (UpL.keep UpL.done))⟩ rfl)
      | fail
  · obtain ⟨M, hM⟩ : ∃ M : Nat, M = n - 4 := ⟨_, rfl⟩
    obtain ⟨zs, hzs⟩ : ∃ zs, zs = ys.take M := ⟨_, rfl⟩
    obtain ⟨c0, hc0⟩ : ∃ c0, c0 = getW4 ys N := ⟨_, rfl⟩
    obtain ⟨s0, hs0⟩ : ∃ s0, s0 = ofX zs := ⟨_, rfl⟩
    have hMN : N = (M : Int) := by omega
    have hb1 : (0 : Int) ≤ N := by omega
    have hb2 : N ≤ (n : Int) := by omega
    have hzB : isB8 zs := isB8_cut (o := 0) hp0 (by rw [List.drop_zero]; exact hzs)
    have hok : okAt ys N 4 := ⟨hb1, by omega, rfl⟩
    have f1 : A.cmp .lss N 0 = false := by subst hA; exact decide_eq_false (by show ¬ N < 0; omega)
    have f3 : A.sub ys 0 N = zs := by subst hA; show (ys.drop 0).take (N.toNat - 0) = zs; rw [List.drop_zero, hzs, show N.toNat - 0 = M by omega]
    have f4 : GFsWg.wget2 ys N 4 = (c0, 0) := by subst hFsWg; rw [hc0]; rfl
    have f5 : GFsCr.sof zs = s0 := by subst hFsCr; exact hs0.symm
    cbv at f1
    cbv at f3
    cbv at f4
    cbv at f5
    try simp only [nc] at *
    have r0 := rd0 hzB
    obtain ⟨⟨m0, a1, u1⟩, j0⟩ : ∃ q, numR zs 0 0 = q := ⟨_, rfl⟩
    have r1 := num_rd r0
    rw [j0] at r1
    have e0 : GFsRr.num zs 0 0 = (m0, a1, u1) := by subst hFsRr; exact j0
    obtain ⟨⟨m1, a2, u2⟩, j1⟩ : ∃ q, numR zs a1 u1 = q := ⟨_, rfl⟩
    have r2 := num_rd r1.1
    rw [j1] at r2
    have e1 : GFsRr.num zs a1 u1 = (m1, a2, u2) := by subst hFsRr; exact j1
    obtain ⟨⟨m2, a3, u3⟩, j2⟩ : ∃ q, numR zs a2 u2 = q := ⟨_, rfl⟩
    have r3 := num_rd r2.1
    rw [j2] at r3
    have e2 : GFsRr.num zs a2 u2 = (m2, a3, u3) := by subst hFsRr; exact j2
    obtain ⟨⟨m3, a4, u4⟩, j3⟩ : ∃ q, numR zs a3 u3 = q := ⟨_, rfl⟩
    have r4 := num_rd r3.1
    rw [j3] at r4
    have e3 : GFsRr.num zs a3 u3 = (m3, a4, u4) := by subst hFsRr; exact j3
    obtain ⟨⟨m4, a5, u5⟩, j4⟩ : ∃ q, numR zs a4 u4 = q := ⟨_, rfl⟩
    have r5 := num_rd r4.1
    rw [j4] at r5
    have e4 : GFsRr.num zs a4 u4 = (m4, a5, u5) := by subst hFsRr; exact j4
    obtain ⟨⟨m5, a6, u6⟩, j5⟩ : ∃ q, numR zs a5 u5 = q := ⟨_, rfl⟩
    have r6 := num_rd r5.1
    rw [j5] at r6
    have e5 : GFsRr.num zs a5 u5 = (m5, a6, u6) := by subst hFsRr; exact j5
    obtain ⟨⟨m6, a7, u7⟩, j6⟩ : ∃ q, numR zs a6 u6 = q := ⟨_, rfl⟩
    have r7 := num_rd r6.1
    rw [j6] at r7
    have e6 : GFsRr.num zs a6 u6 = (m6, a7, u7) := by subst hFsRr; exact j6
    obtain ⟨na, hna⟩ : ∃ na : Nat, a7 = (na : Int) := ⟨a7.toNat, by have := r7.1.2.1; simp only at this; omega⟩
    have hzl : zs.length = M := by rw [hzs, List.length_take]; omega
    have hnaM : na ≤ M := by have := r7.1.2.2.1; simp only at this; omega
    obtain ⟨us, hus⟩ : ∃ us, us = (ys.drop na).take (M - na) := ⟨_, rfl⟩
    have husz : us = zs.drop na := by rw [hus, hzs, List.drop_take]
    have huB : isB8 us := isB8_cut hp0 hus
    obtain ⟨⟨sg, eg⟩, hsg⟩ : ∃ q, getSt us = q := ⟨_, rfl⟩
    have hsgS : isSt sg := by
      obtain ⟨ub, hub, hubl⟩ := id huB
      have := (getSt_is hubl).1
      rw [← hub, hsg] at this
      exact this
    have hsgl := hsgS.len
    have hsgc : closedD 0 (.tup [.agg sg, .d (.sc (.int .i64 eg))]) = true := by
      show (closedL 0 sg && true) = true
      rw [hsgS.closed]
      rfl
    have f6 : A.sub ys a7 N = us := by subst hA; show (ys.drop a7.toNat).take (N.toNat - a7.toNat) = us; rw [hus, hna, show ((na : Int)).toNat = na by omega, show N.toNat = M by omega]
    have f7 : GFsGs.getS us = (sg, eg) := by subst hFsGs; exact hsg
    cbv at f6
    cbv at f7
    try simp only [nc] at *
    have hbn : 0 ≤ a7 ∧ a7 ≤ N ∧ N ≤ (ys.length : Int) := ⟨by omega, by omega, by omega⟩
    have hbz : (0 : Int) ≤ 0 ∧ 0 ≤ N ∧ N ≤ (ys.length : Int) := ⟨by omega, by omega, by omega⟩
    obtain ⟨D, hD⟩ : ∃ D : Deps, D = ⟨m0, m1, m2, m3, m4, m5, m6⟩ := ⟨_, rfl⟩
    have hdp : dpsR zs = (D, a7, u7) := by
      unfold dpsR
      simp only [j0, j1, j2, j3, j4, j5, j6, hD]
    have hmod : igetX ys = (if c0 = s0 then (if u7 = 0 then (if rightDs D = true then (if eg = 0 then (D, sg, 0) else (zeroDp, zeroSt, eg)) else (zeroDp, zeroSt, 4)) else (zeroDp, zeroSt, u7)) else (zeroDp, zeroSt, 6)) := by
      have hz2 : ys.take (ys.length - 4) = zs := by rw [hzs, hM, hn]
      have hN2 : ((ys.length : Int) - 4) = N := by rw [hN, hn]
      unfold igetX
      rw [if_neg (by omega), hz2, hN2, ← hc0, ← hs0]
      unfold igetB
      simp only [hdp]
      rw [hna, show ((na : Int)).toNat = na by omega, ← husz, hsg]
    obtain ⟨t1, ht1⟩ : ∃ t1, t1 = !decide (c0 = s0) := ⟨_, rfl⟩
    obtain ⟨t2, ht2⟩ : ∃ t2, t2 = !decide (u7 = 0) := ⟨_, rfl⟩
    obtain ⟨t3, ht3⟩ : ∃ t3, t3 = !rightDs D := ⟨_, rfl⟩
    obtain ⟨t4, ht4⟩ : ∃ t4, t4 = !decide (eg = 0) := ⟨_, rfl⟩
    have hs64 : IntKind.wrap .u64 s0 = s0 := by
      have := onX_range 0 (by decide) zs
      rw [hs0]
      exact wrap_u64 ⟨this.1, Int.lt_trans this.2 (by decide)⟩
    have g1 : A.cmp .neq c0 (A.wrap .u64 s0) = t1 := by subst hA; show (!decide (c0 = IntKind.wrap .u64 s0)) = t1; rw [hs64, ht1]
    have g2 : A.cmp .neq u7 0 = t2 := by subst hA; rw [ht2]; rfl
    have g3 : A.not (GFsIa.imgR ⟨m0, m1, m2, m3, m4, m5, m6⟩) = t3 := by subst hA hFsIa; rw [ht3, hD]; rfl
    have g4 : A.cmp .neq eg 0 = t4 := by subst hA; rw [ht4]; rfl
    have hzero : ∀ (e : Int) (bs : Store), RetW 0 (fun x st => st = [] ∧ pureD x = true ∧ x = .tup [.agg zeroDp.cells, .agg zeroSt, .d (.sc (.int .i64 e))]) (.tup [.agg zeroDp.cells, .agg (DV.d (.sc (.slice none 0 0)) :: Z48), .d (.sc (.int .i64 e))]) bs := fun e bs => ret_up ⟨_, rfl, UpL.keep (UpL.agg hup0 (UpL.keep UpL.done))⟩ rfl
    have hgood : ∀ (bs : Store), RetW 0 (fun x st => st = [] ∧ pureD x = true ∧ x = .tup [.agg D.cells, .agg sg, .d (.sc (.int .i64 0))]) (.tup [.agg D.cells, .agg sg, .d (.sc (.int .i64 0))]) bs := fun bs => ret_v rfl (by
      show (closedL 0 D.cells && (closedL 0 sg && true)) = true
      rw [hsgS.closed]
      rfl)
    cbv at g1
    cbv at g2
    cbv at g3
    cbv at g4
    cbv at e0
    cbv at e1
    cbv at e2
    cbv at e3
    cbv at e4
    cbv at e5
    cbv at e6
    repeat' first
      | (simp only [eN, f1, f3, f4, f5, g1]; cbv)
      | (refine And.intro ?_ ?_)
      | ((with_reducible refine callB hX hB ?_) <;> cbv)
      | (refine part (fun h2 => ?_) (fun h2 => ?_) <;> try cbv)
    rotate_right 1
    · refine unrollL (T := fun _ => tabY [1003, 1012, 1020, 1035, 1053, 1059, 1067, 1072, 1075, 5003, 5004] [14]) (H := fun _ => [kn_imgR GFsIa, kn_wget2 GFsWg, kn_sof GFsCr, kn_getS GFsGs]) (tabY_ok _ _) hH follows_mixed hA hX 8 fun R hR => ?_
      cbv
      repeat' first
        | (simp only [l0, l1, l2, l3, l4, l5, l6, l7, b0, b1, b2, b3, b4, b5, b6, o0_0, o0_1, o0_2, o0_3, o0_4, o0_5, o0_6, e0, e1, e2, e3, e4, e5, e6, decide_true]; cbv)
        | (refine And.intro ?_ ?_)
        | ((with_reducible refine callB hX hB ?_) <;> cbv)
        | (refine hR _ _ _ ?_; cbv)
      rotate_right 1
      · refine pauseL hX (s' := [(0, .d (.slc 1 ys)), (2, .ref 0 0 0), (3, .ref 1 0 0), (5, .d (.sc (.int .i64 N))), (8, .ref 2 0 0), (9, .ref 3 0 0)]) (told_less ⟨.inl rfl, .inl rfl, .inl rfl, .inl rfl, .inl rfl, .inl rfl, trivial⟩) ?_
        (with_reducible refine goL (c := .region 14 _ _) (T := fun _ => tabY [1003, 1012, 1020, 1035, 1053, 1059, 1067, 1072, 1075, 5003, 5004] []) (H := fun _ => [kn_imgR GFsIa, kn_wget2 GFsWg, kn_sof GFsCr, kn_getS GFsGs]) (tabY_ok _ _) hH follows_mixed hA hX ?_) <;> cbv
        repeat' first
          | (simp only [g2, g3, g4, f6, f7]; cbv)
          | (refine And.intro ?_ ?_)
          | ((with_reducible refine callB hX hB ?_) <;> cbv)
          | (refine part (fun h3 => ?_) (fun h3 => ?_) <;> try cbv)
        all_goals subst hX hW
        all_goals first
          | (subst hA; exact rfl)
          | (subst hA; show Region.lexB _ _ = true; kernel_rfl)
          | (subst hA; show turnsB _ = true; kernel_rfl)
          | (subst hFsRr; exact r7.1)
          | (subst hFsGs; exact huB)
          | (subst hA; exact hbn)
          | (subst hA; show List.length _ = 49 * 1; exact hsgl)
          | (have y2 : t2 = true := by assumption
             rw [hmod, if_pos (by simpa [ht1] using ‹t1 = false›), if_neg (by simpa [ht2] using y2)]
             exact hzero u7 _)
          | (have y2 : t2 = false := by assumption
             have y3 : t3 = true := by assumption
             rw [hmod, if_pos (by simpa [ht1] using ‹t1 = false›), if_pos (by simpa [ht2] using y2), if_neg (by simpa [ht3] using y3)]
             exact hzero 4 _)
          | (have y2 : t2 = false := by assumption
             have y3 : t3 = false := by assumption
             have y4 : t4 = true := by assumption
             rw [hmod, if_pos (by simpa [ht1] using ‹t1 = false›), if_pos (by simpa [ht2] using y2), if_pos (by simpa [ht3] using y3), if_neg (by simpa [ht4] using y4)]
             exact hzero eg _)
          | (have y2 : t2 = false := by assumption
             have y3 : t3 = false := by assumption
             have y4 : t4 = false := by assumption
             rw [hmod, if_pos (by simpa [ht1] using ‹t1 = false›), if_pos (by simpa [ht2] using y2), if_pos (by simpa [ht3] using y3), if_pos (by simpa [ht4] using y4), hD]
             rw [hD] at hgood
             exact hgood _)
          | fail
      all_goals subst hX hW hA hFsRr
      all_goals first
        | exact rfl
        | exact r0
        | exact r1.1
        | exact r2.1
        | exact r3.1
        | exact r4.1
        | exact r5.1
        | exact r6.1
        | exact r7.1
        | exact ⟨by decide, by decide⟩
        | exact ⟨rfl, Nat.le_of_ble_eq_true rfl, rfl⟩
        | fail
    all_goals subst hX hW
    all_goals first
      | (subst hA; exact rfl)
      | (subst hFsWg; exact hp0)
      | (subst hFsWg; exact hok)
      | (subst hFsCr; exact ⟨by decide, by decide⟩)
      | (subst hFsCr; exact hzB)
      | (subst hFsSr; exact hzB)
      | (subst hA; exact hbz)
      | (subst hFsRr; exact r0)
      | (show List.length _ = _; rfl)
      | (rw [hmod, if_neg (by simpa [ht1] using ‹t1 = true›)]
         exact hzero 6 _)
      | fail
theorem v_igetK (ys : List (List PD)) (hp0 : isB8 ys) : FnV Try.prog 11 [.d (.slc 1 ys)] (.tup [(igetX ys).1.D, .agg (igetX ys).2.1, intD (igetX ys).2.2]) := v_igetS ys hp0
structure FsIk where
  igetK : List (List PD) → Deps × List DV × Int
  isB : List (List PD) → Prop
noncomputable def FsIk0 : FsIk where
  igetK := igetX
  isB := isB8
def kn_igetK (F : FsIk) : FuncId × (List DV → RV) := (11, fun args => match args with
  | [.d (.slc 1 ys)] => some ([F.isB ys], .tup [Deps.D (((F.igetK ys)).1), .agg (((F.igetK ys)).2.1), intD (((F.igetK ys)).2.2)])
  | [.d (.sc (.slice none 0 0))] => some ([F.isB []], .tup [Deps.D (((F.igetK [])).1), .agg (((F.igetK [])).2.1), intD (((F.igetK [])).2.2)])
  | _ => none)
theorem ok_igetK (args : List DV) (cs : List Prop) (r : DV) (h : (kn_igetK FsIk0).2 args = some (cs, r)) (hc : allP cs True) : FnV Try.prog 11 args r ∧ closedL 0 args = true := by
  unfold kn_igetK at h
  simp only at h
  split at h
  · cases h; exact ⟨v_igetK _ hc.1, rfl⟩
  · cases h; exact ⟨FnP.nils (v_igetK [] hc.1) ⟨.inr ⟨rfl, _, rfl⟩, trivial⟩, rfl⟩
  · cases h
end Go.Proofs.Ytghkcmgiagodlaa
namespace Go.Proofs.Ytghkcmgiagodlaa
open Go.RowKit
set_option linter.all false
def mark1 (m : Int) : List PD := [.sc (.int .u8 m)]
def roomyX (xs : List (List PD)) (m : Int) : List (List PD) := xs ++ List.replicate 80 (mark1 m)
/-- The cells, when so many places of the room are marked. -/
def roomC (xs : List (List PD)) (m : Int) (k : Nat) : List DV := rowsD xs ++ rowsD (List.replicate k (mark1 m)) ++ rowsD (List.replicate (80 - k) (mark1 0))
theorem told_stM {k : Nat} {s s' : SL} {st st' : Store} (h : st = st') (hs : toldP id s s') : Told k s st s' st' := by subst h; exact told_less hs
theorem rowsD_rep (n : Nat) (p : PD) : rowsD (List.replicate n [p]) = List.replicate n (.d p) := by
  induction n with
  | zero => rfl
  | succ n ih => rw [List.replicate_succ, List.replicate_succ, ← ih]; rfl
theorem room0 {xs : List (List PD)} {m : Int} (h : (rowsD xs).length = xs.length) : splice (List.replicate ((xs.length : Int) + 80).toNat [DV.d (.sc (.int .u8 0))]).flatten 0 (rowsD xs) = roomC xs m 0 := by
  have e : (List.replicate ((xs.length : Int) + 80).toNat [DV.d (.sc (.int .u8 0))]).flatten = List.replicate (xs.length + 80) (DV.d (.sc (.int .u8 0))) := by
    rw [show ((xs.length : Int) + 80).toNat = xs.length + 80 by omega]
    simp
  rw [e]
  simp only [splice, roomC, mark1, rowsD_rep, h]
  simp
theorem splice_oneM (P Q : List DV) (z d : DV) (o : Nat) (h : o = P.length) : splice (P ++ z :: Q) o [d] = P ++ d :: Q := by
  subst h
  simp [splice]
theorem roomS {xs : List (List PD)} {m : Int} {k : Nat} (h : (rowsD xs).length = xs.length) (hk : k < 80) : splice (roomC xs m k) (0 + (xs.length + k) * 1) [DV.d (.sc (.int .u8 m))] = roomC xs m (k + 1) := by
  simp only [roomC, mark1, rowsD_rep]
  have e : 80 - k = (80 - (k + 1)) + 1 := by omega
  rw [e, List.replicate_succ, splice_oneM _ _ _ _ _ (by simp [h]), List.replicate_succ']
  simp
theorem roomC_len {xs : List (List PD)} {m : Int} {k : Nat} (h : (rowsD xs).length = xs.length) (hk : k ≤ 80) : (roomC xs m k).length = xs.length + 80 := by
  simp only [roomC, mark1, rowsD_rep, List.length_append, List.length_replicate, h]
  omega
theorem roomE {xs : List (List PD)} {m : Int} : roomC xs m 80 = rowsD (roomyX xs m) := by
  simp [roomC, roomyX, rowsD_append, rowsD]
def isM (m : Int) : Prop := ∃ b : UInt8, m = (b.toNat : Int)
set_option maxRecDepth 100000 in
theorem v_roomy (xs : List (List PD)) (m : Int) (hp0 : isB xs) (hp1 : isM m) : FnV Try.prog 18 [.d (.slc 1 xs), .d (.sc (.int .u8 m))] (.d (.slc 1 (roomyX xs m))) := by
  obtain ⟨bs, hxs, hb⟩ := hp0
  have hl : xs.length = bs.length := by rw [hxs]; exact bytesP_length bs
  have hH : SoundK Try.prog [] := by exact noK_ok
  have hB : SoundB Try.prog [] := by exact noB_ok
  refine FnD_cbv (T := fun _ => tabY [25] []) (H := fun _ => []) (tabY_ok _ _) hH follows_mixed Try.func18 rfl Try.ntmps18 (by simp) fun A X W hA hX hW => ?_
  cbv
  obtain ⟨N, hN⟩ : ∃ N, N = xs.length + 80 := ⟨_, rfl⟩
  have e1 : IntKind.wrap .i64 ((xs.length : Int) + 80) = xs.length + 80 := wrap_i64 (by unfold r64; omega)
  have hsz : (rowsD xs).length = xs.length := by rw [hxs, rowsB_length, bytesP_length]
  refine And.intro ?_ (And.intro ?_ (And.intro ?_ (And.intro ?_ ?_)))
  · subst hA; simp only [A0]; rw [e1]; omega
  · subst hA; simp only [A0]
  · subst hA; simp only [A0]; rw [e1]; omega
  · subst hA; simp only [A0]; rw [e1]; simp [hsz]; omega
  refine loopL (T := fun _ => tabY [25] []) (H := fun _ => []) (tabY_ok _ _) hH follows_mixed hA hX (fun x : List DV × Int => ∃ k : Nat, x.1 = roomC xs m k ∧ x.2 = xs.length + k ∧ k ≤ 80)
    (fun x => [(0, .d (.slc 1 xs)), (1, .d (.sc (.int .u8 m))), (5, .view 1 0 0 0 N), (6, .d (.sc (.int .i64 x.2)))]) (fun x => [⟨5, x.1, false, 0, true⟩])
    (fun x => 80 + xs.length - x.2.toNat) (roomC xs m 0, (xs.length : Int)) ?_ ?_ ?_
  · exact ⟨0, rfl, by simp, by omega⟩
  · subst hA
    refine told_stM ?_ ?_
    · simp only [A0]
      rw [e1, room0 (m := m) hsz]
      simp
    · simp only [A0]
      rw [e1]
      simp [toldP, getS, hN]
      omega
  rintro R ⟨cells, i⟩ hR hinv
  cbv
  repeat' first
    | (refine part (fun h => ?_) (fun h => ?_) <;> try cbv)
    | (refine And.intro ?_ ?_)
  all_goals subst hR hA hX hW
  all_goals clear hH hB
  all_goals replace hinv : ∃ k : Nat, cells = roomC xs m k ∧ i = xs.length + k ∧ k ≤ 80 := hinv
  all_goals obtain ⟨k, hc, hi, hk⟩ := hinv
  all_goals simp only [A0, decide_eq_true_eq, decide_eq_false_iff_not] at *
  all_goals have hcl := roomC_len (m := m) hsz hk
  all_goals first
    | omega
    | (rw [hc, hcl]; omega)
    | (have hk8 : k < 80 := by omega
       have ei : IntKind.wrap .i64 (i + 1) = i + 1 := wrap_i64 (by unfold r64; omega)
       have ej : i.toNat = xs.length + k := by omega
       refine ⟨(roomC xs m (k + 1), i + 1), ⟨k + 1, rfl, (by show i + 1 = (xs.length : Int) + ((k + 1 : Nat) : Int); omega), by omega⟩, (by show 80 + xs.length - (i + 1).toNat < 80 + xs.length - i.toNat; omega), told_stM (s := _) ?_ ?_⟩
       · rw [hc, ej, roomS hsz hk8]
       · simp [toldP, getS, ei])
    | (have hk8 : k = 80 := by omega
       subst hk8
       refine ret_slice rfl rfl rfl ?_ (by rw [hc]; exact roomE) ?_ rfl
       · simp [roomyX, hN]
       · intro x hx
         simp only [roomyX, List.mem_append, List.mem_replicate] at hx
         rcases hx with hx | ⟨_, rfl⟩
         · rw [hxs] at hx; exact bytesP_sz bs x hx
         · rfl)
def roomP (full xs : List (List PD)) (m : Int) : Prop := full = roomyX xs m
theorem roomy_row {xs : List (List PD)} {m i : Int} (h0 : (xs.length : Int) ≤ i) (h1 : i < xs.length + 80) : (roomyX xs m).getD i.toNat [] = mark1 m := by
  rw [roomyX, List.getD_eq_getElem?_getD, List.getElem?_append_right (by omega), List.getElem?_replicate, if_pos (by omega)]
  rfl
theorem roomy_len (xs : List (List PD)) (m : Int) : (roomyX xs m).length = xs.length + 80 := by simp [roomyX]
theorem roomy_take (xs : List (List PD)) (m : Int) : ((roomyX xs m).drop 0).take xs.length = xs := by simp [roomyX]
theorem isB_lenM {xs : List (List PD)} (h : isB xs) : xs.length ≤ 8000000 := by
  obtain ⟨bs, rfl, hb⟩ := h
  rw [bytesP_length]; exact hb
set_option maxRecDepth 100000 in
theorem v_intact (full xs : List (List PD)) (m : Int) (hp0 : isB xs) (hp1 : full = roomyX xs m) (hp2 : isM m) : FnV Try.prog 20 [.d (.slc 1 full), .d (.slc 1 xs), .d (.sc (.int .u8 m))] (boolD true) := by
  have hb := isB_lenM hp0
  have hl : full.length = xs.length + 80 := by rw [hp1, roomy_len]
  obtain ⟨GFsPq, hFsPq⟩ : ∃ F, F = FsPq0 := ⟨_, rfl⟩
  have hH : SoundK Try.prog [kn_sameB GFsPq] := by subst hFsPq; exact orK_ok ok_sameB noK_ok
  have hB : SoundB Try.prog [] := by subst hFsPq; exact noB_ok
  refine FnD_cbv (T := fun _ => tabY [33] []) (H := fun _ => [kn_sameB GFsPq]) (tabY_ok _ _) hH follows_mixed Try.func20 rfl Try.ntmps20 (by simp) fun A X W hA hX hW => ?_
  cbv
  have e1 : IntKind.wrap .i64 ((xs.length : Int) + 80) = xs.length + 80 := wrap_i64 (by unfold r64; omega)
  have ht : (full.drop 0).take xs.length = xs := by rw [hp1]; exact roomy_take xs m
  have hs : sameB xs xs = true := by simp [sameB]
  repeat' first
    | (refine And.intro ?_ ?_)
  rotate_right 1
  refine part (fun h => ?_) (fun h => ?_)
  · exfalso
    subst hA hFsPq
    simp only [A0, FsPq0] at h
    simp [hl, e1, hs, hp1, roomyX] at h
    try omega
  cbv
  refine loopL (T := fun _ => tabY [33] []) (H := fun _ => [kn_sameB GFsPq]) (tabY_ok _ _) hH follows_mixed hA hX (fun i : Int => (xs.length : Int) ≤ i ∧ i ≤ xs.length + 80)
    (fun i => [(0, .d (.slc 1 full)), (1, .d (.slc 1 xs)), (2, .d (.sc (.int .u8 m))), (7, .d (.sc (.int .i64 i)))]) (fun _ => [])
    (fun i => 80 + xs.length - i.toNat) (xs.length : Int) ?_ ?_ ?_
  · exact ⟨by omega, by omega⟩
  · subst hA
    exact told_less (by simp [toldP, getS, A0])
  rintro R i hR ⟨i0, i1⟩
  cbv
  repeat' first
    | (refine part (fun h => ?_) (fun h => ?_) <;> try cbv)
    | (refine And.intro ?_ ?_)
    | (with_reducible refine callB hX hB ?_) <;> cbv
  all_goals try subst hR
  all_goals subst hA hX hW hFsPq
  all_goals clear hH hB
  all_goals simp only [A0, FsPq0, decide_eq_true_eq, decide_eq_false_iff_not, Bool.not_eq_true', Bool.not_eq_false'] at *
  all_goals try replace i0 : (xs.length : Int) ≤ i := i0
  all_goals try replace i1 : i ≤ (xs.length : Int) + 80 := i1
  all_goals first
    | assumption
    | omega
    | (rw [hp1, roomy_row i0 (by omega)]; simp [mark1]; done)
    | (exfalso; rw [hp1, roomy_row i0 (by omega)] at h; simp [mark1] at h; done)
    | exact ret_v rfl rfl
    | (have ei : IntKind.wrap .i64 (i + 1) = i + 1 := wrap_i64 (by unfold r64; omega)
       refine ⟨i + 1, (by show (xs.length : Int) ≤ i + 1 ∧ i + 1 ≤ (xs.length : Int) + 80; omega), (by show 80 + xs.length - (i + 1).toNat < 80 + xs.length - i.toNat; omega), told_less ?_⟩
       simp [toldP, getS, ei])
    | (intros; first | assumption | trivial | (simp_all; done) | (rw [show ((xs.length : Int)).toNat - Int.toNat 0 = xs.length by omega]; rw [show Int.toNat 0 = 0 from rfl, ht]; assumption) | (refine ⟨?_, ?_, ?_⟩ <;> omega))
structure FsUm where
  roomy : List (List PD) → Int → List (List PD)
  roomP : List (List PD) → List (List PD) → Int → Prop
  isB : List (List PD) → Prop
  isM : Int → Prop
  intact : List (List PD) → List (List PD) → Int → Bool
def FsUm0 : FsUm where
  roomy := roomyX
  roomP := roomP
  isB := isB
  isM := isM
  intact := fun _ _ _ => true
def kn_roomy (F : FsUm) : FuncId × (List DV → RV) := (18, fun args => match args with
  | [.d (.slc 1 xs), .d (.sc (.int .u8 m))] => some ([F.isB xs, F.isM m], .d (.slc 1 (F.roomy xs m)))
  | [.d (.sc (.slice none 0 0)), .d (.sc (.int .u8 m))] => some ([F.isB [], F.isM m], .d (.slc 1 (F.roomy [] m)))
  | _ => none)
theorem ok_roomy (args : List DV) (cs : List Prop) (r : DV) (h : (kn_roomy FsUm0).2 args = some (cs, r)) (hc : allP cs True) : FnV Try.prog 18 args r ∧ closedL 0 args = true := by
  unfold kn_roomy at h
  simp only at h
  split at h
  · cases h; exact ⟨v_roomy _ _ hc.1 hc.2.1, rfl⟩
  · cases h; exact ⟨FnP.nils (v_roomy [] _ hc.1 hc.2.1) ⟨.inr ⟨rfl, _, rfl⟩, ⟨.inl rfl, trivial⟩⟩, rfl⟩
  · cases h
def kn_intact (F : FsUm) : FuncId × (List DV → RV) := (20, fun args => match args with
  | [.d (.slc 1 full), .d (.slc 1 xs), .d (.sc (.int .u8 m))] => some ([F.isB xs, F.roomP full xs m, F.isM m], boolD ((F.intact full xs m)))
  | [.d (.sc (.slice none 0 0)), .d (.slc 1 xs), .d (.sc (.int .u8 m))] => some ([F.isB xs, F.roomP [] xs m, F.isM m], boolD ((F.intact [] xs m)))
  | [.d (.slc 1 full), .d (.sc (.slice none 0 0)), .d (.sc (.int .u8 m))] => some ([F.isB [], F.roomP full [] m, F.isM m], boolD ((F.intact full [] m)))
  | [.d (.sc (.slice none 0 0)), .d (.sc (.slice none 0 0)), .d (.sc (.int .u8 m))] => some ([F.isB [], F.roomP [] [] m, F.isM m], boolD ((F.intact [] [] m)))
  | _ => none)
theorem ok_intact (args : List DV) (cs : List Prop) (r : DV) (h : (kn_intact FsUm0).2 args = some (cs, r)) (hc : allP cs True) : FnV Try.prog 20 args r ∧ closedL 0 args = true := by
  unfold kn_intact at h
  simp only at h
  split at h
  · cases h; exact ⟨v_intact _ _ _ hc.1 hc.2.1 hc.2.2.1, rfl⟩
  · cases h; exact ⟨FnP.nils (v_intact [] _ _ hc.1 hc.2.1 hc.2.2.1) ⟨.inr ⟨rfl, _, rfl⟩, ⟨.inl rfl, ⟨.inl rfl, trivial⟩⟩⟩, rfl⟩
  · cases h; exact ⟨FnP.nils (v_intact _ [] _ hc.1 hc.2.1 hc.2.2.1) ⟨.inl rfl, ⟨.inr ⟨rfl, _, rfl⟩, ⟨.inl rfl, trivial⟩⟩⟩, rfl⟩
  · cases h; exact ⟨FnP.nils (v_intact [] [] _ hc.1 hc.2.1 hc.2.2.1) ⟨.inr ⟨rfl, _, rfl⟩, ⟨.inr ⟨rfl, _, rfl⟩, ⟨.inl rfl, trivial⟩⟩⟩, rfl⟩
  · cases h
end Go.Proofs.Ytghkcmgiagodlaa
namespace Go.Proofs.Ytghkcmgiagodlaa
open Go.RowKit
set_option linter.all false
set_option maxHeartbeats 4000000
theorem v_imgP (d : Deps) (s : List DV) (hs : isSt s) (ho : okI s) : FnV Try.prog 10 [d.D, .agg s] (.d (.slc 1 (imgT d s))) := by
  cases hd : rightDs d
  · rw [show imgT d s = [] by unfold imgT; rw [hd]; rfl]
    obtain ⟨k, ps, os, hk, h1, rfl⟩ := ho
    exact v_iputN d _ hs h1.right hd
  · rw [show imgT d s = iputX d s by unfold imgT; rw [hd]; rfl]
    exact v_iputX d s hs ho hd
theorem v_imgR2 (d : Deps) (s : List DV) (hs : isSt s) (ho : okI s) (hd : rDeps d) : FnV Try.prog 15 [d.D, .agg s] (.d (.slc 1 (imgT d s))) := by
  obtain ⟨k, ps, os, hk, h1, rfl⟩ := ho
  refine v_rimg d _ hs (h1.v hk) (img_small h1 hk) ?_ hd
  rw [bytesSt_B h1.1.isP h1.own h1.2.1 h1.right, bytesP_length]
  have h0 : 0 < (numB (ps.length : Int)).length := numF_pos 9 _
  unfold stB prB
  simp only [List.length_append]
  omega
theorem iget_st2 {ys : List (List PD)} (h : isB8 ys) : isSt (igetX ys).2.1 := by
  have hz : isSt zeroSt := zst_ok.is
  unfold igetX
  split
  · exact hz
  · split
    · unfold igetB
      simp only
      split
      · split
        · split
          · have hB : isB8 ((ys.take (ys.length - 4)).drop (dpsR (ys.take (ys.length - 4))).2.1.toNat) := by
              obtain ⟨bs, rfl, hb⟩ := h
              rw [bytesP_take, bytesP_drop]
              exact ⟨_, rfl, by rw [List.length_drop, List.length_take]; omega⟩
            obtain ⟨zs, hz1, hz2⟩ := hB
            have := (getSt_is hz2).1
            rw [← hz1] at this
            exact this
          · exact hz
        · exact hz
      · exact hz
    · exact hz
theorem imgT_isB {a : Deps} {s : List DV} (hs : okI s) : isB (imgT a s) := by
  unfold imgT
  cases rightDs a
  · exact ⟨[], rfl, by decide⟩
  · exact iput_isB hs
structure FsI5 where
  imgP : Deps → List DV → List (List PD)
  imgR2 : Deps → List DV → List (List PD)
  okI : List DV → Prop
  rDeps : Deps → Prop
noncomputable def FsI50 : FsI5 where
  imgP := imgT
  imgR2 := imgT
  okI := okI
  rDeps := rDeps
def kn_imgP (F : FsI5) : FuncId × (List DV → RV) := (10, fun args => match args with
  | [.agg [.d (.sc (.int .i64 d_d0)), .d (.sc (.int .i64 d_d1)), .d (.sc (.int .i64 d_d2)), .d (.sc (.int .i64 d_d3)), .d (.sc (.int .i64 d_d4)), .d (.sc (.int .i64 d_d5)), .d (.sc (.int .i64 d_d6))], .agg s] => some ([isSt s, F.okI s], .d (.slc 1 (F.imgP ⟨d_d0, d_d1, d_d2, d_d3, d_d4, d_d5, d_d6⟩ s)))
  | _ => none)
theorem ok_imgP (args : List DV) (cs : List Prop) (r : DV) (h : (kn_imgP FsI50).2 args = some (cs, r)) (hc : allP cs True) : FnV Try.prog 10 args r ∧ closedL 0 args = true := by
  unfold kn_imgP at h
  simp only at h
  split at h
  · cases h; exact ⟨v_imgP ⟨_, _, _, _, _, _, _⟩ _ hc.1 hc.2.1, clo0 rfl (clo1 (isSt.closed hc.1) rfl)⟩
  · cases h
def kn_imgR2 (F : FsI5) : FuncId × (List DV → RV) := (15, fun args => match args with
  | [.agg [.d (.sc (.int .i64 d_d0)), .d (.sc (.int .i64 d_d1)), .d (.sc (.int .i64 d_d2)), .d (.sc (.int .i64 d_d3)), .d (.sc (.int .i64 d_d4)), .d (.sc (.int .i64 d_d5)), .d (.sc (.int .i64 d_d6))], .agg s] => some ([isSt s, F.okI s, F.rDeps ⟨d_d0, d_d1, d_d2, d_d3, d_d4, d_d5, d_d6⟩], .d (.slc 1 (F.imgR2 ⟨d_d0, d_d1, d_d2, d_d3, d_d4, d_d5, d_d6⟩ s)))
  | _ => none)
theorem ok_imgR2 (args : List DV) (cs : List Prop) (r : DV) (h : (kn_imgR2 FsI50).2 args = some (cs, r)) (hc : allP cs True) : FnV Try.prog 15 args r ∧ closedL 0 args = true := by
  unfold kn_imgR2 at h
  simp only at h
  split at h
  · cases h; exact ⟨v_imgR2 ⟨_, _, _, _, _, _, _⟩ _ hc.1 hc.2.1 hc.2.2.1, clo0 rfl (clo1 (isSt.closed hc.1) rfl)⟩
  · cases h
set_option maxRecDepth 1000000 in
theorem v_itells (d0 d1 d2 d3 d4 d5 d6 : Int) (xs ys : List (List PD)) (sm : Bool) (hd : r64 d0 ∧ r64 d1 ∧ r64 d2 ∧ r64 d3 ∧ r64 d4 ∧ r64 d5 ∧ r64 d6) (hp0 : isC xs) (hp1 : isB8 ys) : FnV Try.prog 4 [.agg [.d (.sc (.int .i64 d0)), .d (.sc (.int .i64 d1)), .d (.sc (.int .i64 d2)), .d (.sc (.int .i64 d3)), .d (.sc (.int .i64 d4)), .d (.sc (.int .i64 d5)), .d (.sc (.int .i64 d6))], .d (.slc 7 xs), .d (.slc 1 ys), .d (.sc (.bool sm))] (boolD true) := by
  obtain ⟨s, hs⟩ : ∃ s, s = behX xs := ⟨_, rfl⟩
  have hsI : okI s := by rw [hs]; exact beh_okI hp0
  have hsS := hsI.is
  have hsl := hsS.len
  have hsc := hsS.closed
  obtain ⟨x, hx⟩ : ∃ x, x = imgT ⟨d0, d1, d2, d3, d4, d5, d6⟩ s := ⟨_, rfl⟩
  have hxB : isB x := by rw [hx]; exact imgT_isB hsI
  obtain ⟨bs, hbs, hbl⟩ := id hp1
  have hyl : ys.length = bs.length := by rw [hbs]; exact bytesP_length bs
  obtain ⟨GFsBe, hFsBe⟩ : ∃ F, F = FsBe0 := ⟨_, rfl⟩
  obtain ⟨GFsI5, hFsI5⟩ : ∃ F, F = FsI50 := ⟨_, rfl⟩
  obtain ⟨GFsPq, hFsPq⟩ : ∃ F, F = FsPq0 := ⟨_, rfl⟩
  obtain ⟨GFsCr, hFsCr⟩ : ∃ F, F = FsCr0 := ⟨_, rfl⟩
  obtain ⟨GFsWe, hFsWe⟩ : ∃ F, F = FsWe0 := ⟨_, rfl⟩
  obtain ⟨GFsUm, hFsUm⟩ : ∃ F, F = FsUm0 := ⟨_, rfl⟩
  obtain ⟨GFsIk, hFsIk⟩ : ∃ F, F = FsIk0 := ⟨_, rfl⟩
  obtain ⟨GFsUk, hFsUk⟩ : ∃ F, F = FsUk0 := ⟨_, rfl⟩
  obtain ⟨GFsSE, hFsSE⟩ : ∃ F, F = FsSE0 := ⟨_, rfl⟩
  obtain ⟨GFsI4, hFsI4⟩ : ∃ F, F = FsI40 := ⟨_, rfl⟩
  have hH : SoundK Try.prog [kn_behX GFsBe, kn_imgP GFsI5, kn_imgR2 GFsI5, kn_sameB GFsPq, kn_onR GFsCr, kn_rputX GFsWe, kn_roomy GFsUm, kn_igetK GFsIk, kn_unimK GFsUk, kn_statesR GFsSE, kn_intact GFsUm, kn_iruns3 GFsI4] := by subst hFsBe hFsI5 hFsPq hFsCr hFsWe hFsUm hFsIk hFsUk hFsSE hFsI4; exact orK_ok ok_behX (orK_ok ok_imgP (orK_ok ok_imgR2 (orK_ok ok_sameB (orK_ok ok_onR (orK_ok ok_rputX (orK_ok ok_roomy (orK_ok ok_igetK (orK_ok ok_unimK (orK_ok ok_statesR (orK_ok ok_intact (orK_ok ok_iruns3 noK_ok)))))))))))
  have hB : SoundB Try.prog [] := by subst hFsBe hFsI5 hFsPq hFsCr hFsWe hFsUm hFsIk hFsUk hFsSE hFsI4; exact noB_ok
  refine FnD_cbv (T := fun _ => tabY [1009, 1024, 1026, 1029, 1051, 1057, 1013, 1016, 1063, 1064, 5003, 5004] [6, 9, 10, 11, 12]) (H := fun _ => [kn_behX GFsBe, kn_imgP GFsI5, kn_imgR2 GFsI5, kn_sameB GFsPq, kn_onR GFsCr, kn_rputX GFsWe, kn_roomy GFsUm, kn_igetK GFsIk, kn_unimK GFsUk, kn_statesR GFsSE, kn_intact GFsUm, kn_iruns3 GFsI4]) (tabY_ok _ _) hH follows_mixed Try.func4 rfl Try.ntmps4 (by simp) fun A X W hA hX hW => ?_
  cbv
  have y1 : GFsBe.behX xs = s := by subst hFsBe; exact hs.symm
  have y2 : GFsI5.imgP ⟨d0, d1, d2, d3, d4, d5, d6⟩ s = x := by subst hFsI5; exact hx.symm
  have y3 : GFsI5.imgR2 ⟨d0, d1, d2, d3, d4, d5, d6⟩ s = x := by subst hFsI5; exact hx.symm
  have y4 : GFsPq.sameB x x = true := by subst hFsPq; exact sameB_refl x
  have y5 : A.not true = false := by subst hA; rfl
  have y7 : A.cond true true false = true := by subst hA; rfl
  have y8 : A.and true true = true := by subst hA; rfl
  cbv at y1
  cbv at y2
  cbv at y3
  cbv at y4
  cbv at y5
  cbv at y7
  cbv at y8
  have key : ∀ (ls : List (List PD)) (R : Prop), True := fun _ _ => trivial
  by_cases h300 : 300 < ys.length
  · obtain ⟨ls, hls⟩ : ∃ ls, ls = ys.take 300 := ⟨_, rfl⟩
    have g1 : A.cmp .gtr (A.len ys) 300 = true := by subst hA; exact decide_eq_true (by show (300 : Int) < (ys.length : Int); omega)
    have g2 : A.sub ys 0 300 = ls := by subst hA; rw [hls]; rfl
    cbv at g1
    cbv at g2
    cases sm
    · obtain ⟨lb, hlb, hll⟩ : ∃ lb, ls = bytesP lb ∧ lb.length ≤ 300 := ⟨bs.take 300, by rw [hls, hbs, bytesP_take], by rw [List.length_take]; omega⟩
      have hlB : isB ls := ⟨lb, hlb, by omega⟩
      have hlsl : ls.length = lb.length := by rw [hlb]; exact bytesP_length lb
      have hlsz := bytesP_sz lb
      rw [← hlb] at hlsz
      obtain ⟨su, hsu0⟩ : ∃ su, su = onX 0 ls := ⟨_, rfl⟩
      have hsu1 := onX_range 0 (by decide) ls
      rw [← hsu0] at hsu1
      have hsu : u64 su := ⟨hsu1.1, Int.lt_trans hsu1.2 (by decide)⟩
      obtain ⟨ow, how⟩ : ∃ ow, ow = ls := ⟨_, rfl⟩
      obtain ⟨ob, hob, hobl⟩ : ∃ ob, ow = bytesP ob ∧ ob.length ≤ 304 := ⟨lb, by rw [how, hlb], by omega⟩
      have hoB : isB ow := ⟨ob, hob, by omega⟩
      have hoB8 : isB8 ow := ⟨ob, hob, by omega⟩
      have hol : ow.length = ob.length := by rw [hob]; exact bytesP_length ob
      have hosz := bytesP_sz ob
      rw [← hob] at hosz
      obtain ⟨fu, hfu⟩ : ∃ fu, fu = roomyX ow 2 := ⟨_, rfl⟩
      have hfl : fu.length = ow.length + 80 := by rw [hfu]; exact roomy_len ow 2
      have hbz : (0 : Int) ≤ 0 ∧ (0 : Int) ≤ 300 ∧ (300 : Int) ≤ (ys.length : Int) := ⟨by omega, by omega, by omega⟩
      have hM2 : isM 2 := ⟨2, rfl⟩
      obtain ⟨⟨⟨m0, m1, m2, m3, m4, m5, m6⟩, sg, eg⟩, hig⟩ : ∃ q, q = igetX ow := ⟨_, rfl⟩
      have hsgS : isSt sg := by
        have := iget_st2 hoB8
        rw [← hig] at this
        exact this
      have hsgl := hsgS.len
      have hsgc := hsgS.closed
      have e1 : GFsCr.onR 0 ls = su := by subst hFsCr; exact hsu0.symm
      have e2 : A.wrap .u64 su = su := by subst hA; exact wrap_u64 hsu
      have e3 : GFsWe.rputX ls 4 su = rputX ls 4 su := by subst hFsWe; rfl
      have e4 : GFsUm.roomy ow 2 = fu := by subst hFsUm; exact hfu.symm
      have e5 : A.sub fu 0 (A.len ow) = ow := by subst hA; show (fu.drop 0).take ((ow.length : Int).toNat - 0) = ow; rw [hfu, show (ow.length : Int).toNat - 0 = ow.length by omega]; exact roomy_take ow 2
      have e6 : GFsIk.igetK ow = (⟨m0, m1, m2, m3, m4, m5, m6⟩, sg, eg) := by subst hFsIk; exact hig.symm
      have e7 : GFsUk.unimK ow = (⟨m0, m1, m2, m3, m4, m5, m6⟩, sg, eg) := by subst hFsUk; exact hig.symm
      have e8 : GFsSE.statesR sg sg = true := by subst hFsSE; exact sameSt_refl sg
      have hbn : (0 : Int) ≤ 0 ∧ 0 ≤ (ow.length : Int) ∧ (ow.length : Int) ≤ (fu.length : Int) := ⟨by omega, by omega, by omega⟩
      have e10 : GFsUm.intact fu ow 2 = true := by subst hFsUm; rfl
      have e11 : GFsI4.iruns3 = true := by subst hFsI4; rfl
      have e9 : A.cmp .eql eg eg = true := by subst hA; exact decide_eq_true rfl
      have q0 : A.cmp .eql m0 m0 = true := by subst hA; exact decide_eq_true rfl
      cbv at q0
      have q1 : A.cmp .eql m1 m1 = true := by subst hA; exact decide_eq_true rfl
      cbv at q1
      have q2 : A.cmp .eql m2 m2 = true := by subst hA; exact decide_eq_true rfl
      cbv at q2
      have q3 : A.cmp .eql m3 m3 = true := by subst hA; exact decide_eq_true rfl
      cbv at q3
      have q4 : A.cmp .eql m4 m4 = true := by subst hA; exact decide_eq_true rfl
      cbv at q4
      have q5 : A.cmp .eql m5 m5 = true := by subst hA; exact decide_eq_true rfl
      cbv at q5
      have q6 : A.cmp .eql m6 m6 = true := by subst hA; exact decide_eq_true rfl
      cbv at q6
      have how2 : ls = ow := how.symm
      subst how2
      cbv at e1
      cbv at e2
      cbv at e4
      cbv at e5
      cbv at e6
      cbv at e7
      cbv at e8
      cbv at e9
      cbv at e10
      cbv at e11
      repeat' first
        | (simp only [y1, y2, y3, y4, y5, y7, y8, e1, e2, e4, e5, e6, e7, e8, e9, e10, e11, q0, q1, q2, q3, q4, q5, q6, g1, g2, decide_true]; cbv)
        | (refine And.intro ?_ ?_)
        | (refine part (fun h => ?_) (fun h => ?_) <;> try cbv)
      rotate_right 1
      · refine afterL (T := fun _ => tabY [1009, 1024, 1026, 1029, 1051, 1057, 1013, 1016, 1063, 1064, 5003, 5004] []) (H := fun _ => [kn_behX GFsBe, kn_imgP GFsI5, kn_imgR2 GFsI5, kn_sameB GFsPq, kn_onR GFsCr, kn_rputX GFsWe, kn_roomy GFsUm, kn_igetK GFsIk, kn_unimK GFsUk, kn_statesR GFsSE, kn_intact GFsUm, kn_iruns3 GFsI4]) (tabY_ok _ _) hH follows_mixed hA hX ?_
        cbv
        repeat' (refine And.intro ?_ ?_)
        rotate_right 1
        · refine ⟨[(2, .d (.slc 1 ls)), (3, .d (.sc (.bool false))), (10, .d (.slc 1 ls))], [⟨25, [.d (.sc (.int .i64 d0)), .d (.sc (.int .i64 d1)), .d (.sc (.int .i64 d2)), .d (.sc (.int .i64 d3)), .d (.sc (.int .i64 d4)), .d (.sc (.int .i64 d5)), .d (.sc (.int .i64 d6))], false, 0, true⟩, ⟨34, s, false, 0, true⟩], ?_, ?_⟩
          · subst hA
            simp only [A0]
            refine Told.trans (told_freeze (s' := [(2, .d (.slc 1 ls)), (3, .d (.sc (.bool false))), (10, .d (.slc 1 ls))]) 2 1 ls _ rfl rfl (Nat.le_refl 2) (by simp) hlsz rfl ?_) (told_keep [0, 1] rfl ?_ ?_)
            · simp [toldP, getS, fzD]
            · simp [keepSt, pullBox, pullL, pullD, fzSt, fzBox, fzL, fzD, pullL_closed _ _ hsc, fzL_closed _ _ _ _ _ hsc]
            · simp [toldP, getS, pullD]
          cbv
          repeat' first
            | (simp only [y1, y2, y3, y4, y5, y7, y8, e1, e2, e4, e5, e6, e7, e8, e9, e10, e11, q0, q1, q2, q3, q4, q5, q6, decide_true]; cbv)
            | ((with_reducible refine goL (c := .region 9 _ _) (T := fun _ => tabY [1009, 1024, 1026, 1029, 1051, 1057, 1013, 1016, 1063, 1064, 5003, 5004] []) (H := fun _ => [kn_behX GFsBe, kn_imgP GFsI5, kn_imgR2 GFsI5, kn_sameB GFsPq, kn_onR GFsCr, kn_rputX GFsWe, kn_roomy GFsUm, kn_igetK GFsIk, kn_unimK GFsUk, kn_statesR GFsSE, kn_intact GFsUm, kn_iruns3 GFsI4]) (tabY_ok _ _) hH follows_mixed hA hX ?_) <;> cbv)
            | ((with_reducible refine goL (c := .region 10 _ _) (T := fun _ => tabY [1009, 1024, 1026, 1029, 1051, 1057, 1013, 1016, 1063, 1064, 5003, 5004] []) (H := fun _ => [kn_behX GFsBe, kn_imgP GFsI5, kn_imgR2 GFsI5, kn_sameB GFsPq, kn_onR GFsCr, kn_rputX GFsWe, kn_roomy GFsUm, kn_igetK GFsIk, kn_unimK GFsUk, kn_statesR GFsSE, kn_intact GFsUm, kn_iruns3 GFsI4]) (tabY_ok _ _) hH follows_mixed hA hX ?_) <;> cbv)
            | ((with_reducible refine goL (c := .region 11 _ _) (T := fun _ => tabY [1009, 1024, 1026, 1029, 1051, 1057, 1013, 1016, 1063, 1064, 5003, 5004] []) (H := fun _ => [kn_behX GFsBe, kn_imgP GFsI5, kn_imgR2 GFsI5, kn_sameB GFsPq, kn_onR GFsCr, kn_rputX GFsWe, kn_roomy GFsUm, kn_igetK GFsIk, kn_unimK GFsUk, kn_statesR GFsSE, kn_intact GFsUm, kn_iruns3 GFsI4]) (tabY_ok _ _) hH follows_mixed hA hX ?_) <;> cbv)
            | ((with_reducible refine goL (c := .region 12 _ _) (T := fun _ => tabY [1009, 1024, 1026, 1029, 1051, 1057, 1013, 1016, 1063, 1064, 5003, 5004] []) (H := fun _ => [kn_behX GFsBe, kn_imgP GFsI5, kn_imgR2 GFsI5, kn_sameB GFsPq, kn_onR GFsCr, kn_rputX GFsWe, kn_roomy GFsUm, kn_igetK GFsIk, kn_unimK GFsUk, kn_statesR GFsSE, kn_intact GFsUm, kn_iruns3 GFsI4]) (tabY_ok _ _) hH follows_mixed hA hX ?_) <;> cbv)
            | (refine And.intro ?_ ?_)
            | (refine part (fun h => ?_) (fun h => ?_) <;> try cbv)
          all_goals first
            | (subst hA; exact rfl)
            | (subst hA; show Region.lexB _ _ = true; kernel_rfl)
            | (subst hA; show turnsB _ = true; kernel_rfl)
            | (subst hFsBe; exact hp0)
            | (subst hFsI5; exact hsI)
            | (subst hFsI5; exact hd)
            | exact hsS
            | (subst hFsPq; exact hxB)
            | (subst hFsUm; exact hoB)
            | (subst hFsUm; exact hM2)
            | (subst hFsUm; exact hlB)
            | (subst hFsWe; exact hlB)
            | (subst hFsCr; exact hlB)
            | (subst hFsCr; exact ⟨by decide, by decide⟩)
            | (subst hFsWe; exact hsu)
            | (subst hA; exact hbn)
            | (subst hA; exact hbz)
            | (subst hFsIk; exact hoB8)
            | (subst hFsUk; exact hoB8)
            | (subst hA; show List.length _ = 49 * 1; exact hsgl)
            | (subst hA; show List.length _ = 49 * 1; exact hsl)
            | (subst hA; exact id)
            | (subst hA; intro q; exact q)
            | (subst hA; intro _; exact trivial)
            | (subst hA; intro _; exact rfl)
            | (subst hA; intro _; show List.length _ = 49 * 1; exact hsgl)
            | (subst hA hFsSE; intro _; exact hsgS)
            | (subst hA hFsUm; intro _; exact hoB)
            | (subst hA hFsUm; intro _; exact hfu)
            | (subst hA hFsUm; intro _; exact hM2)
            | (subst hA; simp only [A0]; omega)
            | (subst hA hW; exact ret_v rfl rfl)
            | fail
        all_goals first
          | (subst hA; exact rfl)
          | (subst hA; simp only [A0]; omega)
          | fail
      all_goals first
        | (subst hA; exact rfl)
        | (subst hA; show Region.lexB _ _ = true; kernel_rfl)
        | (subst hA; show turnsB _ = true; kernel_rfl)
        | (subst hFsBe; exact hp0)
        | (subst hFsI5; exact hsI)
        | (subst hFsI5; exact hd)
        | exact hsS
        | (subst hFsPq; exact hxB)
        | (subst hFsUm; exact hoB)
        | (subst hFsUm; exact hM2)
        | (subst hFsUm; exact hlB)
        | (subst hFsWe; exact hlB)
        | (subst hFsCr; exact hlB)
        | (subst hFsCr; exact ⟨by decide, by decide⟩)
        | (subst hFsWe; exact hsu)
        | (subst hA; exact hbn)
        | (subst hA; exact hbz)
        | (subst hFsIk; exact hoB8)
        | (subst hFsUk; exact hoB8)
        | (subst hA; show List.length _ = 49 * 1; exact hsgl)
        | (subst hA; show List.length _ = 49 * 1; exact hsl)
        | (subst hA; exact id)
        | (subst hA; intro q; exact q)
        | (subst hA; intro _; exact trivial)
        | (subst hA; intro _; exact rfl)
        | (subst hA; intro _; show List.length _ = 49 * 1; exact hsgl)
        | (subst hA hFsSE; intro _; exact hsgS)
        | (subst hA hFsUm; intro _; exact hoB)
        | (subst hA hFsUm; intro _; exact hfu)
        | (subst hA hFsUm; intro _; exact hM2)
        | (subst hA; simp only [A0]; omega)
        | (subst hA hW; exact ret_v rfl rfl)
        | fail
    · obtain ⟨lb, hlb, hll⟩ : ∃ lb, ls = bytesP lb ∧ lb.length ≤ 300 := ⟨bs.take 300, by rw [hls, hbs, bytesP_take], by rw [List.length_take]; omega⟩
      have hlB : isB ls := ⟨lb, hlb, by omega⟩
      have hlsl : ls.length = lb.length := by rw [hlb]; exact bytesP_length lb
      have hlsz := bytesP_sz lb
      rw [← hlb] at hlsz
      obtain ⟨su, hsu0⟩ : ∃ su, su = onX 0 ls := ⟨_, rfl⟩
      have hsu1 := onX_range 0 (by decide) ls
      rw [← hsu0] at hsu1
      have hsu : u64 su := ⟨hsu1.1, Int.lt_trans hsu1.2 (by decide)⟩
      obtain ⟨ow, how⟩ : ∃ ow, ow = rputX ls 4 su := ⟨_, rfl⟩
      obtain ⟨ob, hob, hobl⟩ : ∃ ob, ow = bytesP ob ∧ ob.length ≤ 304 := ⟨lb ++ le4 su, by rw [how]; unfold rputX; rw [hlb, bytesP_append], by rw [List.length_append, le4_len]; omega⟩
      have hoB : isB ow := ⟨ob, hob, by omega⟩
      have hoB8 : isB8 ow := ⟨ob, hob, by omega⟩
      have hol : ow.length = ob.length := by rw [hob]; exact bytesP_length ob
      have hosz := bytesP_sz ob
      rw [← hob] at hosz
      obtain ⟨fu, hfu⟩ : ∃ fu, fu = roomyX ow 2 := ⟨_, rfl⟩
      have hfl : fu.length = ow.length + 80 := by rw [hfu]; exact roomy_len ow 2
      have hbz : (0 : Int) ≤ 0 ∧ (0 : Int) ≤ 300 ∧ (300 : Int) ≤ (ys.length : Int) := ⟨by omega, by omega, by omega⟩
      have hM2 : isM 2 := ⟨2, rfl⟩
      obtain ⟨⟨⟨m0, m1, m2, m3, m4, m5, m6⟩, sg, eg⟩, hig⟩ : ∃ q, q = igetX ow := ⟨_, rfl⟩
      have hsgS : isSt sg := by
        have := iget_st2 hoB8
        rw [← hig] at this
        exact this
      have hsgl := hsgS.len
      have hsgc := hsgS.closed
      have e1 : GFsCr.onR 0 ls = su := by subst hFsCr; exact hsu0.symm
      have e2 : A.wrap .u64 su = su := by subst hA; exact wrap_u64 hsu
      have e3 : GFsWe.rputX ls 4 su = rputX ls 4 su := by subst hFsWe; rfl
      have e4 : GFsUm.roomy ow 2 = fu := by subst hFsUm; exact hfu.symm
      have e5 : A.sub fu 0 (A.len ow) = ow := by subst hA; show (fu.drop 0).take ((ow.length : Int).toNat - 0) = ow; rw [hfu, show (ow.length : Int).toNat - 0 = ow.length by omega]; exact roomy_take ow 2
      have e6 : GFsIk.igetK ow = (⟨m0, m1, m2, m3, m4, m5, m6⟩, sg, eg) := by subst hFsIk; exact hig.symm
      have e7 : GFsUk.unimK ow = (⟨m0, m1, m2, m3, m4, m5, m6⟩, sg, eg) := by subst hFsUk; exact hig.symm
      have e8 : GFsSE.statesR sg sg = true := by subst hFsSE; exact sameSt_refl sg
      have hbn : (0 : Int) ≤ 0 ∧ 0 ≤ (ow.length : Int) ∧ (ow.length : Int) ≤ (fu.length : Int) := ⟨by omega, by omega, by omega⟩
      have e10 : GFsUm.intact fu ow 2 = true := by subst hFsUm; rfl
      have e11 : GFsI4.iruns3 = true := by subst hFsI4; rfl
      have e9 : A.cmp .eql eg eg = true := by subst hA; exact decide_eq_true rfl
      have q0 : A.cmp .eql m0 m0 = true := by subst hA; exact decide_eq_true rfl
      cbv at q0
      have q1 : A.cmp .eql m1 m1 = true := by subst hA; exact decide_eq_true rfl
      cbv at q1
      have q2 : A.cmp .eql m2 m2 = true := by subst hA; exact decide_eq_true rfl
      cbv at q2
      have q3 : A.cmp .eql m3 m3 = true := by subst hA; exact decide_eq_true rfl
      cbv at q3
      have q4 : A.cmp .eql m4 m4 = true := by subst hA; exact decide_eq_true rfl
      cbv at q4
      have q5 : A.cmp .eql m5 m5 = true := by subst hA; exact decide_eq_true rfl
      cbv at q5
      have q6 : A.cmp .eql m6 m6 = true := by subst hA; exact decide_eq_true rfl
      cbv at q6
      cbv at e1
      cbv at e2
      rw [← how] at e3
      cbv at e3
      cbv at e4
      cbv at e5
      cbv at e6
      cbv at e7
      cbv at e8
      cbv at e9
      cbv at e10
      cbv at e11
      repeat' first
        | (simp only [y1, y2, y3, y4, y5, y7, y8, e1, e2, e3, e4, e5, e6, e7, e8, e9, e10, e11, q0, q1, q2, q3, q4, q5, q6, g1, g2, decide_true]; cbv)
        | (refine And.intro ?_ ?_)
        | (refine part (fun h => ?_) (fun h => ?_) <;> try cbv)
      rotate_right 1
      · refine afterL (T := fun _ => tabY [1009, 1024, 1026, 1029, 1051, 1057, 1013, 1016, 1063, 1064, 5003, 5004] []) (H := fun _ => [kn_behX GFsBe, kn_imgP GFsI5, kn_imgR2 GFsI5, kn_sameB GFsPq, kn_onR GFsCr, kn_rputX GFsWe, kn_roomy GFsUm, kn_igetK GFsIk, kn_unimK GFsUk, kn_statesR GFsSE, kn_intact GFsUm, kn_iruns3 GFsI4]) (tabY_ok _ _) hH follows_mixed hA hX ?_
        cbv
        repeat' (refine And.intro ?_ ?_)
        rotate_right 1
        · refine ⟨[(2, .d (.slc 1 ls)), (3, .d (.sc (.bool true))), (10, .d (.slc 1 ls))], [⟨25, [.d (.sc (.int .i64 d0)), .d (.sc (.int .i64 d1)), .d (.sc (.int .i64 d2)), .d (.sc (.int .i64 d3)), .d (.sc (.int .i64 d4)), .d (.sc (.int .i64 d5)), .d (.sc (.int .i64 d6))], false, 0, true⟩, ⟨34, s, false, 0, true⟩], ?_, ?_⟩
          · subst hA
            simp only [A0]
            refine Told.trans (told_freeze (s' := [(2, .d (.slc 1 ls)), (3, .d (.sc (.bool true))), (10, .d (.slc 1 ls))]) 2 1 ls _ rfl rfl (Nat.le_refl 2) (by simp) hlsz rfl ?_) (told_keep [0, 1] rfl ?_ ?_)
            · simp [toldP, getS, fzD]
            · simp [keepSt, pullBox, pullL, pullD, fzSt, fzBox, fzL, fzD, pullL_closed _ _ hsc, fzL_closed _ _ _ _ _ hsc]
            · simp [toldP, getS, pullD]
          cbv
          repeat' first
            | (simp only [y1, y2, y3, y4, y5, y7, y8, e1, e2, e3, e4, e5, e6, e7, e8, e9, e10, e11, q0, q1, q2, q3, q4, q5, q6, decide_true]; cbv)
            | ((with_reducible refine goL (c := .region 9 _ _) (T := fun _ => tabY [1009, 1024, 1026, 1029, 1051, 1057, 1013, 1016, 1063, 1064, 5003, 5004] []) (H := fun _ => [kn_behX GFsBe, kn_imgP GFsI5, kn_imgR2 GFsI5, kn_sameB GFsPq, kn_onR GFsCr, kn_rputX GFsWe, kn_roomy GFsUm, kn_igetK GFsIk, kn_unimK GFsUk, kn_statesR GFsSE, kn_intact GFsUm, kn_iruns3 GFsI4]) (tabY_ok _ _) hH follows_mixed hA hX ?_) <;> cbv)
            | ((with_reducible refine goL (c := .region 10 _ _) (T := fun _ => tabY [1009, 1024, 1026, 1029, 1051, 1057, 1013, 1016, 1063, 1064, 5003, 5004] []) (H := fun _ => [kn_behX GFsBe, kn_imgP GFsI5, kn_imgR2 GFsI5, kn_sameB GFsPq, kn_onR GFsCr, kn_rputX GFsWe, kn_roomy GFsUm, kn_igetK GFsIk, kn_unimK GFsUk, kn_statesR GFsSE, kn_intact GFsUm, kn_iruns3 GFsI4]) (tabY_ok _ _) hH follows_mixed hA hX ?_) <;> cbv)
            | ((with_reducible refine goL (c := .region 11 _ _) (T := fun _ => tabY [1009, 1024, 1026, 1029, 1051, 1057, 1013, 1016, 1063, 1064, 5003, 5004] []) (H := fun _ => [kn_behX GFsBe, kn_imgP GFsI5, kn_imgR2 GFsI5, kn_sameB GFsPq, kn_onR GFsCr, kn_rputX GFsWe, kn_roomy GFsUm, kn_igetK GFsIk, kn_unimK GFsUk, kn_statesR GFsSE, kn_intact GFsUm, kn_iruns3 GFsI4]) (tabY_ok _ _) hH follows_mixed hA hX ?_) <;> cbv)
            | ((with_reducible refine goL (c := .region 12 _ _) (T := fun _ => tabY [1009, 1024, 1026, 1029, 1051, 1057, 1013, 1016, 1063, 1064, 5003, 5004] []) (H := fun _ => [kn_behX GFsBe, kn_imgP GFsI5, kn_imgR2 GFsI5, kn_sameB GFsPq, kn_onR GFsCr, kn_rputX GFsWe, kn_roomy GFsUm, kn_igetK GFsIk, kn_unimK GFsUk, kn_statesR GFsSE, kn_intact GFsUm, kn_iruns3 GFsI4]) (tabY_ok _ _) hH follows_mixed hA hX ?_) <;> cbv)
            | (refine And.intro ?_ ?_)
            | (refine part (fun h => ?_) (fun h => ?_) <;> try cbv)
          all_goals first
            | (subst hA; exact rfl)
            | (subst hA; show Region.lexB _ _ = true; kernel_rfl)
            | (subst hA; show turnsB _ = true; kernel_rfl)
            | (subst hFsBe; exact hp0)
            | (subst hFsI5; exact hsI)
            | (subst hFsI5; exact hd)
            | exact hsS
            | (subst hFsPq; exact hxB)
            | (subst hFsUm; exact hoB)
            | (subst hFsUm; exact hM2)
            | (subst hFsUm; exact hlB)
            | (subst hFsWe; exact hlB)
            | (subst hFsCr; exact hlB)
            | (subst hFsCr; exact ⟨by decide, by decide⟩)
            | (subst hFsWe; exact hsu)
            | (subst hA; exact hbn)
            | (subst hA; exact hbz)
            | (subst hFsIk; exact hoB8)
            | (subst hFsUk; exact hoB8)
            | (subst hA; show List.length _ = 49 * 1; exact hsgl)
            | (subst hA; show List.length _ = 49 * 1; exact hsl)
            | (subst hA; exact id)
            | (subst hA; intro q; exact q)
            | (subst hA; intro _; exact trivial)
            | (subst hA; intro _; exact rfl)
            | (subst hA; intro _; show List.length _ = 49 * 1; exact hsgl)
            | (subst hA hFsSE; intro _; exact hsgS)
            | (subst hA hFsUm; intro _; exact hoB)
            | (subst hA hFsUm; intro _; exact hfu)
            | (subst hA hFsUm; intro _; exact hM2)
            | (subst hA; simp only [A0]; omega)
            | (subst hA hW; exact ret_v rfl rfl)
            | fail
        all_goals first
          | (subst hA; exact rfl)
          | (subst hA; simp only [A0]; omega)
          | fail
      all_goals first
        | (subst hA; exact rfl)
        | (subst hA; show Region.lexB _ _ = true; kernel_rfl)
        | (subst hA; show turnsB _ = true; kernel_rfl)
        | (subst hFsBe; exact hp0)
        | (subst hFsI5; exact hsI)
        | (subst hFsI5; exact hd)
        | exact hsS
        | (subst hFsPq; exact hxB)
        | (subst hFsUm; exact hoB)
        | (subst hFsUm; exact hM2)
        | (subst hFsUm; exact hlB)
        | (subst hFsWe; exact hlB)
        | (subst hFsCr; exact hlB)
        | (subst hFsCr; exact ⟨by decide, by decide⟩)
        | (subst hFsWe; exact hsu)
        | (subst hA; exact hbn)
        | (subst hA; exact hbz)
        | (subst hFsIk; exact hoB8)
        | (subst hFsUk; exact hoB8)
        | (subst hA; show List.length _ = 49 * 1; exact hsgl)
        | (subst hA; show List.length _ = 49 * 1; exact hsl)
        | (subst hA; exact id)
        | (subst hA; intro q; exact q)
        | (subst hA; intro _; exact trivial)
        | (subst hA; intro _; exact rfl)
        | (subst hA; intro _; show List.length _ = 49 * 1; exact hsgl)
        | (subst hA hFsSE; intro _; exact hsgS)
        | (subst hA hFsUm; intro _; exact hoB)
        | (subst hA hFsUm; intro _; exact hfu)
        | (subst hA hFsUm; intro _; exact hM2)
        | (subst hA; simp only [A0]; omega)
        | (subst hA hW; exact ret_v rfl rfl)
        | fail
  · obtain ⟨ls, hls⟩ : ∃ ls, ls = ys := ⟨_, rfl⟩
    have g1 : A.cmp .gtr (A.len ys) 300 = false := by subst hA; exact decide_eq_false (by show ¬ (300 : Int) < (ys.length : Int); omega)
    have g2 : A.cmp .gtr 0 0 = false := by subst hA; rfl
    cbv at g1
    cbv at g2
    subst hls
    cases sm
    · obtain ⟨lb, hlb, hll⟩ : ∃ lb, ls = bytesP lb ∧ lb.length ≤ 300 := ⟨bs, by rw [hbs], by omega⟩
      have hlB : isB ls := ⟨lb, hlb, by omega⟩
      have hlsl : ls.length = lb.length := by rw [hlb]; exact bytesP_length lb
      have hlsz := bytesP_sz lb
      rw [← hlb] at hlsz
      obtain ⟨su, hsu0⟩ : ∃ su, su = onX 0 ls := ⟨_, rfl⟩
      have hsu1 := onX_range 0 (by decide) ls
      rw [← hsu0] at hsu1
      have hsu : u64 su := ⟨hsu1.1, Int.lt_trans hsu1.2 (by decide)⟩
      obtain ⟨ow, how⟩ : ∃ ow, ow = ls := ⟨_, rfl⟩
      obtain ⟨ob, hob, hobl⟩ : ∃ ob, ow = bytesP ob ∧ ob.length ≤ 304 := ⟨lb, by rw [how, hlb], by omega⟩
      have hoB : isB ow := ⟨ob, hob, by omega⟩
      have hoB8 : isB8 ow := ⟨ob, hob, by omega⟩
      have hol : ow.length = ob.length := by rw [hob]; exact bytesP_length ob
      have hosz := bytesP_sz ob
      rw [← hob] at hosz
      obtain ⟨fu, hfu⟩ : ∃ fu, fu = roomyX ow 2 := ⟨_, rfl⟩
      have hfl : fu.length = ow.length + 80 := by rw [hfu]; exact roomy_len ow 2
      have hbz : True := trivial
      have hM2 : isM 2 := ⟨2, rfl⟩
      obtain ⟨⟨⟨m0, m1, m2, m3, m4, m5, m6⟩, sg, eg⟩, hig⟩ : ∃ q, q = igetX ow := ⟨_, rfl⟩
      have hsgS : isSt sg := by
        have := iget_st2 hoB8
        rw [← hig] at this
        exact this
      have hsgl := hsgS.len
      have hsgc := hsgS.closed
      have e1 : GFsCr.onR 0 ls = su := by subst hFsCr; exact hsu0.symm
      have e2 : A.wrap .u64 su = su := by subst hA; exact wrap_u64 hsu
      have e3 : GFsWe.rputX ls 4 su = rputX ls 4 su := by subst hFsWe; rfl
      have e4 : GFsUm.roomy ow 2 = fu := by subst hFsUm; exact hfu.symm
      have e5 : A.sub fu 0 (A.len ow) = ow := by subst hA; show (fu.drop 0).take ((ow.length : Int).toNat - 0) = ow; rw [hfu, show (ow.length : Int).toNat - 0 = ow.length by omega]; exact roomy_take ow 2
      have e6 : GFsIk.igetK ow = (⟨m0, m1, m2, m3, m4, m5, m6⟩, sg, eg) := by subst hFsIk; exact hig.symm
      have e7 : GFsUk.unimK ow = (⟨m0, m1, m2, m3, m4, m5, m6⟩, sg, eg) := by subst hFsUk; exact hig.symm
      have e8 : GFsSE.statesR sg sg = true := by subst hFsSE; exact sameSt_refl sg
      have hbn : (0 : Int) ≤ 0 ∧ 0 ≤ (ow.length : Int) ∧ (ow.length : Int) ≤ (fu.length : Int) := ⟨by omega, by omega, by omega⟩
      have e10 : GFsUm.intact fu ow 2 = true := by subst hFsUm; rfl
      have e11 : GFsI4.iruns3 = true := by subst hFsI4; rfl
      have e9 : A.cmp .eql eg eg = true := by subst hA; exact decide_eq_true rfl
      have q0 : A.cmp .eql m0 m0 = true := by subst hA; exact decide_eq_true rfl
      cbv at q0
      have q1 : A.cmp .eql m1 m1 = true := by subst hA; exact decide_eq_true rfl
      cbv at q1
      have q2 : A.cmp .eql m2 m2 = true := by subst hA; exact decide_eq_true rfl
      cbv at q2
      have q3 : A.cmp .eql m3 m3 = true := by subst hA; exact decide_eq_true rfl
      cbv at q3
      have q4 : A.cmp .eql m4 m4 = true := by subst hA; exact decide_eq_true rfl
      cbv at q4
      have q5 : A.cmp .eql m5 m5 = true := by subst hA; exact decide_eq_true rfl
      cbv at q5
      have q6 : A.cmp .eql m6 m6 = true := by subst hA; exact decide_eq_true rfl
      cbv at q6
      have how2 : ls = ow := how.symm
      subst how2
      cbv at e1
      cbv at e2
      cbv at e4
      cbv at e5
      cbv at e6
      cbv at e7
      cbv at e8
      cbv at e9
      cbv at e10
      cbv at e11
      repeat' first
        | (simp only [y1, y2, y3, y4, y5, y7, y8, e1, e2, e4, e5, e6, e7, e8, e9, e10, e11, q0, q1, q2, q3, q4, q5, q6, g1, g2, decide_true]; cbv)
        | (refine And.intro ?_ ?_)
        | (refine part (fun h => ?_) (fun h => ?_) <;> try cbv)
      rotate_right 1
      · refine afterL (T := fun _ => tabY [1009, 1024, 1026, 1029, 1051, 1057, 1013, 1016, 1063, 1064, 5003, 5004] []) (H := fun _ => [kn_behX GFsBe, kn_imgP GFsI5, kn_imgR2 GFsI5, kn_sameB GFsPq, kn_onR GFsCr, kn_rputX GFsWe, kn_roomy GFsUm, kn_igetK GFsIk, kn_unimK GFsUk, kn_statesR GFsSE, kn_intact GFsUm, kn_iruns3 GFsI4]) (tabY_ok _ _) hH follows_mixed hA hX ?_
        cbv
        repeat' (refine And.intro ?_ ?_)
        rotate_right 1
        · refine ⟨[(2, .d (.slc 1 ls)), (3, .d (.sc (.bool false))), (10, .d (.slc 1 ls))], [⟨25, [.d (.sc (.int .i64 d0)), .d (.sc (.int .i64 d1)), .d (.sc (.int .i64 d2)), .d (.sc (.int .i64 d3)), .d (.sc (.int .i64 d4)), .d (.sc (.int .i64 d5)), .d (.sc (.int .i64 d6))], false, 0, true⟩, ⟨34, s, false, 0, true⟩], ?_, ?_⟩
          · subst hA
            simp only [A0]
            refine Told.trans (told_freeze (s' := [(2, .d (.slc 1 ls)), (3, .d (.sc (.bool false))), (10, .d (.slc 1 ls))]) 2 1 ls _ rfl rfl (Nat.le_refl 2) (by simp) hlsz rfl ?_) (told_keep [0, 1] rfl ?_ ?_)
            · simp [toldP, getS, fzD]
            · simp [keepSt, pullBox, pullL, pullD, fzSt, fzBox, fzL, fzD, pullL_closed _ _ hsc, fzL_closed _ _ _ _ _ hsc]
            · simp [toldP, getS, pullD]
          cbv
          repeat' first
            | (simp only [y1, y2, y3, y4, y5, y7, y8, e1, e2, e4, e5, e6, e7, e8, e9, e10, e11, q0, q1, q2, q3, q4, q5, q6, decide_true]; cbv)
            | ((with_reducible refine goL (c := .region 9 _ _) (T := fun _ => tabY [1009, 1024, 1026, 1029, 1051, 1057, 1013, 1016, 1063, 1064, 5003, 5004] []) (H := fun _ => [kn_behX GFsBe, kn_imgP GFsI5, kn_imgR2 GFsI5, kn_sameB GFsPq, kn_onR GFsCr, kn_rputX GFsWe, kn_roomy GFsUm, kn_igetK GFsIk, kn_unimK GFsUk, kn_statesR GFsSE, kn_intact GFsUm, kn_iruns3 GFsI4]) (tabY_ok _ _) hH follows_mixed hA hX ?_) <;> cbv)
            | ((with_reducible refine goL (c := .region 10 _ _) (T := fun _ => tabY [1009, 1024, 1026, 1029, 1051, 1057, 1013, 1016, 1063, 1064, 5003, 5004] []) (H := fun _ => [kn_behX GFsBe, kn_imgP GFsI5, kn_imgR2 GFsI5, kn_sameB GFsPq, kn_onR GFsCr, kn_rputX GFsWe, kn_roomy GFsUm, kn_igetK GFsIk, kn_unimK GFsUk, kn_statesR GFsSE, kn_intact GFsUm, kn_iruns3 GFsI4]) (tabY_ok _ _) hH follows_mixed hA hX ?_) <;> cbv)
            | ((with_reducible refine goL (c := .region 11 _ _) (T := fun _ => tabY [1009, 1024, 1026, 1029, 1051, 1057, 1013, 1016, 1063, 1064, 5003, 5004] []) (H := fun _ => [kn_behX GFsBe, kn_imgP GFsI5, kn_imgR2 GFsI5, kn_sameB GFsPq, kn_onR GFsCr, kn_rputX GFsWe, kn_roomy GFsUm, kn_igetK GFsIk, kn_unimK GFsUk, kn_statesR GFsSE, kn_intact GFsUm, kn_iruns3 GFsI4]) (tabY_ok _ _) hH follows_mixed hA hX ?_) <;> cbv)
            | ((with_reducible refine goL (c := .region 12 _ _) (T := fun _ => tabY [1009, 1024, 1026, 1029, 1051, 1057, 1013, 1016, 1063, 1064, 5003, 5004] []) (H := fun _ => [kn_behX GFsBe, kn_imgP GFsI5, kn_imgR2 GFsI5, kn_sameB GFsPq, kn_onR GFsCr, kn_rputX GFsWe, kn_roomy GFsUm, kn_igetK GFsIk, kn_unimK GFsUk, kn_statesR GFsSE, kn_intact GFsUm, kn_iruns3 GFsI4]) (tabY_ok _ _) hH follows_mixed hA hX ?_) <;> cbv)
            | (refine And.intro ?_ ?_)
            | (refine part (fun h => ?_) (fun h => ?_) <;> try cbv)
          all_goals first
            | (subst hA; exact rfl)
            | (subst hA; show Region.lexB _ _ = true; kernel_rfl)
            | (subst hA; show turnsB _ = true; kernel_rfl)
            | (subst hFsBe; exact hp0)
            | (subst hFsI5; exact hsI)
            | (subst hFsI5; exact hd)
            | exact hsS
            | (subst hFsPq; exact hxB)
            | (subst hFsUm; exact hoB)
            | (subst hFsUm; exact hM2)
            | (subst hFsUm; exact hlB)
            | (subst hFsWe; exact hlB)
            | (subst hFsCr; exact hlB)
            | (subst hFsCr; exact ⟨by decide, by decide⟩)
            | (subst hFsWe; exact hsu)
            | (subst hA; exact hbn)
            | (subst hA; exact hbz)
            | (subst hFsIk; exact hoB8)
            | (subst hFsUk; exact hoB8)
            | (subst hA; show List.length _ = 49 * 1; exact hsgl)
            | (subst hA; show List.length _ = 49 * 1; exact hsl)
            | (subst hA; exact id)
            | (subst hA; intro q; exact q)
            | (subst hA; intro _; exact trivial)
            | (subst hA; intro _; exact rfl)
            | (subst hA; intro _; show List.length _ = 49 * 1; exact hsgl)
            | (subst hA hFsSE; intro _; exact hsgS)
            | (subst hA hFsUm; intro _; exact hoB)
            | (subst hA hFsUm; intro _; exact hfu)
            | (subst hA hFsUm; intro _; exact hM2)
            | (subst hA; simp only [A0]; omega)
            | (subst hA hW; exact ret_v rfl rfl)
            | fail
        all_goals first
          | (subst hA; exact rfl)
          | (subst hA; simp only [A0]; omega)
          | fail
      all_goals first
        | (subst hA; exact rfl)
        | (subst hA; show Region.lexB _ _ = true; kernel_rfl)
        | (subst hA; show turnsB _ = true; kernel_rfl)
        | (subst hFsBe; exact hp0)
        | (subst hFsI5; exact hsI)
        | (subst hFsI5; exact hd)
        | exact hsS
        | (subst hFsPq; exact hxB)
        | (subst hFsUm; exact hoB)
        | (subst hFsUm; exact hM2)
        | (subst hFsUm; exact hlB)
        | (subst hFsWe; exact hlB)
        | (subst hFsCr; exact hlB)
        | (subst hFsCr; exact ⟨by decide, by decide⟩)
        | (subst hFsWe; exact hsu)
        | (subst hA; exact hbn)
        | (subst hA; exact hbz)
        | (subst hFsIk; exact hoB8)
        | (subst hFsUk; exact hoB8)
        | (subst hA; show List.length _ = 49 * 1; exact hsgl)
        | (subst hA; show List.length _ = 49 * 1; exact hsl)
        | (subst hA; exact id)
        | (subst hA; intro q; exact q)
        | (subst hA; intro _; exact trivial)
        | (subst hA; intro _; exact rfl)
        | (subst hA; intro _; show List.length _ = 49 * 1; exact hsgl)
        | (subst hA hFsSE; intro _; exact hsgS)
        | (subst hA hFsUm; intro _; exact hoB)
        | (subst hA hFsUm; intro _; exact hfu)
        | (subst hA hFsUm; intro _; exact hM2)
        | (subst hA; simp only [A0]; omega)
        | (subst hA hW; exact ret_v rfl rfl)
        | fail
    · obtain ⟨lb, hlb, hll⟩ : ∃ lb, ls = bytesP lb ∧ lb.length ≤ 300 := ⟨bs, by rw [hbs], by omega⟩
      have hlB : isB ls := ⟨lb, hlb, by omega⟩
      have hlsl : ls.length = lb.length := by rw [hlb]; exact bytesP_length lb
      have hlsz := bytesP_sz lb
      rw [← hlb] at hlsz
      obtain ⟨su, hsu0⟩ : ∃ su, su = onX 0 ls := ⟨_, rfl⟩
      have hsu1 := onX_range 0 (by decide) ls
      rw [← hsu0] at hsu1
      have hsu : u64 su := ⟨hsu1.1, Int.lt_trans hsu1.2 (by decide)⟩
      obtain ⟨ow, how⟩ : ∃ ow, ow = rputX ls 4 su := ⟨_, rfl⟩
      obtain ⟨ob, hob, hobl⟩ : ∃ ob, ow = bytesP ob ∧ ob.length ≤ 304 := ⟨lb ++ le4 su, by rw [how]; unfold rputX; rw [hlb, bytesP_append], by rw [List.length_append, le4_len]; omega⟩
      have hoB : isB ow := ⟨ob, hob, by omega⟩
      have hoB8 : isB8 ow := ⟨ob, hob, by omega⟩
      have hol : ow.length = ob.length := by rw [hob]; exact bytesP_length ob
      have hosz := bytesP_sz ob
      rw [← hob] at hosz
      obtain ⟨fu, hfu⟩ : ∃ fu, fu = roomyX ow 2 := ⟨_, rfl⟩
      have hfl : fu.length = ow.length + 80 := by rw [hfu]; exact roomy_len ow 2
      have hbz : True := trivial
      have hM2 : isM 2 := ⟨2, rfl⟩
      obtain ⟨⟨⟨m0, m1, m2, m3, m4, m5, m6⟩, sg, eg⟩, hig⟩ : ∃ q, q = igetX ow := ⟨_, rfl⟩
      have hsgS : isSt sg := by
        have := iget_st2 hoB8
        rw [← hig] at this
        exact this
      have hsgl := hsgS.len
      have hsgc := hsgS.closed
      have e1 : GFsCr.onR 0 ls = su := by subst hFsCr; exact hsu0.symm
      have e2 : A.wrap .u64 su = su := by subst hA; exact wrap_u64 hsu
      have e3 : GFsWe.rputX ls 4 su = rputX ls 4 su := by subst hFsWe; rfl
      have e4 : GFsUm.roomy ow 2 = fu := by subst hFsUm; exact hfu.symm
      have e5 : A.sub fu 0 (A.len ow) = ow := by subst hA; show (fu.drop 0).take ((ow.length : Int).toNat - 0) = ow; rw [hfu, show (ow.length : Int).toNat - 0 = ow.length by omega]; exact roomy_take ow 2
      have e6 : GFsIk.igetK ow = (⟨m0, m1, m2, m3, m4, m5, m6⟩, sg, eg) := by subst hFsIk; exact hig.symm
      have e7 : GFsUk.unimK ow = (⟨m0, m1, m2, m3, m4, m5, m6⟩, sg, eg) := by subst hFsUk; exact hig.symm
      have e8 : GFsSE.statesR sg sg = true := by subst hFsSE; exact sameSt_refl sg
      have hbn : (0 : Int) ≤ 0 ∧ 0 ≤ (ow.length : Int) ∧ (ow.length : Int) ≤ (fu.length : Int) := ⟨by omega, by omega, by omega⟩
      have e10 : GFsUm.intact fu ow 2 = true := by subst hFsUm; rfl
      have e11 : GFsI4.iruns3 = true := by subst hFsI4; rfl
      have e9 : A.cmp .eql eg eg = true := by subst hA; exact decide_eq_true rfl
      have q0 : A.cmp .eql m0 m0 = true := by subst hA; exact decide_eq_true rfl
      cbv at q0
      have q1 : A.cmp .eql m1 m1 = true := by subst hA; exact decide_eq_true rfl
      cbv at q1
      have q2 : A.cmp .eql m2 m2 = true := by subst hA; exact decide_eq_true rfl
      cbv at q2
      have q3 : A.cmp .eql m3 m3 = true := by subst hA; exact decide_eq_true rfl
      cbv at q3
      have q4 : A.cmp .eql m4 m4 = true := by subst hA; exact decide_eq_true rfl
      cbv at q4
      have q5 : A.cmp .eql m5 m5 = true := by subst hA; exact decide_eq_true rfl
      cbv at q5
      have q6 : A.cmp .eql m6 m6 = true := by subst hA; exact decide_eq_true rfl
      cbv at q6
      cbv at e1
      cbv at e2
      rw [← how] at e3
      cbv at e3
      cbv at e4
      cbv at e5
      cbv at e6
      cbv at e7
      cbv at e8
      cbv at e9
      cbv at e10
      cbv at e11
      repeat' first
        | (simp only [y1, y2, y3, y4, y5, y7, y8, e1, e2, e3, e4, e5, e6, e7, e8, e9, e10, e11, q0, q1, q2, q3, q4, q5, q6, g1, g2, decide_true]; cbv)
        | (refine And.intro ?_ ?_)
        | (refine part (fun h => ?_) (fun h => ?_) <;> try cbv)
      rotate_right 1
      · refine afterL (T := fun _ => tabY [1009, 1024, 1026, 1029, 1051, 1057, 1013, 1016, 1063, 1064, 5003, 5004] []) (H := fun _ => [kn_behX GFsBe, kn_imgP GFsI5, kn_imgR2 GFsI5, kn_sameB GFsPq, kn_onR GFsCr, kn_rputX GFsWe, kn_roomy GFsUm, kn_igetK GFsIk, kn_unimK GFsUk, kn_statesR GFsSE, kn_intact GFsUm, kn_iruns3 GFsI4]) (tabY_ok _ _) hH follows_mixed hA hX ?_
        cbv
        repeat' (refine And.intro ?_ ?_)
        rotate_right 1
        · refine ⟨[(2, .d (.slc 1 ls)), (3, .d (.sc (.bool true))), (10, .d (.slc 1 ls))], [⟨25, [.d (.sc (.int .i64 d0)), .d (.sc (.int .i64 d1)), .d (.sc (.int .i64 d2)), .d (.sc (.int .i64 d3)), .d (.sc (.int .i64 d4)), .d (.sc (.int .i64 d5)), .d (.sc (.int .i64 d6))], false, 0, true⟩, ⟨34, s, false, 0, true⟩], ?_, ?_⟩
          · subst hA
            simp only [A0]
            refine Told.trans (told_freeze (s' := [(2, .d (.slc 1 ls)), (3, .d (.sc (.bool true))), (10, .d (.slc 1 ls))]) 2 1 ls _ rfl rfl (Nat.le_refl 2) (by simp) hlsz rfl ?_) (told_keep [0, 1] rfl ?_ ?_)
            · simp [toldP, getS, fzD]
            · simp [keepSt, pullBox, pullL, pullD, fzSt, fzBox, fzL, fzD, pullL_closed _ _ hsc, fzL_closed _ _ _ _ _ hsc]
            · simp [toldP, getS, pullD]
          cbv
          repeat' first
            | (simp only [y1, y2, y3, y4, y5, y7, y8, e1, e2, e3, e4, e5, e6, e7, e8, e9, e10, e11, q0, q1, q2, q3, q4, q5, q6, decide_true]; cbv)
            | ((with_reducible refine goL (c := .region 9 _ _) (T := fun _ => tabY [1009, 1024, 1026, 1029, 1051, 1057, 1013, 1016, 1063, 1064, 5003, 5004] []) (H := fun _ => [kn_behX GFsBe, kn_imgP GFsI5, kn_imgR2 GFsI5, kn_sameB GFsPq, kn_onR GFsCr, kn_rputX GFsWe, kn_roomy GFsUm, kn_igetK GFsIk, kn_unimK GFsUk, kn_statesR GFsSE, kn_intact GFsUm, kn_iruns3 GFsI4]) (tabY_ok _ _) hH follows_mixed hA hX ?_) <;> cbv)
            | ((with_reducible refine goL (c := .region 10 _ _) (T := fun _ => tabY [1009, 1024, 1026, 1029, 1051, 1057, 1013, 1016, 1063, 1064, 5003, 5004] []) (H := fun _ => [kn_behX GFsBe, kn_imgP GFsI5, kn_imgR2 GFsI5, kn_sameB GFsPq, kn_onR GFsCr, kn_rputX GFsWe, kn_roomy GFsUm, kn_igetK GFsIk, kn_unimK GFsUk, kn_statesR GFsSE, kn_intact GFsUm, kn_iruns3 GFsI4]) (tabY_ok _ _) hH follows_mixed hA hX ?_) <;> cbv)
            | ((with_reducible refine goL (c := .region 11 _ _) (T := fun _ => tabY [1009, 1024, 1026, 1029, 1051, 1057, 1013, 1016, 1063, 1064, 5003, 5004] []) (H := fun _ => [kn_behX GFsBe, kn_imgP GFsI5, kn_imgR2 GFsI5, kn_sameB GFsPq, kn_onR GFsCr, kn_rputX GFsWe, kn_roomy GFsUm, kn_igetK GFsIk, kn_unimK GFsUk, kn_statesR GFsSE, kn_intact GFsUm, kn_iruns3 GFsI4]) (tabY_ok _ _) hH follows_mixed hA hX ?_) <;> cbv)
            | ((with_reducible refine goL (c := .region 12 _ _) (T := fun _ => tabY [1009, 1024, 1026, 1029, 1051, 1057, 1013, 1016, 1063, 1064, 5003, 5004] []) (H := fun _ => [kn_behX GFsBe, kn_imgP GFsI5, kn_imgR2 GFsI5, kn_sameB GFsPq, kn_onR GFsCr, kn_rputX GFsWe, kn_roomy GFsUm, kn_igetK GFsIk, kn_unimK GFsUk, kn_statesR GFsSE, kn_intact GFsUm, kn_iruns3 GFsI4]) (tabY_ok _ _) hH follows_mixed hA hX ?_) <;> cbv)
            | (refine And.intro ?_ ?_)
            | (refine part (fun h => ?_) (fun h => ?_) <;> try cbv)
          all_goals first
            | (subst hA; exact rfl)
            | (subst hA; show Region.lexB _ _ = true; kernel_rfl)
            | (subst hA; show turnsB _ = true; kernel_rfl)
            | (subst hFsBe; exact hp0)
            | (subst hFsI5; exact hsI)
            | (subst hFsI5; exact hd)
            | exact hsS
            | (subst hFsPq; exact hxB)
            | (subst hFsUm; exact hoB)
            | (subst hFsUm; exact hM2)
            | (subst hFsUm; exact hlB)
            | (subst hFsWe; exact hlB)
            | (subst hFsCr; exact hlB)
            | (subst hFsCr; exact ⟨by decide, by decide⟩)
            | (subst hFsWe; exact hsu)
            | (subst hA; exact hbn)
            | (subst hA; exact hbz)
            | (subst hFsIk; exact hoB8)
            | (subst hFsUk; exact hoB8)
            | (subst hA; show List.length _ = 49 * 1; exact hsgl)
            | (subst hA; show List.length _ = 49 * 1; exact hsl)
            | (subst hA; exact id)
            | (subst hA; intro q; exact q)
            | (subst hA; intro _; exact trivial)
            | (subst hA; intro _; exact rfl)
            | (subst hA; intro _; show List.length _ = 49 * 1; exact hsgl)
            | (subst hA hFsSE; intro _; exact hsgS)
            | (subst hA hFsUm; intro _; exact hoB)
            | (subst hA hFsUm; intro _; exact hfu)
            | (subst hA hFsUm; intro _; exact hM2)
            | (subst hA; simp only [A0]; omega)
            | (subst hA hW; exact ret_v rfl rfl)
            | fail
        all_goals first
          | (subst hA; exact rfl)
          | (subst hA; simp only [A0]; omega)
          | fail
      all_goals first
        | (subst hA; exact rfl)
        | (subst hA; show Region.lexB _ _ = true; kernel_rfl)
        | (subst hA; show turnsB _ = true; kernel_rfl)
        | (subst hFsBe; exact hp0)
        | (subst hFsI5; exact hsI)
        | (subst hFsI5; exact hd)
        | exact hsS
        | (subst hFsPq; exact hxB)
        | (subst hFsUm; exact hoB)
        | (subst hFsUm; exact hM2)
        | (subst hFsUm; exact hlB)
        | (subst hFsWe; exact hlB)
        | (subst hFsCr; exact hlB)
        | (subst hFsCr; exact ⟨by decide, by decide⟩)
        | (subst hFsWe; exact hsu)
        | (subst hA; exact hbn)
        | (subst hA; exact hbz)
        | (subst hFsIk; exact hoB8)
        | (subst hFsUk; exact hoB8)
        | (subst hA; show List.length _ = 49 * 1; exact hsgl)
        | (subst hA; show List.length _ = 49 * 1; exact hsl)
        | (subst hA; exact id)
        | (subst hA; intro q; exact q)
        | (subst hA; intro _; exact trivial)
        | (subst hA; intro _; exact rfl)
        | (subst hA; intro _; show List.length _ = 49 * 1; exact hsgl)
        | (subst hA hFsSE; intro _; exact hsgS)
        | (subst hA hFsUm; intro _; exact hoB)
        | (subst hA hFsUm; intro _; exact hfu)
        | (subst hA hFsUm; intro _; exact hM2)
        | (subst hA; simp only [A0]; omega)
        | (subst hA hW; exact ret_v rfl rfl)
        | fail
end Go.Proofs.Ytghkcmgiagodlaa
namespace Go.Proofs.Ytghkcmgiagodlaa
open Go.RowKit
set_option linter.all false
theorem wf_u8 {n : Int} (h : (Lit.int .u8 n).wf = true) : 0 ≤ n ∧ n ≤ 255 := by
  simp only [Lit.wf, Bool.and_eq_true, decide_eq_true_eq] at h
  exact h
theorem fit_bytes : ∀ (xs : List (List PD)), (∀ x ∈ xs, FitL [.int .u8] x) → ∃ bs, xs = bytesP bs
  | [], _ => ⟨[], rfl⟩
  | x :: xs, h => by
      obtain ⟨bs, rfl⟩ := fit_bytes xs (fun y hy => h y (by simp [hy]))
      have h0 := h x (by simp)
      simp only [FitL, FitP] at h0
      obtain ⟨_, _, rfl, ⟨n, rfl, hn⟩, rfl⟩ := h0
      have := wf_u8 hn
      refine ⟨UInt8.ofNat n.toNat :: bs, ?_⟩
      have e : ((UInt8.ofNat n.toNat).toNat : Int) = n := by simp; omega
      simp only [bytesP, List.map_cons, e]
theorem wt_rows : ∀ xs : List (List PD), (∀ x ∈ xs, x ≠ []) → xs.length ≤ wtR xs
  | [], _ => by simp
  | x :: xs, h => by
      have h1 := wt_rows xs (fun y hy => h y (by simp [hy]))
      have h2 := h x (by simp)
      cases x with
      | nil => exact absurd rfl h2
      | cons p ps =>
        have : 1 ≤ wtP p := by
          cases p with
          | sc v =>
            unfold wtP
            split <;> omega
          | slc sz ys => unfold wtP; omega
        simp only [wtR, wtL, List.length_cons]
        omega
theorem fit_b8 {ps : List PD} (h : FitL [.slc [.int .u8]] ps) (hw : wtL ps ≤ 1048576) : ∃ xs, ps = [.slc 1 xs] ∧ isB8 xs := by
  simp only [FitL, FitP] at h
  obtain ⟨_, _, rfl, ⟨xs, rfl, hx⟩, rfl⟩ := h
  simp only [wtL, wtP] at hw
  obtain ⟨bs, rfl⟩ := fit_bytes xs hx
  have := wt_rows (bytesP bs) (fun x hx e => by
    simp only [bytesP, List.mem_map] at hx
    obtain ⟨_, _, rfl⟩ := hx
    cases e)
  rw [bytesP_length] at this
  exact ⟨_, rfl, bs, rfl, by omega⟩
end Go.Proofs.Ytghkcmgiagodlaa
namespace Go.Proofs.Ytghkcmgiagodlaa
open Go.RowKit
set_option linter.all false
theorem wf_r64I {n : Int} (h : (Lit.int .i64 n).wf = true) : r64 n := by
  simp only [Lit.wf, Bool.and_eq_true, decide_eq_true_eq] at h
  exact h
theorem fit_deps {ps : List PD} (h : FitL [.int .i64, .int .i64, .int .i64, .int .i64, .int .i64, .int .i64, .int .i64] ps) (hw : wtL ps ≤ 1048576) : ∃ a0 a1 a2 a3 a4 a5 a6 : Int, ps = [.sc (.int .i64 a0), .sc (.int .i64 a1), .sc (.int .i64 a2), .sc (.int .i64 a3), .sc (.int .i64 a4), .sc (.int .i64 a5), .sc (.int .i64 a6)] ∧ rDeps ⟨a0, a1, a2, a3, a4, a5, a6⟩ := by
  simp only [FitL, FitP] at h
  obtain ⟨_, _, rfl, ⟨a0, rfl, h0⟩, _, _, rfl, ⟨a1, rfl, h1⟩, _, _, rfl, ⟨a2, rfl, h2⟩, _, _, rfl, ⟨a3, rfl, h3⟩, _, _, rfl, ⟨a4, rfl, h4⟩, _, _, rfl, ⟨a5, rfl, h5⟩, _, _, rfl, ⟨a6, rfl, h6⟩, rfl⟩ := h
  exact ⟨a0, a1, a2, a3, a4, a5, a6, rfl, wf_r64I h0, wf_r64I h1, wf_r64I h2, wf_r64I h3, wf_r64I h4, wf_r64I h5, wf_r64I h6⟩
end Go.Proofs.Ytghkcmgiagodlaa
