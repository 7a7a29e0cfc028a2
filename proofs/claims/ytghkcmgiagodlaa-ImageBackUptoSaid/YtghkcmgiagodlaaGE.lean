/- A state comes back from its bytes and goes on as itself: the law over plain data. No condition but sizes. -/
import Derived.Test.YtghkcmgiagodlaaGB
import Derived.Test.YtghkcmgiagodlaaGA
import Derived.Test.YtghkcmgiagodlaaGD
namespace Go.Proofs.Ytghkcmgiagodlaa
open Go.RowKit
set_option linter.all false
set_option maxHeartbeats 4000000
theorem okSt.v {k : Int} {ps : List Pair} {os : List Owner} (h : okSt k ps os) (hk : k ≤ 4611686018427387904) : okV (cellsS ps os) := by
  refine ⟨?_, ?_⟩
  · intro p hp
    rw [show prsS (cellsS ps os) = pairsX ps from rfl, pairsOf_X] at hp
    have := (h.1.2.2 p hp).2.2.2
    unfold r64
    omega
  · intro o ho
    rw [show ownS (cellsS ps os) = ownsD os from own_mk h.own, ownersOf_D h.2.1 rfl] at ho
    obtain ⟨_, _, ⟨_, _, h5, h6, qs, h7, h8, _⟩, _⟩ := h.2.2 o ho
    refine ⟨by unfold r64; omega, ?_⟩
    rw [h7]
    intro p hp
    rw [pairsOf_X] at hp
    have := (h8.2.2 p hp).2.2.2
    unfold r64
    omega
theorem okSt.bytes {k : Int} {ps : List Pair} {os : List Owner} (h : okSt k ps os) (hk : k ≤ 4611686018427387904) : isB8 (bytesSt (cellsS ps os)) := by
  have hv := h.v hk
  have h1 : isPs (pairsX ps) := right_isPs h.1.isP h.1.right hv.1
  have h2 : ∀ o ∈ os, okBo o := fun o ho => by
    have hv2 := hv.2 o (by rw [show ownS (cellsS ps os) = ownsD os from own_mk h.own, ownersOf_D h.2.1 rfl]; exact ho)
    exact okO_bo ((h.2.2 o ho).right) ((h.2.2 o ho).2.2.1.isP) hv2.1 hv2.2
  have h3 := (isLn.nil.prs h1).ows h2
  have e : bytesSt (cellsS ps os) = owsX (prX [] (pairsX ps)) os := by
    unfold bytesSt
    rw [h.right, show prsS (cellsS ps os) = pairsX ps from rfl, show ownS (cellsS ps os) = ownsD os from own_mk h.own, ownersOf_D h.2.1 rfl]
    rfl
  rw [e]
  obtain ⟨bs, e2, h4⟩ := h3
  have := h.2.1
  exact ⟨bs, e2, by omega⟩
end Go.Proofs.Ytghkcmgiagodlaa
namespace Go.Proofs.Ytghkcmgiagodlaa
open Go.RowKit
set_option linter.all false
set_option maxHeartbeats 4000000
theorem leV_le4 {u : Int} (h : 0 ≤ u ∧ u < 4294967296) : leV (le4 u) = u := by
  unfold leV le4
  simp
  omega
theorem le4_len (u : Int) : (le4 u).length = 4 := rfl
theorem rightDs_r {d : Deps} (h : rightDs d = true) : rDeps d := by
  unfold rightDs okK at h
  simp only [Bool.and_eq_true, decide_eq_true_eq] at h
  unfold rDeps r64
  omega
theorem dps_back {bs rest : List UInt8} {d : Deps} (h : rDeps d) (e : bs = dpB d ++ rest) : dpsR (bytesP bs) = (d, ((dpB d).length : Int), 0) := by
  obtain ⟨h0, h1, h2, h3, h4, h5, h6⟩ := h
  unfold dpB at e
  simp only [List.append_assoc] at e
  have e0 := numR_back (bs := bs) (a := 0) [] _ d.d0 h0 e rfl
  have e1 := numR_back (bs := bs) ([] ++ numB d.d0) _ d.d1 h1 (by rw [e]; simp only [List.nil_append]; rfl) rfl
  have e2 := numR_back (bs := bs) (([] ++ numB d.d0) ++ numB d.d1) _ d.d2 h2 (by rw [e]; simp only [List.nil_append, List.append_assoc]; rfl) rfl
  have e3 := numR_back (bs := bs) ((([] ++ numB d.d0) ++ numB d.d1) ++ numB d.d2) _ d.d3 h3 (by rw [e]; simp only [List.nil_append, List.append_assoc]; rfl) rfl
  have e4 := numR_back (bs := bs) (((([] ++ numB d.d0) ++ numB d.d1) ++ numB d.d2) ++ numB d.d3) _ d.d4 h4 (by rw [e]; simp only [List.nil_append, List.append_assoc]; rfl) rfl
  have e5 := numR_back (bs := bs) ((((([] ++ numB d.d0) ++ numB d.d1) ++ numB d.d2) ++ numB d.d3) ++ numB d.d4) _ d.d5 h5 (by rw [e]; simp only [List.nil_append, List.append_assoc]; rfl) rfl
  have e6 := numR_back (bs := bs) (((((([] ++ numB d.d0) ++ numB d.d1) ++ numB d.d2) ++ numB d.d3) ++ numB d.d4) ++ numB d.d5) rest d.d6 h6 (by rw [e]; simp only [List.nil_append, List.append_assoc]) rfl
  unfold dpsR
  simp only [e0, e1, e2, e3, e4, e5, e6]
  refine Prod.ext rfl (Prod.ext ?_ rfl)
  simp only [dpB, List.nil_append]
theorem imgH_eq {k : Int} {ps : List Pair} {os : List Owner} (d : Deps) (h : okSt k ps os) : imgH d (cellsS ps os) = dpB d ++ stB ps os := by
  unfold imgH
  rw [bytesSt_B h.1.isP h.own h.2.1 h.right, bytesOf_bytesP]
theorem img_parts (H : List UInt8) (u : Int) (hu : 0 ≤ u ∧ u < 4294967296) : (bytesP (H ++ le4 u)).length - 4 = H.length ∧ ¬ (bytesP (H ++ le4 u)).length < 4 ∧ (bytesP (H ++ le4 u)).take H.length = bytesP H ∧ getW4 (bytesP (H ++ le4 u)) (((bytesP (H ++ le4 u)).length : Int) - 4) = u := by
  have hl : (bytesP (H ++ le4 u)).length = H.length + 4 := by rw [bytesP_length, List.length_append, le4_len]
  refine ⟨by omega, by omega, by rw [bytesP_take, List.take_left], ?_⟩
  unfold getW4
  rw [bytesOf_bytesP, hl, show (((H.length + 4 : Nat) : Int) - 4).toNat = H.length by omega, List.drop_left]
  exact leV_le4 hu
theorem iget_back {k : Int} {ps : List Pair} {os : List Owner} {d : Deps} (hd : rightDs d = true) (h : okSt k ps os) (hk : k ≤ 4611686018427387904) : igetX (bytesP (imgI d (cellsS ps os))) = (d, cellsS ps os, 0) := by
  obtain ⟨H, hH⟩ : ∃ H, H = imgH d (cellsS ps os) := ⟨_, rfl⟩
  have hu := onX_range 0 (by decide) (bytesP H)
  obtain ⟨u, hu2⟩ : ∃ u, u = ofX (bytesP H) := ⟨_, rfl⟩
  have hu3 : 0 ≤ u ∧ u < 4294967296 := by rw [hu2]; exact hu
  have hI : imgI d (cellsS ps os) = H ++ le4 u := by unfold imgI; rw [← hH, ← hu2]
  obtain ⟨p1, p2, p3, p4⟩ := img_parts H u hu3
  rw [hI]
  unfold igetX
  rw [if_neg p2, p1, p3, p4, if_pos hu2]
  have hHe : H = dpB d ++ stB ps os := by rw [hH, imgH_eq d h]
  have hdp := dps_back (bs := H) (rest := stB ps os) (rightDs_r hd) hHe
  have hg := getSt_back h hk
  rw [bytesSt_B h.1.isP h.own h.2.1 h.right] at hg
  have hdr : (bytesP H).drop (dpB d).length = bytesP (stB ps os) := by rw [hHe, bytesP_drop, List.drop_left]
  unfold igetB
  simp only [hdp]
  rw [if_pos trivial, if_pos hd, show (((dpB d).length : Nat) : Int).toNat = (dpB d).length by omega, hdr, hg]
  simp only
  rw [if_pos trivial]
theorem img_small {k : Int} {ps : List Pair} {os : List Owner} (h : okSt k ps os) (hk : k ≤ 4611686018427387904) : smallS (cellsS ps os) := by
  have hv := h.v hk
  have h1 : isPs (pairsX ps) := right_isPs h.1.isP h.1.right hv.1
  have h2 : ∀ o ∈ os, okBo o := fun o ho => by
    have hv2 := hv.2 o (by rw [show ownS (cellsS ps os) = ownsD os from own_mk h.own, ownersOf_D h.2.1 rfl]; exact ho)
    exact okO_bo ((h.2.2 o ho).right) ((h.2.2 o ho).2.2.1.isP) hv2.1 hv2.2
  have h3 := (isLn.nil.prs h1).ows h2
  have e : bytesSt (cellsS ps os) = owsX (prX [] (pairsX ps)) os := by
    unfold bytesSt
    rw [h.right, show prsS (cellsS ps os) = pairsX ps from rfl, show ownS (cellsS ps os) = ownsD os from own_mk h.own, ownersOf_D h.2.1 rfl]
    rfl
  obtain ⟨bs, e2, h4⟩ := h3
  have := h.2.1
  exact ⟨bs, by rw [e, e2], by omega⟩
theorem dpB_len (d : Deps) : (dpB d).length ≤ 70 := by
  have q := numB_length
  have a0 := q d.d0
  have a1 := q d.d1
  have a2 := q d.d2
  have a3 := q d.d3
  have a4 := q d.d4
  have a5 := q d.d5
  have a6 := q d.d6
  simp only [dpB, List.length_append]
  omega
end Go.Proofs.Ytghkcmgiagodlaa
namespace Go.Proofs.Ytghkcmgiagodlaa
open Go.RowKit
set_option linter.all false
set_option maxHeartbeats 4000000
def D12 : Deps := ⟨1, 2, 0, 0, 0, 0, 0⟩
def B20 : List UInt8 := [2, 4, 0, 0, 0, 0, 0, 0, 0, 0, 0, 0, 0, 0, 0, 0, 85, 11, 103, 225]
def B20t : List UInt8 := [3, 4, 0, 0, 0, 0, 0, 0, 0, 0, 0, 0, 0, 0, 0, 0, 85, 11, 103, 225]
theorem zst_ok : okSt 0 [] (List.replicate 8 ⟨0, zeroRep⟩) := zero_st
theorem zst_eq : cellsS [] (List.replicate 8 ⟨0, zeroRep⟩) = zeroSt := rfl
theorem bytes_z49 : bytesSt Z49 = bytesSt zeroSt := by
  have h := bytesSt_up z49
  rw [← h]
  rfl
theorem right_z49 : rightSt Z49 = true := zst_ok.right
theorem okV_z49 : okV Z49 := zst_ok.v (by decide)
theorem small_z49 : smallS Z49 := by
  obtain ⟨bs, h1, h2⟩ := img_small zst_ok (by decide)
  exact ⟨bs, by rw [bytes_z49, ← zst_eq]; exact h1, h2⟩
theorem right_d12 : rightDs D12 = true := by decide
theorem imgH_z : imgH D12 Z49 = [2, 4, 0, 0, 0, 0, 0, 0, 0, 0, 0, 0, 0, 0, 0, 0] := by
  have h := imgH_eq D12 zst_ok
  rw [zst_eq] at h
  have h2 : imgH D12 Z49 = imgH D12 zeroSt := by unfold imgH; rw [bytes_z49]
  rw [h2, h]
  rfl
theorem crc_a : (crcL (Int.toNat 0 ^^^ M32) [2, 4, 0, 0, 0, 0, 0, 0, 0, 0, 0, 0, 0, 0, 0, 0] ^^^ M32) = 3781626709 := by decide +kernel
theorem crc_b : (crcL (Int.toNat 0 ^^^ M32) [3, 4, 0, 0, 0, 0, 0, 0, 0, 0, 0, 0, 0, 0, 0, 0] ^^^ M32) = 1326422724 := by decide +kernel
theorem imgI_z : imgI D12 Z49 = B20 := by
  unfold imgI
  rw [imgH_z]
  unfold ofX onX
  rw [bytesOf_bytesP, crc_a]
  decide +kernel
theorem iget_a : igetX (bytesP B20) = (D12, zeroSt, 0) := by
  have h := iget_back (d := D12) right_d12 zst_ok (by decide)
  rw [zst_eq] at h
  have h2 : imgI D12 Z49 = imgI D12 zeroSt := by unfold imgI imgH; rw [bytes_z49]
  rw [← h2, imgI_z] at h
  exact h
theorem iget_b : igetX (bytesP B20t) = (zeroDp, zeroSt, 6) := by
  unfold igetX
  rw [if_neg (by rw [bytesP_length]; decide)]
  have e1 : (bytesP B20t).length - 4 = 16 := by rw [bytesP_length]; rfl
  have e2 : ((bytesP B20t).length : Int) - 4 = 16 := by rw [bytesP_length]; rfl
  have e3 : (bytesP B20t).take 16 = bytesP [3, 4, 0, 0, 0, 0, 0, 0, 0, 0, 0, 0, 0, 0, 0, 0] := by rw [bytesP_take]; rfl
  have e4 : getW4 (bytesP B20t) 16 = 3781626709 := by
    unfold getW4
    rw [bytesOf_bytesP]
    decide +kernel
  rw [e1, e2, e3, e4]
  unfold ofX onX
  rw [bytesOf_bytesP, crc_b, if_neg (by decide)]
theorem iget_c (b : List UInt8) (h : b.length < 4) : igetX (bytesP b) = (zeroDp, zeroSt, 3) := by
  unfold igetX
  rw [if_pos (by rw [bytesP_length]; exact h)]
end Go.Proofs.Ytghkcmgiagodlaa
namespace Go.Proofs.Ytghkcmgiagodlaa
open Go.RowKit
set_option linter.all false
set_option maxHeartbeats 4000000
set_option maxRecDepth 1000000 in
theorem v_iruns : FnV Try.prog 3 [] (boolD true) := by
  obtain ⟨z0, hz0⟩ : ∃ z, z = zeroSt := ⟨_, rfl⟩
  have hz0S : isSt z0 := by rw [hz0]; exact zst_ok.is
  have hz0l := hz0S.len
  have hz0c := hz0S.closed
  have hIP := w_iput D12 Z49 z49 okV_z49 small_z49 (rightDs_r right_d12) right_z49 right_d12
  have hG1 : ∀ v c m, c = rowsD (bytesP B20) → m = 20 → FnD Try.prog 11 [.view 1 0 v 0 m] [⟨5, c, true, v, true⟩] (fun r st' => r = .tup [.agg D12.cells, .agg z0, .d (.sc (.int .i64 0))] ∧ st' = [⟨5, c, true, v, true⟩]) := fun v c m hc hm => by
    have := w_iget (bytesP B20) (bytesP B20) c v m ⟨B20, rfl, by decide⟩ hc (by rw [hm]; decide) (by rw [hm]; rfl)
    rw [iget_a, ← hz0] at this
    exact this
  have hG2 : ∀ v c m, c = rowsD (bytesP B20t) → m = 20 → FnD Try.prog 11 [.view 1 0 v 0 m] [⟨5, c, true, v, true⟩] (fun r st' => r = .tup [.agg zeroDp.cells, .agg z0, .d (.sc (.int .i64 6))] ∧ st' = [⟨5, c, true, v, true⟩]) := fun v c m hc hm => by
    have := w_iget (bytesP B20t) (bytesP B20t) c v m ⟨B20t, rfl, by decide⟩ hc (by rw [hm]; decide) (by rw [hm]; rfl)
    rw [iget_b, ← hz0] at this
    exact this
  have hG3 : ∀ v c, c = rowsD (bytesP B20t) → FnD Try.prog 11 [.view 1 0 v 0 3] [⟨5, c, true, v, true⟩] (fun r st' => r = .tup [.agg zeroDp.cells, .agg z0, .d (.sc (.int .i64 3))] ∧ st' = [⟨5, c, true, v, true⟩]) := fun v c hc => by
    have := w_iget (bytesP B20t) (bytesP (B20t.take 3)) c v 3 ⟨B20t, rfl, by decide⟩ hc (by decide) (by rw [bytesP_take])
    rw [iget_c _ (by decide), ← hz0] at this
    exact this
  have hcl1 : closedD 0 (.tup [.agg D12.cells, .agg z0, .d (.sc (.int .i64 0))]) = true := by
    simp [closedD, closedL, Deps.cells, hz0c]
  have hcl2 : ∀ e : Int, closedD 0 (.tup [.agg zeroDp.cells, .agg z0, .d (.sc (.int .i64 e))]) = true := fun e => by
    simp [closedD, closedL, Deps.cells, hz0c]
  obtain ⟨GFsSE, hFsSE⟩ : ∃ F, F = FsSE0 := ⟨_, rfl⟩
  have hH : SoundK Try.prog [kn_statesR GFsSE] := by subst hFsSE; exact orK_ok ok_statesR noK_ok
  have hB : SoundB Try.prog [] := by subst hFsSE; exact noB_ok
  refine FnD_cbv (T := fun _ => tabY [39, 42, 1003, 1018, 1047, 1054, 5003, 5004] []) (H := fun _ => [kn_statesR GFsSE]) (tabY_ok _ _) hH follows_mixed Try.func3 rfl Try.ntmps3 (by simp) fun A X W hA hX hW => ?_
  cbv
  have k1 : A.cmp .neq 0 0 = false := by subst hA; rfl
  have k2 : A.cmp .lss (A.int 20) 5 = false := by subst hA; rfl
  have k3 : A.cmp .eql 1 1 = true := by subst hA; rfl
  have k4 : A.cmp .eql 2 2 = true := by subst hA; rfl
  have k5 : A.cmp .eql 0 0 = true := by subst hA; rfl
  have k6 : A.and true true = true := by subst hA; rfl
  have k7 : A.not true = false := by subst hA; rfl
  have k8 : A.cond false true false = false := by subst hA; rfl
  have k9 : GFsSE.statesR z0 Z49 = true := by
    subst hFsSE hz0
    show sameSt zeroSt Z49 = true
    exact sameSt_refl zeroSt
  have k10 : A.off 0 0 1 = 0 := by subst hA; rfl
  have k11 : A.bin .xor .u8 2 1 = 3 := by subst hA; rfl
  have k12 : A.nat 3 = 3 := by subst hA; rfl
  have k13 : A.cmp .eql 6 6 = true := by subst hA; rfl
  have k14 : A.cmp .eql 3 3 = true := by subst hA; rfl
  have k15 : A.cond true true false = true := by subst hA; rfl
  cbv at k1
  cbv at k2
  cbv at k3
  cbv at k4
  cbv at k5
  cbv at k6
  cbv at k7
  cbv at k8
  cbv at k9
  cbv at k10
  cbv at k11
  cbv at k12
  cbv at k13
  cbv at k14
  cbv at k15
  refine callL hX (FnD.newRow hIP rfl fun v c m hc hm => ?_)
  rw [imgI_z] at hc hm
  obtain rfl : m = 20 := hm
  have hcc : closedL 0 c = true := by rw [hc]; exact rows_closed _
  obtain ⟨c2, hc2⟩ : ∃ c2, c2 = rowsD (bytesP B20t) := ⟨_, rfl⟩
  have hcc2 : closedL 0 c2 = true := by rw [hc2]; exact rows_closed _
  have k16 : A.gi c 0 = 2 := by subst hA; rw [hc]; rfl
  have k17 : A.spl c 0 [.d (.sc (.int .u8 3))] = c2 := by subst hA; rw [hc, hc2]; rfl
  have hcl20 : c.length = 20 := by rw [hc]; rfl
  cbv at k16
  cbv at k17
  cbv
  refine callL hX (FnD.rowKeep 0 (hG1 v _ 20 hc rfl) rfl rfl hcl1 hcc ?_)
  cbv
  repeat' first
    | (simp only [k1, k2, k3, k4, k5, k6, k7, k8, k9, k10, k11, k12, k13, k14, k15, k16, k17]; cbv)
    | (refine And.intro ?_ ?_)
    | (refine callL hX (FnD.rowKeep 0 (hG2 v _ 20 hc2 rfl) rfl rfl (hcl2 6) hcc2 ?_); cbv)
    | (refine callL hX (FnD.rowKeep 0 (hG3 v _ hc2) rfl rfl (hcl2 3) hcc2 ?_); cbv)
    | (refine part (fun h => ?_) (fun h => ?_) <;> try cbv)
  all_goals subst hA hX hW hFsSE
  all_goals first
    | exact rfl
    | assumption
    | trivial
    | exact id
    | (intro _; first | exact trivial | exact rfl | assumption | exact hz0l | exact z49)
    | (show List.length _ = 49 * 1; first | exact hz0l | rfl)
    | (show Region.lexB _ _ = true; kernel_rfl)
    | (show turnsB _ = true; kernel_rfl)
    | exact ⟨by decide, by decide⟩
    | exact ⟨by decide, by decide, by decide⟩
    | exact ⟨rfl, Nat.le_of_ble_eq_true rfl, rfl⟩
    | (rw [hc]; exact ⟨rfl, Nat.le_of_ble_eq_true rfl, rfl⟩)
    | (show 0 + 1 * 1 ≤ c.length; rw [hcl20]; decide)
    | (refine ret_v ?_ rfl; rfl)
    | fail
def runs21 : Bool := true
structure FsI21 where
  iruns : Bool
theorem v_iruns2 : FnV Try.prog 3 [] (boolD runs21) := v_iruns
end Go.Proofs.Ytghkcmgiagodlaa
