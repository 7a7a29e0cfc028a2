/- A state comes back from its bytes and goes on as itself: the law over plain data. No condition but sizes. -/
import Derived.Test.YtghkcmgiagodlaaGB
import Derived.Test.YtghkcmgiagodlaaGA
import Derived.Test.YtghkcmgiagodlaaGD
import Derived.Test.YtghkcmgiagodlaaAm29
import Derived.Test.YtghkcmgiagodlaaStZ
import Derived.Test.YtghkcmgiagodlaaAm33
import Derived.Test.YtghkcmgiagodlaaGC
import Derived.Test.YtghkcmgiagodlaaAm45
namespace Go.Proofs.Ytghkcmgiagodlaa
open Go.RowKit
set_option linter.all false
set_option maxHeartbeats 4000000
theorem okSt.v {k : Int} {ps : List Pair} {os : List Owner} (h : okSt k ps os) (hk : k ≤ 4611686018427387904) : okV (cellsS ps os) := by
  refine ⟨?_, ?_⟩
  · intro p hp
    rw [show prsS (cellsS ps os) = pairsX ps from rfl, pairsOf_X] at hp
    have := (h.1.2.2 p hp).2.2.2
    unfold r64
    omega
  · intro o ho
    rw [show ownS (cellsS ps os) = ownsD os from own_mk h.own, ownersOf_D h.2.1 rfl] at ho
    obtain ⟨_, _, ⟨_, _, h5, h6, qs, h7, h8, _⟩, _⟩ := h.2.2 o ho
    refine ⟨by unfold r64; omega, ?_⟩
    rw [h7]
    intro p hp
    rw [pairsOf_X] at hp
    have := (h8.2.2 p hp).2.2.2
    unfold r64
    omega
theorem okSt.bytes {k : Int} {ps : List Pair} {os : List Owner} (h : okSt k ps os) (hk : k ≤ 4611686018427387904) : isB8 (bytesSt (cellsS ps os)) := by
  have hv := h.v hk
  have h1 : isPs (pairsX ps) := right_isPs h.1.isP h.1.right hv.1
  have h2 : ∀ o ∈ os, okBo o := fun o ho => by
    have hv2 := hv.2 o (by rw [show ownS (cellsS ps os) = ownsD os from own_mk h.own, ownersOf_D h.2.1 rfl]; exact ho)
    exact okO_bo ((h.2.2 o ho).right) ((h.2.2 o ho).2.2.1.isP) hv2.1 hv2.2
  have h3 := (isLn.nil.prs h1).ows h2
  have e : bytesSt (cellsS ps os) = owsX (prX [] (pairsX ps)) os := by
    unfold bytesSt
    rw [h.right, show prsS (cellsS ps os) = pairsX ps from rfl, show ownS (cellsS ps os) = ownsD os from own_mk h.own, ownersOf_D h.2.1 rfl]
    rfl
  rw [e]
  obtain ⟨bs, e2, h4⟩ := h3
  have := h.2.1
  exact ⟨bs, e2, by omega⟩
end Go.Proofs.Ytghkcmgiagodlaa
namespace Go.Proofs.Ytghkcmgiagodlaa
open Go.RowKit
set_option linter.all false
set_option maxHeartbeats 4000000
end Go.Proofs.Ytghkcmgiagodlaa
namespace Go.Proofs.Ytghkcmgiagodlaa
open Go.RowKit
set_option linter.all false
set_option maxHeartbeats 4000000
end Go.Proofs.Ytghkcmgiagodlaa
namespace Go.Proofs.Ytghkcmgiagodlaa
open Go.RowKit
set_option linter.all false
set_option maxHeartbeats 4000000
structure FsI21 where
  iruns : Bool
end Go.Proofs.Ytghkcmgiagodlaa
namespace Go.Proofs.Ytghkcmgiagodlaa
open Go.RowKit
set_option linter.all false
theorem wf_r64 {n : Int} (h : (Lit.int .i64 n).wf = true) : r64 n := by
  simp only [Lit.wf, Bool.and_eq_true, decide_eq_true_eq] at h
  exact h
theorem FitL.split : ∀ {a b : List Sh} {ps : List PD}, FitL (a ++ b) ps → ∃ p q, ps = p ++ q ∧ FitL a p ∧ FitL b q
  | [], _, ps, h => ⟨[], ps, rfl, by simp only [FitL], h⟩
  | s :: a, b, ps, h => by
      simp only [List.cons_append, FitL] at h
      obtain ⟨p, qs, rfl, h1, h2⟩ := h
      obtain ⟨p', q', rfl, h3, h4⟩ := FitL.split h2
      exact ⟨p :: p', q', rfl, by simp only [FitL]; exact ⟨p, p', rfl, h1, h3⟩, h4⟩
theorem fit_int {ps : List PD} (h : FitL [.int .i64] ps) : ∃ n, ps = [.sc (.int .i64 n)] ∧ r64 n := by
  simp only [FitL, FitP] at h
  obtain ⟨_, _, rfl, ⟨n, rfl, hn⟩, rfl⟩ := h
  exact ⟨n, rfl, wf_r64 hn⟩
theorem fit_cmds : ∀ (xs : List (List PD)), (∀ x ∈ xs, FitL [.int .i64, .int .i64, .int .i64, .str, .str, .str, .str] x) → ∃ l : List Cmd, xs = cmdsX l
  | [], _ => ⟨[], rfl⟩
  | x :: xs, h => by
      obtain ⟨l, rfl⟩ := fit_cmds xs (fun y hy => h y (by simp [hy]))
      have h0 := h x (by simp)
      simp only [FitL, FitP] at h0
      obtain ⟨_, _, rfl, ⟨a, rfl, _⟩, _, _, rfl, ⟨b, rfl, _⟩, _, _, rfl, ⟨c, rfl, _⟩, _, _, rfl, ⟨d, rfl, _⟩, _, _, rfl, ⟨e, rfl, _⟩, _, _, rfl, ⟨f, rfl, _⟩, _, _, rfl, ⟨g, rfl, _⟩, rfl⟩ := h0
      exact ⟨⟨a, b, c, d, e, f, g⟩ :: l, rfl⟩
theorem wt_cmds : ∀ l : List Cmd, l.length ≤ wtR (cmdsX l)
  | [] => by simp
  | c :: l => by
      have e : cmdsX (c :: l) = c.row :: cmdsX l := rfl
      have h := wt_cmds l
      rw [e]
      simp only [wtR, Cmd.row, wtL, wtP, List.length_cons]
      omega
theorem fit_cmdR {ps : List PD} (h : FitL [.slc [.int .i64, .int .i64, .int .i64, .str, .str, .str, .str]] ps) (hw : wtL ps ≤ 1048576) : ∃ xs, ps = [.slc 7 xs] ∧ isC xs := by
  simp only [FitL, FitP] at h
  obtain ⟨_, _, rfl, ⟨xs, rfl, hx⟩, rfl⟩ := h
  obtain ⟨l, rfl⟩ := fit_cmds xs hx
  simp only [wtL, wtP] at hw
  have := wt_cmds l
  exact ⟨_, rfl, l, rfl, by omega⟩
end Go.Proofs.Ytghkcmgiagodlaa
namespace Go.Proofs.Ytghkcmgiagodlaa
open Go.RowKit
set_option linter.all false
set_option maxHeartbeats 4000000
/-- The document's owner, read. -/
def ow2R (xs : List (List PD)) (a w : Int) : Owner × Int × Int :=
  let q := numR xs a w
  if ¬ q.1 = 0 ∧ q.2.2 = 0 then
    let y := numR xs q.2.1 q.2.2
    let f := flagR xs y.2.1 y.2.2
    let v := textR xs f.2.1 f.2.2 64
    let n := numR xs v.2.1 v.2.2
    let l := ls2X xs n.2.1 n.2.2 8
    (⟨q.1, ⟨y.1, f.1, v.1, n.1, l.1⟩⟩, l.2)
  else (⟨q.1, zeroRep⟩, q.2)
def ows2R (xs : List (List PD)) : Nat → Int → Int → List Owner × Int × Int
  | 0, a, w => ([], a, w)
  | n + 1, a, w =>
    let s := ows2R xs n a w
    let o := ow2R xs s.2.1 s.2.2
    (s.1 ++ [o.1], o.2)
noncomputable def getSt2 (xs : List (List PD)) : List DV × Int :=
  let l := ls2R xs 0 0 32
  let o := ows2R xs 8 l.2.1 l.2.2
  let e := endR xs o.2.1 o.2.2
  if e = 0 then (if rightSt (cellsS l.1 o.1) = true then (cellsS l.1 o.1, 0) else (zeroSt, 4)) else (zeroSt, e)
theorem ow_err {xs : List (List PD)} {a w : Int} (h : w ≠ 0) : (owR xs a w).2 = (a, w) := by
  unfold owR
  simp only [num_err h]
  rw [if_pos trivial]
theorem ows_err {xs : List (List PD)} {a w : Int} (h : w ≠ 0) : ∀ n : Nat, (owsR xs n a w).2 = (a, w)
  | 0 => rfl
  | n + 1 => by
      obtain ⟨⟨ps, b, u⟩, hq⟩ : ∃ q, owsR xs n a w = q := ⟨_, rfl⟩
      have ih := ows_err (xs := xs) (a := a) h n
      rw [hq] at ih
      cases ih
      rw [owsR_succ hq]
      exact ow_err h
theorem ow2_eq {xs : List (List PD)} {a w : Int} (hr : isRd xs a w) : (ow2R xs a w).2 = (owR xs a w).2 ∧ ((owR xs a w).2.2 = 0 → ow2R xs a w = owR xs a w) := by
  have h1 := num_rd hr
  rw [owR_eq]
  unfold ow2R
  simp only
  obtain ⟨⟨q, b, u⟩, hq⟩ : ∃ q, numR xs a w = q := ⟨_, rfl⟩
  rw [hq] at h1 ⊢
  simp only at h1 ⊢
  by_cases hz : q = 0
  · rw [if_neg (fun h => h.1 hz), if_pos hz]
    exact ⟨rfl, fun _ => rfl⟩
  · have hu : u = 0 := Classical.byContradiction fun h => hz (h1.2.1 h)
    rw [if_pos ⟨hz, hu⟩, if_neg hz]
    unfold ls2X lsX
    simp only
    have he := ls2R_eq xs (numR xs (textR xs (flagR xs (numR xs b u).2.1 (numR xs b u).2.2).2.1 (flagR xs (numR xs b u).2.1 (numR xs b u).2.2).2.2 64).2.1 (textR xs (flagR xs (numR xs b u).2.1 (numR xs b u).2.2).2.1 (flagR xs (numR xs b u).2.1 (numR xs b u).2.2).2.2 64).2.2).2.1 (numR xs (textR xs (flagR xs (numR xs b u).2.1 (numR xs b u).2.2).2.1 (flagR xs (numR xs b u).2.1 (numR xs b u).2.2).2.2 64).2.1 (textR xs (flagR xs (numR xs b u).2.1 (numR xs b u).2.2).2.1 (flagR xs (numR xs b u).2.1 (numR xs b u).2.2).2.2 64).2.2).2.2 8
    exact ⟨he.1, fun h => by rw [he.2 h]⟩
theorem ows2_eq {xs : List (List PD)} {a w : Int} (hr : isRd xs a w) : ∀ n : Nat, (ows2R xs n a w).2 = (owsR xs n a w).2 ∧ ((owsR xs n a w).2.2 = 0 → ows2R xs n a w = owsR xs n a w)
  | 0 => ⟨rfl, fun _ => rfl⟩
  | n + 1 => by
      obtain ⟨h1, h2⟩ := ows2_eq hr n
      have hrd := (owsR_rd hr n).1
      obtain ⟨⟨os, b, u⟩, hq⟩ : ∃ q, owsR xs n a w = q := ⟨_, rfl⟩
      rw [hq] at h1 h2 hrd
      have h3 := ow2_eq (show isRd xs b u from hrd)
      have e : ows2R xs (n + 1) a w = ((ows2R xs n a w).1 ++ [(ow2R xs (ows2R xs n a w).2.1 (ows2R xs n a w).2.2).1], (ow2R xs (ows2R xs n a w).2.1 (ows2R xs n a w).2.2).2) := rfl
      rw [owsR_succ hq, e, h1]
      refine ⟨h3.1, fun h => ?_⟩
      have hu : u = 0 := Classical.byContradiction fun hu => by
        have := ow_err (xs := xs) (a := b) hu
        simp only [this] at h
        exact hu h
      rw [h2 hu, h3.2 h]
theorem getSt2_eq {xs : List (List PD)} (h : isB8 xs) : getSt2 xs = getSt xs := by
  have h0 := rd0 h
  have h1 := lstR_rd h0 (most := 32) (by decide)
  have hl := ls2R_eq xs 0 0 32
  have ho := ows2_eq h1.1 8
  unfold getSt2 getSt
  simp only
  rw [hl.1, ho.1]
  by_cases he : endR xs (owsR xs 8 (lstR xs 0 0 32).2.1 (lstR xs 0 0 32).2.2).2.1 (owsR xs 8 (lstR xs 0 0 32).2.1 (lstR xs 0 0 32).2.2).2.2 = 0
  · have hw : (owsR xs 8 (lstR xs 0 0 32).2.1 (lstR xs 0 0 32).2.2).2.2 = 0 := by
      unfold endR at he
      split at he
      · omega
      · exact he
    have hw1 : (lstR xs 0 0 32).2.2 = 0 := Classical.byContradiction fun hu => by
      have := ows_err (xs := xs) (a := (lstR xs 0 0 32).2.1) hu 8
      rw [this] at hw
      exact hu hw
    rw [if_pos he, if_pos he, ho.2 hw, hl.2 hw1]
  · rw [if_neg he, if_neg he]
theorem ls2R_rd {xs : List (List PD)} {a w : Int} (h : isRd xs a w) {most : Int} (hm : 0 ≤ most) (hm2 : most ≤ 1000 := by decide) : isRd xs (ls2R xs a w most).2.1 (ls2R xs a w most).2.2 ∧ (ls2R xs a w most).1.length ≤ 4194304 := by
  have h1 := lstR_rd h hm
  have he := ls2R_eq xs a w most
  rw [he.1]
  refine ⟨h1.1, ?_⟩
  have h2 : (ls2R xs a w most).1.length ≤ (cntR xs a w most).1.toNat := ls2N_len xs _ _ _
  have h3 : (lstR xs a w most).1.length = (cntR xs a w most).1.toNat := (lstN_rd (cnt_rd most h).1 _).2.1
  have h4 := h1.2.1
  omega
theorem ow2R_rd {xs : List (List PD)} {a w : Int} (h : isRd xs a w) : isRd xs (ow2R xs a w).2.1 (ow2R xs a w).2.2 ∧ isP (ow2R xs a w).1.reply.pairs := by
  refine ⟨by rw [(ow2_eq h).1]; exact (owR_rd h).1, ?_⟩
  have h1 := num_rd h
  unfold ow2R
  simp only
  split
  · have h2 := num_rd h1.1
    have h4 := text_rd 64 (flag_rd h2.1)
    have h5 := num_rd h4
    exact ⟨_, rfl, (ls2R_rd h5.1 (most := 8) (by decide)).2⟩
  · exact isP.nil
theorem ows2R_rd {xs : List (List PD)} {a w : Int} (h : isRd xs a w) : ∀ n : Nat, isRd xs (ows2R xs n a w).2.1 (ows2R xs n a w).2.2 ∧ ∀ o ∈ (ows2R xs n a w).1, isP o.reply.pairs
  | 0 => ⟨h, by intro p hp; cases hp⟩
  | n + 1 => by
      obtain ⟨h1, h3⟩ := ows2R_rd h n
      have h4 := ow2R_rd h1
      refine ⟨h4.1, ?_⟩
      intro p hp
      simp only [ows2R, List.mem_append, List.mem_singleton] at hp
      rcases hp with hp | hp
      · exact h3 p hp
      · rw [hp]; exact h4.2
theorem ows2R_succ {xs : List (List PD)} {n : Nat} {a w b u : Int} {os : List Owner} (h : ows2R xs n a w = (os, b, u)) : ows2R xs (n + 1) a w = (os ++ [(ow2R xs b u).1], (ow2R xs b u).2) := by
  have e : ows2R xs (n + 1) a w = ((ows2R xs n a w).1 ++ [(ow2R xs (ows2R xs n a w).2.1 (ows2R xs n a w).2.2).1], (ow2R xs (ows2R xs n a w).2.1 (ows2R xs n a w).2.2).2) := rfl
  rw [e, h]
theorem ow2R_eq (xs : List (List PD)) (a w : Int) : ow2R xs a w = (let q := numR xs a w
  if ¬ q.1 = 0 ∧ q.2.2 = 0 then
    let y := numR xs q.2.1 q.2.2
    let f := flagR xs y.2.1 y.2.2
    let v := textR xs f.2.1 f.2.2 64
    let n := numR xs v.2.1 v.2.2
    let l := ls2X xs n.2.1 n.2.2 8
    (⟨q.1, ⟨y.1, f.1, v.1, n.1, l.1⟩⟩, l.2)
  else (⟨q.1, zeroRep⟩, q.2)) := by
  unfold ow2R
  simp only
theorem closedL_app : ∀ (es bs : List DV), closedL 0 (es ++ bs) = (closedL 0 es && closedL 0 bs)
  | [], bs => by simp [closedL]
  | a :: es, bs => by simp only [List.cons_append, closedL, closedL_app es bs, Bool.and_assoc]
theorem clo_mid {P Q Q' S : List DV} (h : closedL 0 (P ++ (Q ++ S)) = true) (h2 : closedL 0 Q' = true) : closedL 0 (P ++ (Q' ++ S)) = true := by
  rw [closedL_app, closedL_app] at h ⊢
  simp only [Bool.and_eq_true] at h ⊢
  exact ⟨h.1, h2, h.2.2⟩
theorem UpL.app : ∀ {es bs cs : List DV}, UpL bs cs → UpL (es ++ bs) (es ++ cs)
  | [], _, _, h => h
  | _ :: _, _, _, h => UpL.keep (UpL.app h)
theorem splice_six {P Q Q' S : List DV} {o : Nat} (ho : o = P.length) (h1 : Q.length = 6) (h2 : Q'.length = 6) : splice (P ++ (Q ++ S)) o Q' = P ++ (Q' ++ S) := by
  subst ho
  simp [splice, h2, ← h1]
set_option maxRecDepth 1000000 in
theorem v_getS2 (xs : List (List PD)) (hp0 : isB8 xs) : FnV Try.prog 33 [.d (.slc 1 xs)] (.tup [.agg (getSt2 xs).1, .d (.sc (.int .i64 (getSt2 xs).2))]) := by
  obtain ⟨GFsC2, hFsC2⟩ : ∃ F, F = FsC20 := ⟨_, rfl⟩
  obtain ⟨GFsSr, hFsSr⟩ : ∃ F, F = FsSr0 := ⟨_, rfl⟩
  obtain ⟨GFsGl, hFsGl⟩ : ∃ F, F = FsGl0 := ⟨_, rfl⟩
  obtain ⟨GFsRr, hFsRr⟩ : ∃ F, F = FsRr0 := ⟨_, rfl⟩
  have hH : SoundK Try.prog [kn_rightR2 GFsC2] := by subst hFsC2 hFsSr hFsGl hFsRr; exact orK_ok ok_rightR2 noK_ok
  have hB : SoundB Try.prog [kb_rRead GFsSr, kb_getPairs GFsGl, kb_rNum GFsRr, kb_rFlag GFsRr, kb_rText GFsRr, kb_rEnd GFsRr] := by subst hFsC2 hFsSr hFsGl hFsRr; exact orB_ok okb_rRead (orB_ok okb_getPairs (orB_ok okb_rNum (orB_ok okb_rFlag (orB_ok okb_rText (orB_ok okb_rEnd noB_ok)))))
  refine FnD_cbv (T := fun _ => tabY [54, 1002, 1005, 1059, 1064, 1065, 5004] []) (H := fun _ => [kn_rightR2 GFsC2]) (tabY_ok _ _) hH follows_mixed Try.func33 rfl Try.ntmps33 (by simp) fun A X W hA hX hW => ?_
  cbv
  obtain ⟨z, hz⟩ : ∃ z, z = DV.d (.sc (.slice none 0 0)) :: Z48 := ⟨_, rfl⟩
  have h0 := rd0 hp0
  have hup : ∀ xl : List (List PD), UpL (.d (.slc 3 xl) :: Z48) (.d (.slc 3 xl) :: ownsD (List.replicate 8 ⟨0, zeroRep⟩)) := fun xl => by
    have e : upCs (.d (.slc 3 xl) :: Z48) = .d (.slc 3 xl) :: ownsD (List.replicate 8 ⟨0, zeroRep⟩) := rfl
    rw [← e]
    exact upL_upCs _
  have hup0 : UpL (DV.d (.sc (.slice none 0 0)) :: Z48) zeroSt := by
    have e : upCs (DV.d (.sc (.slice none 0 0)) :: Z48) = zeroSt := rfl
    rw [← e]
    exact upL_upCs _
  obtain ⟨⟨pl, b0, u0⟩, hq⟩ : ∃ q, ls2R xs 0 0 32 = q := ⟨_, rfl⟩
  have hl := ls2R_rd h0 (most := 32) (by decide)
  rw [hq] at hl
  have hr0 : isRd xs b0 u0 := hl.1
  have hpn : pl.length ≤ 4194304 := hl.2
  obtain ⟨xl, hxl⟩ : ∃ xl, xl = pairsX pl := ⟨_, rfl⟩
  have eq1 : GFsGl.list2 xs 0 0 32 = (xl, b0, u0) := by subst hFsGl; show ls2X xs 0 0 32 = _; unfold ls2X; rw [hq, hxl]
  cbv at eq1
  refine callB hX hB ?_
  cbv
  refine ⟨by subst hFsSr; exact hp0, ?_⟩
  refine callB hX hB ?_
  cbv
  refine ⟨by subst hFsGl; exact h0, by subst hFsGl; exact ⟨by decide, by decide⟩, ?_⟩
  simp only [eq1]
  refine loopL (T := fun _ => tabY [54, 1002, 1005, 1059, 1064, 1065, 5004] []) (H := fun _ => [kn_rightR2 GFsC2]) (tabY_ok _ _) hH follows_mixed hA hX (fun x : Int × Int × Int × List DV => (0 ≤ x.1 ∧ x.1 ≤ 8) ∧ ∃ os, x.2.2.2 = ownsD os ∧ ows2R xs x.1.toNat b0 u0 = (os.take x.1.toNat, x.2.1, x.2.2.1) ∧ os.length = 8 ∧ os.drop x.1.toNat = List.replicate (8 - x.1.toNat) ⟨0, zeroRep⟩)
    (fun x => [(2, .ref 0 0 0), (4, .ref 1 0 0), (5, .ref 2 0 0), (6, .d (.sc (.int .i64 x.1)))]) (fun x => [⟨34, z, false, 0, true⟩, rdB 90 xs x.2.1 x.2.2.1, ⟨34, .d (.slc 3 xl) :: x.2.2.2, false, 0, true⟩])
    (fun x => 8 - x.1.toNat) (0, b0, u0, ownsD (List.replicate 8 ⟨0, zeroRep⟩)) ?_ ?_ ?_
  · exact ⟨⟨by simp only; omega, by simp only; omega⟩, _, rfl, rfl, rfl, rfl⟩
  · subst hz
    exact told_upst ⟨_, _, rfl, ⟨rfl, rfl, rfl, rfl, UpL.refl fun a _ => UpD.refl a⟩, _, _, rfl, ⟨rfl, rfl, rfl, rfl, UpL.refl fun a _ => UpD.refl a⟩, _, _, rfl, ⟨rfl, rfl, rfl, rfl, hup xl⟩, rfl⟩ ⟨.inl (UpD.refl _), .inl (UpD.refl _), .inl (UpD.refl _), .inl (UpD.refl _), trivial⟩
  rintro R ⟨i, b, u, cs⟩ hR ⟨hi, hls⟩
  replace hi : 0 ≤ i ∧ i ≤ 8 := hi
  obtain ⟨os, hcs, hls, ho8, hod⟩ := hls
  replace hcs : cs = ownsD os := hcs
  replace hls : ows2R xs i.toNat b0 u0 = (os.take i.toNat, b, u) := hls
  replace hod : os.drop i.toNat = List.replicate (8 - i.toNat) ⟨0, zeroRep⟩ := hod
  have hrd : isRd xs b u := by have := (ows2R_rd hr0 i.toNat).1; rw [hls] at this; exact this
  cbv
  refine part (fun h => ?_) (fun h => ?_)
  · cbv
    have hi8 : i < 8 := by subst hA; simpa [A0] using h
    have hin : i.toNat < os.length := by omega
    have hoz : os[i.toNat]'hin = ⟨0, zeroRep⟩ := by
      have h1 := List.drop_eq_getElem_cons hin
      rw [hod, show 8 - i.toNat = (7 - i.toNat) + 1 by omega, List.replicate_succ] at h1
      exact (List.cons.inj h1).1.symm
    obtain ⟨P, hP, hPl, S, hdec, hset⟩ := own_dec (.d (.slc 3 xl)) hcs i.toNat hin
    rw [hoz] at hdec
    replace hdec : DV.d (.slc 3 xl) :: cs = P ++ (zero6 ++ S) := hdec
    have hsu := ows2R_succ hls
    have hrw := ow2R_eq xs b u
    have k6 : ∀ a0 a1 a2 a3 a4 a5 : DV, splice (P ++ (zero6 ++ S)) (1 + i.toNat * 6) [a0, a1, a2, a3, a4, a5] = P ++ ([a0, a1, a2, a3, a4, a5] ++ S) := fun a0 a1 a2 a3 a4 a5 => splice_six (by omega) rfl rfl
    have hzp : pullL [0, 1, 2] z = z := by rw [hz]; exact pullL_closed _ _ rfl
    repeat' first
      | (refine part (fun h2 => ?_) (fun h2 => ?_) <;> try cbv)
      | (refine And.intro ?_ ?_)
      | (with_reducible refine callB hX hB ?_) <;> cbv
    all_goals subst hA hX hW hR hFsRr hFsGl hFsC2 hFsSr
    all_goals clear hH hB
    all_goals try rw [hdec]
    all_goals simp only [A0, nc, FsRr0, FsGl0, decide_eq_true_eq, decide_eq_false_iff_not] at *
    all_goals have x1 := num_rd hrd
    all_goals generalize numR xs b u = q1 at *
    all_goals obtain ⟨n1, b1, u1⟩ := q1
    all_goals try simp only at *
    all_goals have x2 := num_rd x1.1
    all_goals generalize numR xs b1 u1 = q2 at *
    all_goals obtain ⟨n2, b2, u2⟩ := q2
    all_goals try simp only at *
    all_goals have x3 := flag_rd x2.1
    all_goals generalize flagR xs b2 u2 = q3 at *
    all_goals obtain ⟨n3, b3, u3⟩ := q3
    all_goals try simp only at *
    all_goals have x4 := text_rd 64 x3
    all_goals generalize textR xs b3 u3 64 = q4 at *
    all_goals obtain ⟨n4, b4, u4⟩ := q4
    all_goals try simp only at *
    all_goals have x5 := num_rd x4
    all_goals generalize numR xs b4 u4 = q5 at *
    all_goals obtain ⟨n5, b5, u5⟩ := q5
    all_goals try simp only at *
    all_goals generalize ls2X xs b5 u5 8 = q6 at *
    all_goals obtain ⟨n6, b6, u6⟩ := q6
    all_goals try simp only at *
    all_goals try simp only [k6]
    all_goals first
      | assumption
      | exact id
      | (intro _; exact trivial)
      | exact x1.1
      | exact x2.1
      | exact x3
      | exact x4
      | exact x5.1
      | exact ⟨hi.1, hi8⟩
      | exact ⟨by decide, by decide⟩
      | (intro hq; simpa using hq)
      | (simp only [List.length_append, List.length_cons, List.length_nil, zero6, hPl]; omega)
      | skip
    all_goals have ei : IntKind.wrap .i64 (i + 1) = i + 1 := wrap_i64 (by unfold r64; omega)
    all_goals obtain ⟨o, ho⟩ : ∃ o, o = ow2R xs b u := ⟨_, rfl⟩
    all_goals have how := hrw
    all_goals rw [← ho] at how
    all_goals rw [← ho] at hsu
    · have hc : ¬ n1 = 0 ∧ u1 = 0 := by
        by_cases q : n1 = 0
        · simp [q] at h2
        · exact ⟨q, by simpa [q] using h2⟩
      rw [if_pos hc] at how
      obtain ⟨y1, y2⟩ := own_next ⟨n1, ⟨n2, n3, n4, n5, n6⟩⟩ ho8 (show i.toNat < 8 by omega) hod
      refine ⟨(i + 1, b6, u6, ownsD (os.set i.toNat ⟨n1, ⟨n2, n3, n4, n5, n6⟩⟩)), ⟨⟨by simp only; omega, by simp only; omega⟩, os.set i.toNat ⟨n1, ⟨n2, n3, n4, n5, n6⟩⟩, rfl, ?_, by rw [List.length_set]; exact ho8, ?_⟩, by simp only; omega, told_keep [0, 1, 2] rfl ?_ ?_⟩
      · simp only
        rw [show (i + 1).toNat = i.toNat + 1 by omega, hsu, how, y1]
      · simp only
        rw [show (i + 1).toNat = i.toNat + 1 by omega]
        exact y2
      · have hc1 : pullL [0, 1, 2] (.d (.slc 3 xl) :: ownsD (os.set i.toNat ⟨n1, ⟨n2, n3, n4, n5, n6⟩⟩)) = .d (.slc 3 xl) :: ownsD (os.set i.toNat ⟨n1, ⟨n2, n3, n4, n5, n6⟩⟩) := pullL_closed _ _ (own_clo _)
        rw [hset] at hc1
        simp only
        rw [hset]
        simp [keepSt, pullBox, hzp, pullL, pullD]
        exact hc1.symm
      · simp [toldP, getS, pullD, ei]
        try exact ⟨rfl, rfl, rfl⟩
    · have hc : ¬ (¬ n1 = 0 ∧ u1 = 0) := by
        intro q
        simp [q.1, q.2] at h2
      rw [if_neg hc] at how
      obtain ⟨y1, y2⟩ := own_next ⟨n1, zeroRep⟩ ho8 (show i.toNat < 8 by omega) hod
      refine ⟨(i + 1, b1, u1, ownsD (os.set i.toNat ⟨n1, zeroRep⟩)), ⟨⟨by simp only; omega, by simp only; omega⟩, os.set i.toNat ⟨n1, zeroRep⟩, rfl, ?_, by rw [List.length_set]; exact ho8, ?_⟩, by simp only; omega, Told.trans (s' := [(2, .ref 0 0 0), (4, .ref 1 0 0), (5, .ref 2 0 0), (6, .d (.sc (.int .i64 (i + 1))))]) (told_keep [0, 1, 2] rfl rfl ?_) (told_upst ⟨_, _, rfl, ⟨rfl, rfl, rfl, rfl, ?_⟩, _, _, rfl, ⟨rfl, rfl, rfl, rfl, UpL.refl fun a _ => UpD.refl a⟩, _, _, rfl, ⟨rfl, rfl, rfl, rfl, ?_⟩, rfl⟩ ⟨.inl (UpD.refl _), .inl (UpD.refl _), .inl (UpD.refl _), .inl (UpD.refl _), trivial⟩)⟩
      · simp only
        rw [show (i + 1).toNat = i.toNat + 1 by omega, hsu, how, y1]
      · simp only
        rw [show (i + 1).toNat = i.toNat + 1 by omega]
        exact y2
      · simp [toldP, getS, pullD, ei]
        try exact ⟨rfl, rfl, rfl⟩
      · show UpL (pullL [0, 1, 2] z) z
        rw [hzp]
        exact UpL.refl fun a _ => UpD.refl a
      · have hc0 : closedL 0 (P ++ (zero6 ++ S)) = true := by rw [← hdec, hcs]; exact own_clo _
        show UpL (pullL [0, 1, 2] (P ++ ([.d (.sc (.int .i64 n1)), .d (.sc (.int .i64 0)), .d (.sc (.bool false)), .d (.sc (.string none8)), .d (.sc (.int .i64 0)), .d (.sc (.slice none 0 0))] ++ S))) (.d (.slc 3 xl) :: ownsD (os.set i.toNat ⟨n1, zeroRep⟩))
        rw [pullL_closed _ _ (clo_mid hc0 (by rfl)), hset]
        exact UpL.app (UpL.keep (UpL.keep (UpL.keep (UpL.keep (UpL.keep (UpL.nil (UpL.refl fun a _ => UpD.refl a)))))))
  · cbv
    have hi8 : i = 8 := by
      subst hA
      simp only [A0, decide_eq_false_iff_not] at h
      replace h : ¬ i < 8 := h
      omega
    subst hi8
    have hto : os.take (Int.toNat 8) = os := List.take_of_length_le (by show os.length ≤ 8; omega)
    rw [hto] at hls
    replace hls : ows2R xs 8 b0 u0 = (os, b, u) := hls
    have hgs : getSt2 xs = (if endR xs b u = 0 then (if rightSt (.d (.slc 3 xl) :: cs) = true then (.d (.slc 3 xl) :: cs, 0) else (zeroSt, 4)) else (zeroSt, endR xs b u)) := by
      unfold getSt2
      simp only [hq, hls]
      rw [hxl, hcs]
      rfl
    have hP : isP xl := by rw [hxl]; exact ⟨pl, rfl, hpn⟩
    have hO : isOwn cs := ⟨os, ho8, hcs, fun o ho => by
      have h9 := (ows2R_rd hr0 8).2
      rw [hls] at h9
      exact h9 o ho⟩
    have hst := isSt.mk hP hO
    have hcl := hO.len
    have hzl : z.length = 49 := by rw [hz]; rfl
    repeat' first
      | (refine part (fun h2 => ?_) (fun h2 => ?_) <;> try cbv)
      | (refine And.intro ?_ ?_)
      | (with_reducible refine callB hX hB ?_) <;> cbv
    all_goals subst hA hX hW hR hFsRr hFsGl hFsC2 hFsSr
    all_goals clear hH hB
    all_goals simp only [A0, nc, FsRr0, FsGl0, FsC20, decide_eq_true_eq, decide_eq_false_iff_not] at *
    all_goals first
      | assumption
      | (simp [hcl, hzl]; done)
      | skip
    · have he : ¬ endR xs b u = 0 := by simpa using h2
      rw [hgs, if_neg he]
      exact ret_up ⟨_, rfl, UpL.agg hup0 (UpL.keep UpL.done)⟩ rfl
    · rename_i h3
      have he : endR xs b u = 0 := by simpa using h3
      have hr : ¬ rightSt (.d (.slc 3 xl) :: cs) = true := by simpa using h2
      rw [hgs, if_pos he, if_neg hr]
      exact ret_up ⟨_, rfl, UpL.agg hup0 (UpL.keep UpL.done)⟩ rfl
    · rename_i h3
      have he : endR xs b u = 0 := by simpa using h3
      have hr : rightSt (.d (.slc 3 xl) :: cs) = true := by simpa using h2
      have hclo := hst.closed
      rw [hgs, if_pos he, if_pos hr]
      refine ret_v rfl ?_
      show (closedL 0 (DV.d (.slc 3 xl) :: cs) && true) = true
      rw [hclo]
      rfl
theorem v_getS3 (xs : List (List PD)) (hp0 : isB8 xs) : FnV Try.prog 33 [.d (.slc 1 xs)] (.tup [.agg (getSt xs).1, .d (.sc (.int .i64 (getSt xs).2))]) := by
  rw [← getSt2_eq hp0]
  exact v_getS2 xs hp0
structure FsGr where
  getS3 : List (List PD) → List DV × Int
  isB : List (List PD) → Prop
noncomputable def FsGr0 : FsGr where
  getS3 := getSt
  isB := isB8
def kn_getS3 (F : FsGr) : FuncId × (List DV → RV) := (33, fun args => match args with
  | [.d (.slc 1 xs)] => some ([F.isB xs], .tup [.agg (((F.getS3 xs)).1), intD (((F.getS3 xs)).2)])
  | [.d (.sc (.slice none 0 0))] => some ([F.isB []], .tup [.agg (((F.getS3 [])).1), intD (((F.getS3 [])).2)])
  | _ => none)
theorem ok_getS3 (args : List DV) (cs : List Prop) (r : DV) (h : (kn_getS3 FsGr0).2 args = some (cs, r)) (hc : allP cs True) : FnV Try.prog 33 args r ∧ closedL 0 args = true := by
  unfold kn_getS3 at h
  simp only at h
  split at h
  · cases h; exact ⟨v_getS3 _ hc.1, rfl⟩
  · cases h; exact ⟨FnP.nils (v_getS3 [] hc.1) ⟨.inr ⟨rfl, _, rfl⟩, trivial⟩, rfl⟩
  · cases h
end Go.Proofs.Ytghkcmgiagodlaa
namespace Go.Proofs.Ytghkcmgiagodlaa
open Go.RowKit
set_option linter.all false
def mark1 (m : Int) : List PD := [.sc (.int .u8 m)]
def roomyX (xs : List (List PD)) (m : Int) : List (List PD) := xs ++ List.replicate 80 (mark1 m)
/-- The cells, when so many places of the room are marked. -/
def roomC (xs : List (List PD)) (m : Int) (k : Nat) : List DV := rowsD xs ++ rowsD (List.replicate k (mark1 m)) ++ rowsD (List.replicate (80 - k) (mark1 0))
theorem told_stM {k : Nat} {s s' : SL} {st st' : Store} (h : st = st') (hs : toldP id s s') : Told k s st s' st' := by subst h; exact told_less hs
theorem rowsD_rep (n : Nat) (p : PD) : rowsD (List.replicate n [p]) = List.replicate n (.d p) := by
  induction n with
  | zero => rfl
  | succ n ih => rw [List.replicate_succ, List.replicate_succ, ← ih]; rfl
theorem room0 {xs : List (List PD)} {m : Int} (h : (rowsD xs).length = xs.length) : splice (List.replicate ((xs.length : Int) + 80).toNat [DV.d (.sc (.int .u8 0))]).flatten 0 (rowsD xs) = roomC xs m 0 := by
  have e : (List.replicate ((xs.length : Int) + 80).toNat [DV.d (.sc (.int .u8 0))]).flatten = List.replicate (xs.length + 80) (DV.d (.sc (.int .u8 0))) := by
    rw [show ((xs.length : Int) + 80).toNat = xs.length + 80 by omega]
    simp
  rw [e]
  simp only [splice, roomC, mark1, rowsD_rep, h]
  simp
theorem splice_oneM (P Q : List DV) (z d : DV) (o : Nat) (h : o = P.length) : splice (P ++ z :: Q) o [d] = P ++ d :: Q := by
  subst h
  simp [splice]
theorem roomS {xs : List (List PD)} {m : Int} {k : Nat} (h : (rowsD xs).length = xs.length) (hk : k < 80) : splice (roomC xs m k) (0 + (xs.length + k) * 1) [DV.d (.sc (.int .u8 m))] = roomC xs m (k + 1) := by
  simp only [roomC, mark1, rowsD_rep]
  have e : 80 - k = (80 - (k + 1)) + 1 := by omega
  rw [e, List.replicate_succ, splice_oneM _ _ _ _ _ (by simp [h]), List.replicate_succ']
  simp
theorem roomC_len {xs : List (List PD)} {m : Int} {k : Nat} (h : (rowsD xs).length = xs.length) (hk : k ≤ 80) : (roomC xs m k).length = xs.length + 80 := by
  simp only [roomC, mark1, rowsD_rep, List.length_append, List.length_replicate, h]
  omega
theorem roomE {xs : List (List PD)} {m : Int} : roomC xs m 80 = rowsD (roomyX xs m) := by
  simp [roomC, roomyX, rowsD_append, rowsD]
def isM (m : Int) : Prop := ∃ b : UInt8, m = (b.toNat : Int)
set_option maxRecDepth 100000 in
theorem v_roomy (xs : List (List PD)) (m : Int) (hp0 : isB xs) (hp1 : isM m) : FnV Try.prog 18 [.d (.slc 1 xs), .d (.sc (.int .u8 m))] (.d (.slc 1 (roomyX xs m))) := by
  obtain ⟨bs, hxs, hb⟩ := hp0
  have hl : xs.length = bs.length := by rw [hxs]; exact bytesP_length bs
  have hH : SoundK Try.prog [] := by exact noK_ok
  have hB : SoundB Try.prog [] := by exact noB_ok
  refine FnD_cbv (T := fun _ => tabY [25] []) (H := fun _ => []) (tabY_ok _ _) hH follows_mixed Try.func18 rfl Try.ntmps18 (by simp) fun A X W hA hX hW => ?_
  cbv
  obtain ⟨N, hN⟩ : ∃ N, N = xs.length + 80 := ⟨_, rfl⟩
  have e1 : IntKind.wrap .i64 ((xs.length : Int) + 80) = xs.length + 80 := wrap_i64 (by unfold r64; omega)
  have hsz : (rowsD xs).length = xs.length := by rw [hxs, rowsB_length, bytesP_length]
  refine And.intro ?_ (And.intro ?_ (And.intro ?_ (And.intro ?_ ?_)))
  · subst hA; simp only [A0]; rw [e1]; omega
  · subst hA; simp only [A0]
  · subst hA; simp only [A0]; rw [e1]; omega
  · subst hA; simp only [A0]; rw [e1]; simp [hsz]; omega
  refine loopL (T := fun _ => tabY [25] []) (H := fun _ => []) (tabY_ok _ _) hH follows_mixed hA hX (fun x : List DV × Int => ∃ k : Nat, x.1 = roomC xs m k ∧ x.2 = xs.length + k ∧ k ≤ 80)
    (fun x => [(0, .d (.slc 1 xs)), (1, .d (.sc (.int .u8 m))), (5, .view 1 0 0 0 N), (6, .d (.sc (.int .i64 x.2)))]) (fun x => [⟨5, x.1, false, 0, true⟩])
    (fun x => 80 + xs.length - x.2.toNat) (roomC xs m 0, (xs.length : Int)) ?_ ?_ ?_
  · exact ⟨0, rfl, by simp, by omega⟩
  · subst hA
    refine told_stM ?_ ?_
    · simp only [A0]
      rw [e1, room0 (m := m) hsz]
      simp
    · simp only [A0]
      rw [e1]
      simp [toldP, getS, hN]
      omega
  rintro R ⟨cells, i⟩ hR hinv
  cbv
  repeat' first
    | (refine part (fun h => ?_) (fun h => ?_) <;> try cbv)
    | (refine And.intro ?_ ?_)
  all_goals subst hR hA hX hW
  all_goals clear hH hB
  all_goals replace hinv : ∃ k : Nat, cells = roomC xs m k ∧ i = xs.length + k ∧ k ≤ 80 := hinv
  all_goals obtain ⟨k, hc, hi, hk⟩ := hinv
  all_goals simp only [A0, decide_eq_true_eq, decide_eq_false_iff_not] at *
  all_goals have hcl := roomC_len (m := m) hsz hk
  all_goals first
    | omega
    | (rw [hc, hcl]; omega)
    | (have hk8 : k < 80 := by omega
       have ei : IntKind.wrap .i64 (i + 1) = i + 1 := wrap_i64 (by unfold r64; omega)
       have ej : i.toNat = xs.length + k := by omega
       refine ⟨(roomC xs m (k + 1), i + 1), ⟨k + 1, rfl, (by show i + 1 = (xs.length : Int) + ((k + 1 : Nat) : Int); omega), by omega⟩, (by show 80 + xs.length - (i + 1).toNat < 80 + xs.length - i.toNat; omega), told_stM (s := _) ?_ ?_⟩
       · rw [hc, ej, roomS hsz hk8]
       · simp [toldP, getS, ei])
    | (have hk8 : k = 80 := by omega
       subst hk8
       refine ret_slice rfl rfl rfl ?_ (by rw [hc]; exact roomE) ?_ rfl
       · simp [roomyX, hN]
       · intro x hx
         simp only [roomyX, List.mem_append, List.mem_replicate] at hx
         rcases hx with hx | ⟨_, rfl⟩
         · rw [hxs] at hx; exact bytesP_sz bs x hx
         · rfl)
def roomP (full xs : List (List PD)) (m : Int) : Prop := full = roomyX xs m
theorem roomy_row {xs : List (List PD)} {m i : Int} (h0 : (xs.length : Int) ≤ i) (h1 : i < xs.length + 80) : (roomyX xs m).getD i.toNat [] = mark1 m := by
  rw [roomyX, List.getD_eq_getElem?_getD, List.getElem?_append_right (by omega), List.getElem?_replicate, if_pos (by omega)]
  rfl
theorem roomy_len (xs : List (List PD)) (m : Int) : (roomyX xs m).length = xs.length + 80 := by simp [roomyX]
theorem roomy_take (xs : List (List PD)) (m : Int) : ((roomyX xs m).drop 0).take xs.length = xs := by simp [roomyX]
theorem isB_lenM {xs : List (List PD)} (h : isB xs) : xs.length ≤ 8000000 := by
  obtain ⟨bs, rfl, hb⟩ := h
  rw [bytesP_length]; exact hb
set_option maxRecDepth 100000 in
theorem v_intact (full xs : List (List PD)) (m : Int) (hp0 : isB xs) (hp1 : full = roomyX xs m) (hp2 : isM m) : FnV Try.prog 20 [.d (.slc 1 full), .d (.slc 1 xs), .d (.sc (.int .u8 m))] (boolD true) := by
  have hb := isB_lenM hp0
  have hl : full.length = xs.length + 80 := by rw [hp1, roomy_len]
  obtain ⟨GFsPq, hFsPq⟩ : ∃ F, F = FsPq0 := ⟨_, rfl⟩
  have hH : SoundK Try.prog [kn_sameB GFsPq] := by subst hFsPq; exact orK_ok ok_sameB noK_ok
  have hB : SoundB Try.prog [] := by subst hFsPq; exact noB_ok
  refine FnD_cbv (T := fun _ => tabY [33] []) (H := fun _ => [kn_sameB GFsPq]) (tabY_ok _ _) hH follows_mixed Try.func20 rfl Try.ntmps20 (by simp) fun A X W hA hX hW => ?_
  cbv
  have e1 : IntKind.wrap .i64 ((xs.length : Int) + 80) = xs.length + 80 := wrap_i64 (by unfold r64; omega)
  have ht : (full.drop 0).take xs.length = xs := by rw [hp1]; exact roomy_take xs m
  have hs : sameB xs xs = true := by simp [sameB]
  repeat' first
    | (refine And.intro ?_ ?_)
  rotate_right 1
  refine part (fun h => ?_) (fun h => ?_)
  · exfalso
    subst hA hFsPq
    simp only [A0, FsPq0] at h
    simp [hl, e1, hs, hp1, roomyX] at h
    try omega
  cbv
  refine loopL (T := fun _ => tabY [33] []) (H := fun _ => [kn_sameB GFsPq]) (tabY_ok _ _) hH follows_mixed hA hX (fun i : Int => (xs.length : Int) ≤ i ∧ i ≤ xs.length + 80)
    (fun i => [(0, .d (.slc 1 full)), (1, .d (.slc 1 xs)), (2, .d (.sc (.int .u8 m))), (7, .d (.sc (.int .i64 i)))]) (fun _ => [])
    (fun i => 80 + xs.length - i.toNat) (xs.length : Int) ?_ ?_ ?_
  · exact ⟨by omega, by omega⟩
  · subst hA
    exact told_less (by simp [toldP, getS, A0])
  rintro R i hR ⟨i0, i1⟩
  cbv
  repeat' first
    | (refine part (fun h => ?_) (fun h => ?_) <;> try cbv)
    | (refine And.intro ?_ ?_)
    | (with_reducible refine callB hX hB ?_) <;> cbv
  all_goals try subst hR
  all_goals subst hA hX hW hFsPq
  all_goals clear hH hB
  all_goals simp only [A0, FsPq0, decide_eq_true_eq, decide_eq_false_iff_not, Bool.not_eq_true', Bool.not_eq_false'] at *
  all_goals try replace i0 : (xs.length : Int) ≤ i := i0
  all_goals try replace i1 : i ≤ (xs.length : Int) + 80 := i1
  all_goals first
    | assumption
    | omega
    | (rw [hp1, roomy_row i0 (by omega)]; simp [mark1]; done)
    | (exfalso; rw [hp1, roomy_row i0 (by omega)] at h; simp [mark1] at h; done)
    | exact ret_v rfl rfl
    | (have ei : IntKind.wrap .i64 (i + 1) = i + 1 := wrap_i64 (by unfold r64; omega)
       refine ⟨i + 1, (by show (xs.length : Int) ≤ i + 1 ∧ i + 1 ≤ (xs.length : Int) + 80; omega), (by show 80 + xs.length - (i + 1).toNat < 80 + xs.length - i.toNat; omega), told_less ?_⟩
       simp [toldP, getS, ei])
    | (intros; first | assumption | trivial | (simp_all; done) | (rw [show ((xs.length : Int)).toNat - Int.toNat 0 = xs.length by omega]; rw [show Int.toNat 0 = 0 from rfl, ht]; assumption) | (refine ⟨?_, ?_, ?_⟩ <;> omega))
structure FsUm where
  roomy : List (List PD) → Int → List (List PD)
  roomP : List (List PD) → List (List PD) → Int → Prop
  isB : List (List PD) → Prop
  isM : Int → Prop
  intact : List (List PD) → List (List PD) → Int → Bool
def FsUm0 : FsUm where
  roomy := roomyX
  roomP := roomP
  isB := isB
  isM := isM
  intact := fun _ _ _ => true
def kn_roomy (F : FsUm) : FuncId × (List DV → RV) := (18, fun args => match args with
  | [.d (.slc 1 xs), .d (.sc (.int .u8 m))] => some ([F.isB xs, F.isM m], .d (.slc 1 (F.roomy xs m)))
  | [.d (.sc (.slice none 0 0)), .d (.sc (.int .u8 m))] => some ([F.isB [], F.isM m], .d (.slc 1 (F.roomy [] m)))
  | _ => none)
theorem ok_roomy (args : List DV) (cs : List Prop) (r : DV) (h : (kn_roomy FsUm0).2 args = some (cs, r)) (hc : allP cs True) : FnV Try.prog 18 args r ∧ closedL 0 args = true := by
  unfold kn_roomy at h
  simp only at h
  split at h
  · cases h; exact ⟨v_roomy _ _ hc.1 hc.2.1, rfl⟩
  · cases h; exact ⟨FnP.nils (v_roomy [] _ hc.1 hc.2.1) ⟨.inr ⟨rfl, _, rfl⟩, ⟨.inl rfl, trivial⟩⟩, rfl⟩
  · cases h
def kn_intact (F : FsUm) : FuncId × (List DV → RV) := (20, fun args => match args with
  | [.d (.slc 1 full), .d (.slc 1 xs), .d (.sc (.int .u8 m))] => some ([F.isB xs, F.roomP full xs m, F.isM m], boolD ((F.intact full xs m)))
  | [.d (.sc (.slice none 0 0)), .d (.slc 1 xs), .d (.sc (.int .u8 m))] => some ([F.isB xs, F.roomP [] xs m, F.isM m], boolD ((F.intact [] xs m)))
  | [.d (.slc 1 full), .d (.sc (.slice none 0 0)), .d (.sc (.int .u8 m))] => some ([F.isB [], F.roomP full [] m, F.isM m], boolD ((F.intact full [] m)))
  | [.d (.sc (.slice none 0 0)), .d (.sc (.slice none 0 0)), .d (.sc (.int .u8 m))] => some ([F.isB [], F.roomP [] [] m, F.isM m], boolD ((F.intact [] [] m)))
  | _ => none)
theorem ok_intact (args : List DV) (cs : List Prop) (r : DV) (h : (kn_intact FsUm0).2 args = some (cs, r)) (hc : allP cs True) : FnV Try.prog 20 args r ∧ closedL 0 args = true := by
  unfold kn_intact at h
  simp only at h
  split at h
  · cases h; exact ⟨v_intact _ _ _ hc.1 hc.2.1 hc.2.2.1, rfl⟩
  · cases h; exact ⟨FnP.nils (v_intact [] _ _ hc.1 hc.2.1 hc.2.2.1) ⟨.inr ⟨rfl, _, rfl⟩, ⟨.inl rfl, ⟨.inl rfl, trivial⟩⟩⟩, rfl⟩
  · cases h; exact ⟨FnP.nils (v_intact _ [] _ hc.1 hc.2.1 hc.2.2.1) ⟨.inl rfl, ⟨.inr ⟨rfl, _, rfl⟩, ⟨.inl rfl, trivial⟩⟩⟩, rfl⟩
  · cases h; exact ⟨FnP.nils (v_intact [] [] _ hc.1 hc.2.1 hc.2.2.1) ⟨.inr ⟨rfl, _, rfl⟩, ⟨.inr ⟨rfl, _, rfl⟩, ⟨.inl rfl, trivial⟩⟩⟩, rfl⟩
  · cases h
end Go.Proofs.Ytghkcmgiagodlaa
namespace Go.Proofs.Ytghkcmgiagodlaa
open Go.RowKit
set_option linter.all false
set_option maxHeartbeats 8000000
set_option maxRecDepth 100000 in
theorem w_rnumE (bs : List UInt8) (xs : List (List PD)) (n : Int) (hxs : xs = bytesP bs) (hb : bs.length ≤ 8000000) (hp1 : r64 n) : FnD Try.prog 45 [.d (.slc 1 xs), intD n] [] (fun r st' => ∃ v cs m, cs = rowsD (bytesP (bs ++ numB n)) ∧ m = (bs ++ numB n).length ∧ v = 1 + (numB n).length ∧ r = .view 1 0 v 0 m ∧ st' = [⟨5, cs, true, v, true⟩]) := by
  obtain ⟨GFsW, hFsW⟩ : ∃ F, F = FsW0 := ⟨_, rfl⟩
  have hH : SoundK Try.prog [kn_zig2 GFsW] := by subst hFsW; exact orK_ok ok_zig2 noK_ok
  have hB : SoundB Try.prog [] := by subst hFsW; exact noB_ok
  refine FnD_cbv (T := fun _ => tabY [] []) (H := fun _ => [kn_zig2 GFsW]) (tabY_ok _ _) hH follows_mixed Try.func45 rfl Try.ntmps45 (by simp) fun A X W hA hX hW => ?_
  cbv
  have hz := zig_range hp1
  have hz2 : ((zig n).toNat : Int) = zig n := Int.toNat_of_nonneg hz.1
  have hl : xs.length = bs.length := by rw [hxs]; exact bytesP_length bs
  refine And.intro ?_ (And.intro ?_ (And.intro ?_ (And.intro ?_ ?_)))
  · subst hA; simp only [A0]
  · subst hA; simp only [A0]; rfl
  · subst hA; simp only [A0]; omega
  · subst hFsW; exact hp1
  refine loopL (T := fun _ => tabY [] []) (H := fun _ => [kn_zig2 GFsW]) (tabY_ok _ _) hH follows_mixed hA hX (fun x : List DV × Int × Nat × Nat => ∃ (bs1 : List UInt8) (f u : Nat), x.1 = rowsD (bytesP bs1) ∧ x.2.1 = u ∧ x.2.2.2 = bs1.length ∧ bs1 ++ numF (f + 1) u = bs ++ numB n ∧ u < 128 ^ (f + 1) ∧ u < 18446744073709551616 ∧ f + bs1.length ≤ 8388620 ∧ x.2.2.1 + bs.length = 1 + bs1.length)
    (fun x => [(5, .view 1 0 x.2.2.1 0 x.2.2.2), (6, .d (.sc (.int .u64 x.2.1)))]) (fun x => [⟨5, x.1, true, x.2.2.1, true⟩])
    (fun x => x.2.1.toNat) (rowsD (bytesP bs), zig n, 1, bs.length) ?_ ?_ ?_
  · refine ⟨bs, 9, (zig n).toNat, rfl, hz2.symm, rfl, rfl, ?_, ?_, ?_, rfl⟩
    all_goals omega
  · subst hA hFsW
    refine told_stR ?_ ?_
    · simp [A0, hxs]
    · simp [toldP, getS, A0, FsW0, hl]
  rintro R ⟨cells, u, v, len⟩ hR ⟨bs1, f, u1, h1, h2, h3, e1, e2, e3, e4, e5⟩
  replace h1 : cells = rowsD (bytesP bs1) := h1
  replace h3 : len = bs1.length := h3
  replace e5 : v + bs.length = 1 + bs1.length := e5
  cbv
  repeat' first
    | (refine part (fun h => ?_) (fun h => ?_) <;> try cbv)
    | (refine And.intro ?_ ?_)
    | (with_reducible refine callB hX hB ?_) <;> cbv
  all_goals subst hR hA hX hW hFsW
  all_goals clear hH hB
  all_goals simp only [A0, FsW0, decide_eq_true_eq, decide_eq_false_iff_not] at *
  all_goals replace h2 : u = (u1 : Int) := h2
  all_goals subst h2
  all_goals first
    | rfl
    | decide
    | omega
    | (rw [h1, rowsB_length, h3, Nat.mul_one]; done)
    | (simp; done)
    | (have hf : (u1 : Int).fdiv (2 ^ min (Int.toNat 7) (IntKind.bits .u64)) = ((u1 / 128 : Nat) : Int) := fdiv128 u1
       obtain ⟨f1, rfl⟩ : ∃ f1, f = f1 + 1 := by
         cases f with
         | zero => omega
         | succ f1 => exact ⟨f1, rfl⟩
       have hu : u1 / 128 < 128 ^ (f1 + 1) := by
         rw [Nat.pow_succ] at e2
         exact Nat.div_lt_of_lt_mul (by rw [Nat.mul_comm]; exact e2)
       refine ⟨(cells ++ [.d (.sc (.int .u8 ((UInt8.ofNat (u1 % 128 + 128)).toNat : Int)))], ((u1 / 128 : Nat) : Int), v + 1, len + 1), ⟨bs1 ++ [UInt8.ofNat (u1 % 128 + 128)], f1, u1 / 128, ?_, rfl, ?_, ?_, hu, ?_, ?_, ?_⟩, ?_, told_keep [0] rfl ?_ ?_⟩
       · simp only [rowsB_append, rowsB_one, h1]
       · simp [h3]
       · rw [← e1, numF_step (f1 + 1) u1 (by omega)]
         simp only [List.append_assoc, List.singleton_append]
       · omega
       · simp only [List.length_append, List.length_singleton]; omega
       · simp only [List.length_append, List.length_singleton]; omega
       · simp only; omega
       · simp only [and127n, or128n]
         simp [keepSt, pullBox, pullL_eq, h1, pull_rows, pullD]
       · rw [hf]
         simp [toldP, getS, pullD])
    | (have hb2 : numF (f + 1) u1 = [UInt8.ofNat u1] := numF_last f u1 (by omega)
       rw [hb2] at e1
       have e6 := congrArg List.length e1
       simp only [List.length_append, List.length_singleton] at e6
       refine ret_keep [0] rfl ⟨v + 1, _, _, rfl, rfl, by omega, ?_, ?_⟩
       · simp [pullD, ← e1, h3]
       · rw [← e1, rowsB_append, rowsB_one, ← h1, low8 u1 (by omega)]
         simp [keepSt, pullBox, pullL_eq, h1, pull_rows, pullD])
end Go.Proofs.Ytghkcmgiagodlaa
namespace Go.Proofs.Ytghkcmgiagodlaa
open Go.RowKit
set_option linter.all false
set_option maxHeartbeats 4000000
theorem FnD.newRowE {P : Program} {f : FuncId} {args : List DV} {T : TypeId} {L : List UInt8} {V : Nat} (h : FnD P f args [] (fun r st' => ∃ v cs m, cs = rowsD (bytesP L) ∧ m = L.length ∧ v = V ∧ r = .view 1 0 v 0 m ∧ st' = [⟨T, cs, true, v, true⟩])) (ha : closedL 0 args = true) {st : Store} {K : DV → Store → Prop} (hk : K (.view 1 st.length V 0 L.length) (st ++ [⟨T, rowsD (bytesP L), true, V, true⟩])) : FnD P f args st K := by
  refine FnD.at (args' := args) h [] (by simp [ha]) (by simp) (by rw [renL_pure _ _ ha]) ?_
  rintro r0 stc ⟨v, cs, m, rfl, rfl, rfl, rfl, rfl⟩ _
  have e2 : mergeL st [] ([(⟨T, rowsD (bytesP L), true, v, true⟩ : Box)].map (Box.ren (place [] st.length))) = st ++ [⟨T, rowsD (bytesP L), true, v, true⟩] := by
    have e3 : (rowsD (bytesP L)).map (renD (place [] st.length)) = rowsD (bytesP L) := by rw [← renL_eq]; exact renL_pure _ _ (rows_closed _)
    simp only [List.map_cons, List.map_nil, Box.ren, e3]
    apply List.ext_getElem?
    intro i
    rw [mergeL]
    simp only [List.idxOf?_nil, List.length_nil, List.drop_zero]
    congr 2
    apply List.ext_getElem?
    intro j
    simp
  rw [e2]
  have e4 : renD (place [] st.length) (.view 1 0 v 0 L.length) = .view 1 st.length v 0 L.length := by simp [renD, place]
  rw [e4]
  exact hk
noncomputable def numC (xs : List (List PD)) (n : Int) : List DV := rowsD (numX xs n)
noncomputable def numM (xs : List (List PD)) (n : Int) : Nat := (numX xs n).length
noncomputable def numW (xs : List (List PD)) (n : Int) : Nat := 1 + (numB n).length
structure FsV2 where
  numC : List (List PD) → Int → List DV
  numM : List (List PD) → Int → Nat
  numW : List (List PD) → Int → Nat
  isB : List (List PD) → Prop
  r64 : Int → Prop
noncomputable def FsV20 : FsV2 where
  numC := numC
  numM := numM
  numW := numW
  isB := isB
  r64 := r64
def kb_rnumV (F : FsV2) : FuncId × (List DV → Store → SV) := (45, fun args st => match args with
  | [.d (.slc 1 xs), .d (.sc (.int .i64 n))] => some ([F.isB xs, F.r64 n], .view 1 st.length (F.numW xs n) 0 (F.numM xs n), st ++ [⟨5, F.numC xs n, true, F.numW xs n, true⟩])
  | _ => none)
theorem okb_rnumV (args : List DV) (st : Store) (cs : List Prop) (r : DV) (st' : Store) (h : (kb_rnumV FsV20).2 args st = some (cs, r, st')) (hc : allP cs True) (K : DV → Store → Prop) (hk : K r st') : FnD Try.prog 45 args st K := by
  unfold kb_rnumV at h
  simp only at h
  split at h
  · rename_i xs n
    cases h
    obtain ⟨bs, hxs, hb⟩ := id hc.1
    refine FnD.newRowE (w_rnumE bs _ _ hxs hb hc.2.1) rfl ?_
    have e : bytesP (bs ++ numB n) = numX xs n := by unfold numX; rw [hxs, bytesP_append]
    rw [← bytesP_length (bs ++ numB n), e]
    exact hk
  · cases h
set_option maxRecDepth 100000 in
theorem w_prsE (bs : List UInt8) (xs l : List (List PD)) (ps : List Pair) (hxs : xs = bytesP bs) (hbl : bs.length ≤ 1000000) (hls : l = pairsX ps) (hpl : ps.length ≤ 32) (hps : ∀ p ∈ ps, p.key.size ≤ 16 ∧ p.value.size ≤ 64 ∧ r64 p.version) : FnD Try.prog 63 [.d (.slc 1 xs), .d (.slc 3 l)] [] (fun r st' => ∃ v cs m, cs = rowsD (bytesP (bs ++ prB ps)) ∧ m = (bs ++ prB ps).length ∧ r = .view 1 0 v 0 m ∧ st' = [⟨5, cs, true, v, true⟩]) := by
  have hll : l.length = ps.length := by rw [hls]; exact pairsX_length ps
  obtain ⟨n, hn⟩ : ∃ n : Int, n = ps.length := ⟨_, rfl⟩
  have hn32 : 0 ≤ n ∧ n ≤ 32 := by omega
  obtain ⟨b0, hb0⟩ : ∃ b0, b0 = numX xs n := ⟨_, rfl⟩
  have hb0l : isLn 1000010 b0 := by rw [hb0]; exact isLn.num ⟨bs, hxs, hbl⟩ _
  have hfin : bytesP (bs ++ prB ps) = prK b0 ps ps.length := by
    rw [prK_end, hb0, hn, hxs]
    simp only [prB, numX, bytesP_append, List.append_assoc]
  obtain ⟨GFsW, hFsW⟩ : ∃ F, F = FsW0 := ⟨_, rfl⟩
  obtain ⟨GFsV2, hFsV2⟩ : ∃ F, F = FsV20 := ⟨_, rfl⟩
  have hH : SoundK Try.prog [kn_rtext GFsW] := by subst hFsW hFsV2; exact orK_ok ok_rtext noK_ok
  have hB : SoundB Try.prog [kb_rnumV GFsV2] := by subst hFsW hFsV2; exact orB_ok okb_rnumV noB_ok
  refine FnD_cbv (T := fun _ => tabY [20, 26, 32] [5]) (H := fun _ => [kn_rtext GFsW]) (tabY_ok _ _) hH follows_mixed Try.func63 rfl Try.ntmps63 (by simp) fun A X W hA hX hW => ?_
  cbv
  have hH2 : SoundK Try.prog [kn_rnum GFsW, kn_rtext GFsW] := by subst hFsW; exact orK_ok ok_rnum (orK_ok ok_rtext noK_ok)
  have e1 : A.len l = n := by subst hA; exact (congrArg (Nat.cast (R := Int)) hll).trans hn.symm
  cbv at e1
  simp only [e1]
  have hwn := w_rnumE bs xs n hxs (by omega) (by unfold r64; omega)
  by_cases h0 : ps = []
  · have hn0 : n = 0 := by rw [hn, h0]; rfl
    have hpb : bs ++ prB ps = bs ++ numB n := by rw [hn, h0]; simp [prB]
    rw [hpb] at hW
    have f1 : A.cmp .lss 0 n = false := by subst hA; rw [hn0]; rfl
    cbv at f1
    obtain ⟨C, hC⟩ : ∃ C, C = rowsD (bytesP (bs ++ numB n)) := ⟨_, rfl⟩
    obtain ⟨M, hM⟩ : ∃ M, M = (bs ++ numB n).length := ⟨_, rfl⟩
    obtain ⟨V, hV⟩ : ∃ V, V = 1 + (numB n).length := ⟨_, rfl⟩
    refine callL hX (FnD.newRowE hwn rfl ?_)
    rw [← hC, ← hM, ← hV]
    rw [← hC, ← hM] at hW
    cbv
    refine unrollL (T := fun _ => tabY [20, 26, 32] []) (H := fun _ => [kn_rtext GFsW]) (tabY_ok _ _) hH follows_mixed hA hX 1 fun R hR => ?_
    cbv
    repeat' first
      | (simp only [e1, f1]; cbv)
      | (refine hR _ _ _ ?_; cbv)
      | (refine And.intro ?_ ?_)
      | (refine part (fun h => ?_) (fun h => ?_) <;> try cbv)
    all_goals subst hA hX hW hFsW
    all_goals refine ret_keep [0] rfl ⟨V, C, M, rfl, rfl, rfl, ?_⟩
    all_goals show [(⟨5, pullL [0] C, true, V, true⟩ : Box)] = _
    all_goals rw [show pullL [0] C = C by rw [hC, pullL_eq]; exact pull_rows _ _]
  · have hnp : 0 < ps.length := by
      cases ps with
      | nil => exact absurd rfl h0
      | cons _ _ => simp
    try simp only [nc] at *
    obtain ⟨j, hj⟩ : ∃ j : Nat, j + 1 = ps.length := ⟨ps.length - 1, by omega⟩
    have hjl : j < ps.length := by omega
    have hn1 : 0 < n := by omega
    have hnj : n.toNat = j + 1 := by omega
    obtain ⟨p, hp⟩ : ∃ p, p = ps[j]'hjl := ⟨_, rfl⟩
    have hsu := prK_succ b0 hjl
    rw [← hp, hj, ← hfin] at hsu
    have hpp := hps p (by rw [hp]; exact List.getElem_mem hjl)
    have hr1 := prK_ln hb0l hpl hps j
    obtain ⟨r1, hr1e⟩ : ∃ r1, r1 = prK b0 ps j := ⟨_, rfl⟩
    rw [← hr1e] at hr1 hsu
    obtain ⟨r2, hr2e⟩ : ∃ r2, r2 = textX (textX r1 p.key) p.value := ⟨_, rfl⟩
    rw [← hr2e] at hsu
    have hr2 : isLn (1000010 + 3520 + 74 + 74) r2 := by rw [hr2e]; exact (hr1.text (s := p.key) (by omega)).text hpp.2.1
    obtain ⟨L, hL⟩ : ∃ L, L = bs ++ prB ps := ⟨_, rfl⟩
    rw [← hL] at hsu hW
    obtain ⟨C, hC⟩ : ∃ C, C = rowsD (bytesP L) := ⟨_, rfl⟩
    obtain ⟨M, hM⟩ : ∃ M, M = L.length := ⟨_, rfl⟩
    obtain ⟨V, hV⟩ : ∃ V, V = numW r2 p.version := ⟨_, rfl⟩
    have eC : GFsV2.numC r2 p.version = C := by subst hFsV2; rw [hC, hsu]; rfl
    have eM : GFsV2.numM r2 p.version = M := by subst hFsV2; rw [hM, ← bytesP_length L, hsu]; rfl
    have eV : GFsV2.numW r2 p.version = V := by subst hFsV2; rw [hV]; rfl
    have eT : GFsW.rtext (GFsW.rtext r1 p.key) p.value = r2 := by subst hFsW; exact hr2e.symm
    have hN0 : FnV Try.prog 45 [.d (.slc 1 xs), .d (.sc (.int .i64 n))] (.d (.slc 1 b0)) := by
      rw [hb0]
      exact v_rnum xs n ⟨bs, hxs, by omega⟩ (by unfold r64; omega)
    have hrow : ∀ i : Int, 0 ≤ i → i < n → ∃ q : Pair, l.getD i.toNat [] = q.row ∧ (q.key.size ≤ 16 ∧ q.value.size ≤ 64 ∧ r64 q.version) ∧ prK b0 ps (i.toNat + 1) = numX (textX (textX (prK b0 ps i.toNat) q.key) q.value) q.version ∧ (i.toNat = j → q = p) := fun i h1 h2 => by
      have hi : i.toNat < ps.length := by omega
      refine ⟨ps[i.toNat]'hi, prow hls h1 (by omega), hps _ (List.getElem_mem hi), prK_succ b0 hi, fun e => ?_⟩
      rw [hp]
      simp only [e]
    cbv at eC
    cbv at eM
    cbv at eV
    cbv at eT
    try simp only [nc] at *
    refine callL hX (FnV.use hN0 rfl ?_)
    cbv
    refine loopL (T := fun _ => tabY [20, 26, 32] [5]) (H := fun _ => [kn_rtext GFsW]) (tabY_ok _ _) hH follows_mixed hA hX
      (fun x : (Int × List (List PD)) ⊕ Unit => match x with | .inl y => 0 ≤ y.1 ∧ y.1 < n ∧ y.2 = prK b0 ps y.1.toNat | .inr _ => True)
      (fun x => match x with | .inl y => [(0, .d (.slc 1 y.2)), (1, .d (.slc 3 l)), (5, .d (.sc (.int .i64 y.1)))] | .inr _ => [(0, .view 1 0 V 0 M), (1, .d (.slc 3 l)), (5, .d (.sc (.int .i64 n)))])
      (fun x => match x with | .inl _ => [] | .inr _ => [⟨5, C, true, V, true⟩])
      (fun x => match x with | .inl y => 1 + (n - y.1).toNat | .inr _ => 0) (.inl (0, b0)) ?_ ?_ ?_
    · refine ⟨Int.le_refl 0, ?_, (prK_zero b0 ps).symm⟩
      exact hn1
    · exact told_less ⟨.inl rfl, .inl rfl, .inl rfl, trivial⟩
    rintro R x hR hinv
    rcases x with ⟨i, r⟩ | u
    · obtain ⟨h1, h2, h3⟩ : 0 ≤ i ∧ i < n ∧ r = prK b0 ps i.toNat := hinv
      have f1 : A.cmp .lss i n = true := by subst hA; exact decide_eq_true h2
      cbv at f1
      obtain ⟨q, hq1, hq2, hq3, hq4⟩ := hrow i h1 h2
      rw [← h3] at hq3
      have hri := prK_ln hb0l hpl hps i.toNat
      rw [← h3] at hri
      cbv
      simp only [e1, f1]
      cbv
      by_cases hlast : i.toNat = j
      · have hr : r = r1 := by rw [h3, hr1e, hlast]
        subst hr
        obtain rfl := hq4 hlast
        refine regionL [45] [] (T := fun _ => tabY [20, 26, 32] []) (H := fun _ => [kn_rtext GFsW]) (B := fun _ => [kb_rnumV GFsV2]) (R := fun _ => []) (A := A) (tabY_ok _ _) hH hB noR_ok follows_mixed hA hX (by kernel_rfl) (by kernel_rfl) (by kernel_rfl) ?_
        cbv
        repeat' first
          | (simp only [eT, eC, eM, eV]; cbv)
          | (refine And.intro ?_ ?_)
        all_goals subst hA hX
        all_goals try simp only [nc] at *
        all_goals have ei : IntKind.wrap .i64 (i + 1) = i + 1 := wrap_i64 (by unfold r64; omega)
        all_goals try simp only [A0, nc, hq1, ei, Pair.row, List.map_cons, List.map_nil, List.drop_zero, List.drop_succ_cons, Nat.zero_add, List.getElem?_cons_zero, List.getElem?_cons_succ, eT, eC, eM, eV]
        all_goals first
          | exact ⟨h1, by rw [hll]; omega⟩
          | exact ⟨rfl, by simp, rfl⟩
          | (subst hFsW; exact hri.le (by omega))
          | (subst hFsW; exact (hri.text (s := q.key) (by omega)).le (by omega))
          | (subst hFsW; show szT _; unfold szT; omega)
          | (subst hFsW; exact hpp.2.2)
          | (subst hFsW; exact ((hri.text (s := q.key) (by omega)).text hpp.2.1).le (by omega))
          | (subst hFsV2; exact hr2.le (by omega))
          | (subst hFsV2; exact hpp.2.2)
          | (rw [hR]
             refine ⟨.inr (), trivial, (by show 0 < 1 + (n - i).toNat; omega), told_less ⟨.inl rfl, .inl rfl, .inl ?_, trivial⟩⟩
             show DV.d (.sc (.int .i64 n)) = .d (.sc (.int .i64 (i + 1)))
             rw [show i + 1 = n by omega])
          | (show Region.lexB _ _ = true; kernel_rfl)
          | (show turnsB _ = true; kernel_rfl)
          | fail
      · (with_reducible refine goL (c := .region 5 _ _) (T := fun _ => tabY [20, 26, 32] []) (H := fun _ => [kn_rnum GFsW, kn_rtext GFsW]) (tabY_ok _ _) hH2 follows_mixed hA hX ?_) <;> cbv
        repeat' first
          | (refine And.intro ?_ ?_)
        all_goals subst hA hX
        all_goals try simp only [nc] at *
        all_goals have ei : IntKind.wrap .i64 (i + 1) = i + 1 := wrap_i64 (by unfold r64; omega)
        all_goals try simp only [A0, nc, hq1, ei, Pair.row, List.map_cons, List.map_nil, List.drop_zero, List.drop_succ_cons, Nat.zero_add, List.getElem?_cons_zero, List.getElem?_cons_succ, eT, eC, eM, eV]
        all_goals first
          | exact ⟨h1, by rw [hll]; omega⟩
          | exact ⟨rfl, by simp, rfl⟩
          | (subst hFsW; exact hri.le (by omega))
          | (subst hFsW; exact (hri.text (s := q.key) (by omega)).le (by omega))
          | (subst hFsW; show szT _; unfold szT; omega)
          | (subst hFsW; exact hq2.2.2)
          | (subst hFsW; exact ((hri.text (s := q.key) (by omega)).text hq2.2.1).le (by omega))
          | (rw [hR]
             refine ⟨.inl (i + 1, prK b0 ps (i.toNat + 1)), ⟨by simp only; omega, by simp only; omega, by simp only; rw [show (i + 1).toNat = i.toNat + 1 by omega]⟩, (by show 1 + (n - (i + 1)).toNat < 1 + (n - i).toNat; omega), told_less ⟨.inl ?_, .inl rfl, .inl rfl, trivial⟩⟩
             show DV.d (.slc 1 _) = .d (.slc 1 _)
             rw [hq3]
             subst hFsW
             rfl)
          | (show Region.lexB _ _ = true; kernel_rfl)
          | (show turnsB _ = true; kernel_rfl)
          | fail
    · have f1 : A.cmp .lss n n = false := by subst hA; exact decide_eq_false (Int.lt_irrefl n)
      cbv at f1
      cbv
      simp only [e1, f1]
      cbv
      repeat' first
        | (refine And.intro ?_ ?_)
      all_goals subst hA hX hW
      all_goals refine ret_keep [0] rfl ⟨V, C, M, hC, hM, rfl, ?_⟩
      all_goals show [(⟨5, pullL [0] C, true, V, true⟩ : Box)] = _
      all_goals rw [show pullL [0] C = C by rw [hC, pullL_eq]; exact pull_rows _ _]
end Go.Proofs.Ytghkcmgiagodlaa
namespace Go.Proofs.Ytghkcmgiagodlaa
open Go.RowKit
set_option linter.all false
set_option maxHeartbeats 4000000
set_option maxRecDepth 100000 in
theorem w_putRE (xs : List (List PD)) (cs : List DV) (L : List UInt8) (hp0 : isP xs) (hp1 : isOwn cs) (hv : rv64 xs) (hw : ∀ o ∈ ownersOf cs, r64 o.reply.version ∧ rv64 o.reply.pairs) (hrg : rightSt (.d (.slc 3 xs) :: cs) = true) (hL : bytesSt (.d (.slc 3 xs) :: cs) = bytesP L) : FnD Try.prog 31 [.agg (.d (.slc 3 xs) :: cs)] [] (fun r st' => ∃ v c m, c = rowsD (bytesP L) ∧ m = L.length ∧ r = .view 1 0 v 0 m ∧ st' = [⟨5, c, true, v, true⟩]) := by
  have hcl := hp1.len
  have hst := isSt.mk hp0 hp1
  have hup : upS (.d (.slc 3 xs) :: cs) = .d (.slc 3 xs) :: cs := st_up hp1
  have h9 := isOwn.closed hp1
  obtain ⟨os, hos, hcs, hop⟩ := hp1
  have hof := ownersOf_D hos hcs
  obtain ⟨GFsC2, hGFsC2⟩ : ∃ F, F = FsC20 := ⟨_, rfl⟩
  obtain ⟨GFsW, hGFsW⟩ : ∃ F, F = FsW0 := ⟨_, rfl⟩
  obtain ⟨GFsFb, hGFsFb⟩ : ∃ F, F = FsFb0 := ⟨_, rfl⟩
  have hH : SoundK Try.prog [kn_rightR2 GFsC2, kn_rnum GFsW, kn_rtext GFsW, kn_rflag GFsW, kn_prsR GFsFb] := by subst hGFsC2 hGFsW hGFsFb; exact orK_ok ok_rightR2 (orK_ok ok_rnum (orK_ok ok_rtext (orK_ok ok_rflag (orK_ok ok_prsR noK_ok))))
  refine FnD_cbv (T := fun _ => tabY [0, 1001, 18] []) (H := fun _ => [kn_rightR2 GFsC2, kn_rnum GFsW, kn_rtext GFsW, kn_rflag GFsW, kn_prsR GFsFb]) (tabY_ok _ _) hH follows_mixed Try.func31 rfl Try.ntmps31 (by simp) fun A X W hA hX hW => ?_
  cbv
  have e49 : A.tk (.d (.slc 3 xs) :: cs) 0 1 49 = .d (.slc 3 xs) :: cs := by subst hA; exact List.take_of_length_le (by simp [hcl])
  have hno : ∀ b, A.not (GFsC2.rightR2 (.d (.slc 3 xs) :: cs)) = b → rightSt (.d (.slc 3 xs) :: cs) = !b := by
    intro b hb
    rw [← hb]
    subst hA hGFsC2
    show _ = !!(rightSt (.d (.slc 3 xs) :: cs))
    simp
  have hpr : prsS (.d (.slc 3 xs) :: cs) = xs := by unfold prsS; rw [show upCs (.d (.slc 3 xs) :: cs) = .d (.slc 3 xs) :: cs from hup]; rfl
  have how : ownS (.d (.slc 3 xs) :: cs) = cs := by unfold ownS; rw [show upCs (.d (.slc 3 xs) :: cs) = .d (.slc 3 xs) :: cs from hup]; rfl
  have hri : rightSt (.d (.slc 3 xs) :: cs) = true → rightX xs = true ∧ rightOs os = true := by
    intro h
    unfold rightSt stateX at h
    rw [hpr, how, hof] at h
    simp only [Bool.and_eq_true] at h
    exact ⟨h.2, h.1⟩
  obtain ⟨b0, hb0⟩ : ∃ b0, b0 = prX [] xs := ⟨_, rfl⟩
  have eb : GFsFb.prsR [] xs = b0 := by subst hGFsFb; exact hb0.symm
  have hbt : rightSt (.d (.slc 3 xs) :: cs) = true → bytesSt (.d (.slc 3 xs) :: cs) = owsX b0 os := by intro h; unfold bytesSt; rw [h, hpr, how, hof, ← hb0]; rfl
  have hbf : rightSt (.d (.slc 3 xs) :: cs) = false → bytesSt (.d (.slc 3 xs) :: cs) = [] := by intro h; unfold bytesSt; rw [h]; rfl
  cbv at e49 eb
  simp only [e49, eb]
  repeat' first
    | (refine part (fun h => ?_) (fun h => ?_) <;> try cbv)
    | (refine And.intro ?_ ?_)
  rotate_right
  · obtain ⟨hrx, hro⟩ := hri hrg
    have hLX : owsX b0 os = bytesP L := by rw [← hbt hrg]; exact hL
    have hps := right_isPs hp0 hrx hv
    have hbl : isLn 4000 b0 := by rw [hb0]; exact (isLn.nil.prs hps).mono (by omega)
    have hok : ∀ o ∈ os, okBo o := by
      intro o ho
      rw [hof] at hw
      have h7 : ∀ {os : List Owner}, rightOs os = true → ∀ o ∈ os, okO o = true := by
        intro os
        induction os with
        | nil => intro _ o h; cases h
        | cons q os ih =>
          intro h o ho
          simp only [rightOs, Bool.and_eq_true] at h
          rcases List.mem_cons.1 ho with e | e
          · subst e; exact h.1
          · exact ih h.2 o e
      exact okO_bo (h7 hro o ho) (hop o ho) (hw o ho).1 (hw o ho).2
    clear hno hri hbt hbf hpr how
    obtain ⟨C, hC⟩ : ∃ C, C = rowsD (bytesP L) := ⟨_, rfl⟩
    obtain ⟨M, hM⟩ : ∃ M, M = L.length := ⟨_, rfl⟩
    have hCp : pullL [0, 2] C = C := by rw [hC, pullL_eq]; exact pull_rows _ _
    refine loopL (T := fun _ => tabY [0, 1001, 18] [8, 11]) (H := fun _ => [kn_rightR2 GFsC2, kn_rnum GFsW, kn_rtext GFsW, kn_rflag GFsW, kn_prsR GFsFb]) (tabY_ok _ _) hH follows_mixed hA hX
      (fun x : (Int × List (List PD)) ⊕ Nat => match x with | .inl y => 0 ≤ y.1 ∧ y.1 < 8 ∧ y.2 = owsX b0 (os.take y.1.toNat) | .inr _ => True)
      (fun x => match x with | .inl y => [(1, .ref 0 0 0), (3, .d (.slc 1 y.2)), (4, .d (.sc (.int .i64 y.1)))] | .inr V => [(1, .ref 0 0 0), (3, .view 1 1 V 0 M), (4, .d (.sc (.int .i64 8)))])
      (fun x => match x with | .inl _ => [⟨34, .d (.slc 3 xs) :: cs, false, 0, true⟩] | .inr V => [⟨34, .d (.slc 3 xs) :: cs, false, 0, true⟩, ⟨5, C, true, V, true⟩])
      (fun x => match x with | .inl y => 9 - y.1.toNat | .inr _ => 0) (.inl (0, b0)) ?_ ?_ ?_
    · exact ⟨Int.le_refl 0, (by show (0 : Int) < 8; decide), rfl⟩
    · exact told_less ⟨.inl rfl, .inl (congrArg (fun z => DV.d (.slc 1 z)) eb).symm, .inl rfl, trivial⟩
    rintro R x hR hinv
    rcases x with ⟨i, r⟩ | V
    · obtain ⟨i0, hi, i2⟩ : 0 ≤ i ∧ i < 8 ∧ r = owsX b0 (os.take i.toNat) := hinv
      have f1 : A.cmp .lss i 8 = true := by subst hA; exact decide_eq_true hi
      cbv at f1
      cbv
      simp only [f1]
      cbv
      replace i0 : 0 ≤ i := i0
      replace hi : i < 8 := hi
      replace i2 : r = owsX b0 (os.take i.toNat) := i2
      replace hos : os.length = 8 := hos
      replace hcs : cs = ownsD os := hcs
      have hr : isLn 40000 r := by rw [i2]; exact (hbl.ows (os := os.take i.toNat) (fun o ho => hok o (List.mem_of_mem_take ho))).mono (by rw [List.length_take]; omega)
      have hin : i.toNat < os.length := by omega
      obtain ⟨g0, g1, g2, g3, g4, g5, r2, r3, r4, r5, qs1, gt, qt1, gl⟩ := st_cell (.d (.slc 3 xs)) hcs i.toNat hin
      have ho := hop _ (List.getElem_mem hin)
      obtain ⟨k1, k2, k3, k4, k5, k6⟩ := hok _ (List.getElem_mem hin)
      have hsu := owsX_succ b0 hin
      generalize os[i.toNat]'hin = o at g0 g1 g2 g3 g4 g5 r2 r3 r4 r5 qs1 gt qt1 ho hsu k1 k2 k3 k4 k5 k6
      rw [← i2] at hsu
      have wi : IntKind.wrap .i64 (i + 1) = i + 1 := wrap_i64 (by unfold r64; omega)
      have hr1 := hr.num o.seq
      have hr2 := hr1.num o.reply.why
      have hr3 := hr2.flag o.reply.found
      have hr4 := hr3.text k4
      have hr5 := hr4.num o.reply.version
      have c0 : A.gi (.d (.slc 3 xs) :: cs) (A.off 1 i 6) = o.seq := by subst hA; simp only [A0, Nat.zero_add, g0]
      have c1 : A.gi (.d (.slc 3 xs) :: cs) (A.pl (A.off 1 i 6) 1) = o.reply.why := by subst hA; simp only [A0, Nat.zero_add, g1]
      have c2 : A.gb (.d (.slc 3 xs) :: cs) (A.pl (A.off 1 i 6) 2) = o.reply.found := by subst hA; simp only [A0, Nat.zero_add, r2]
      have c3 : A.gs (.d (.slc 3 xs) :: cs) (A.pl (A.off 1 i 6) 3) = o.reply.value := by subst hA; simp only [A0, Nat.zero_add, r3]
      have c4 : A.gi (.d (.slc 3 xs) :: cs) (A.pl (A.off 1 i 6) 4) = o.reply.version := by subst hA; simp only [A0, Nat.zero_add, r4]
      have c5 : A.gl (.d (.slc 3 xs) :: cs) (A.pl (A.off 1 i 6) 5) = o.reply.pairs := by subst hA; simp only [A0, Nat.zero_add, r5]
      have ch : A.has (.d (.slc 3 xs) :: cs) (A.off 1 i 6) 6 [.d (.sc (.int .i64 o.seq)), .d (.sc (.int .i64 o.reply.why)), .d (.sc (.bool o.reply.found)), .d (.sc (.string o.reply.value)), .d (.sc (.int .i64 o.reply.version)), .d (.slc 3 o.reply.pairs)] := by
        subst hA
        simp only [A0, Nat.zero_add, gt]
        exact ⟨rfl, gl, rfl⟩
      obtain ⟨oseq, ⟨owhy, ofound, ovalue, oversion, opairs⟩⟩ := o
      obtain ⟨n1, hn1⟩ : ∃ n1, n1 = numX r oseq := ⟨_, rfl⟩
      obtain ⟨n5, hn5⟩ : ∃ n5, n5 = numX (textX (flagX (numX n1 owhy) ofound) ovalue) oversion := ⟨_, rfl⟩
      obtain ⟨n6, hn6⟩ : ∃ n6, n6 = prX n5 opairs := ⟨_, rfl⟩
      have en1 : GFsW.rnum r oseq = n1 := by subst hGFsW; exact hn1.symm
      have en5 : GFsW.rnum (GFsW.rtext (GFsW.rflag (GFsW.rnum n1 owhy) ofound) ovalue) oversion = n5 := by subst hGFsW; exact hn5.symm
      have en6 : GFsFb.prsR n5 opairs = n6 := by subst hGFsFb; exact hn6.symm
      have hnl : isLn 50000 n5 := by rw [hn5, hn1]; exact hr5.mono (by omega)
      rw [← hn1] at hr1 hr2 hr3 hr4 hr5
      replace k2 : r64 oseq := k2
      replace k3 : r64 owhy := k3
      replace k4 : ovalue.size ≤ 64 := k4
      replace k5 : r64 oversion := k5
      replace k6 : isPs opairs := k6
      cbv at c0
      cbv at c1
      cbv at c2
      cbv at c3
      cbv at c4
      cbv at c5
      cbv at ch
      cbv at en1
      cbv at en5
      cbv at en6
      replace k1 : 0 ≤ oseq := k1
      replace i0 : 0 ≤ i := i0
      replace hi : i < 8 := hi
      repeat' (refine And.intro ?_ ?_)
      rotate_right 1
      · by_cases h7 : i = 7
        · have h78 : (i.toNat + 1) = os.length := by omega
          rw [h78, List.take_length] at hsu
          rw [hLX] at hsu
          by_cases hz : oseq = 0
          · have z1 : A.cmp .gtr oseq 0 = false := by subst hA; exact decide_eq_false (by omega)
            cbv at z1
            have how : owX r ⟨oseq, ⟨owhy, ofound, ovalue, oversion, opairs⟩⟩ = n1 := by
              unfold owX
              rw [decide_eq_true hz, hn1]
              rfl
            rw [how, hn1] at hsu
            obtain ⟨rb, hrb, hrbl⟩ := id hr
            have hLe : rb ++ numB oseq = L := by
              apply bytesP_inj.1
              rw [hsu, ← bytesP_append, ← hrb]
              rfl
            have hwn := w_rnumE rb r oseq hrb (by omega) k2
            rw [hLe] at hwn
            obtain ⟨V, hV⟩ : ∃ V, V = 1 + (numB oseq).length := ⟨_, rfl⟩
            rw [← hV] at hwn
            (with_reducible refine goL (c := .region 8 _ _) (T := fun _ => tabY [0, 1001, 18] []) (H := fun _ => []) (tabY_ok _ _) noK_ok follows_mixed hA hX ?_) <;> cbv
            simp only [c0, c1, c2, c3, c4, c5]
            refine callL hX (FnD.newRowE hwn rfl ?_)
            rw [← hC, ← hM]
            cbv
            repeat' first
              | (simp only [c0, c1, c2, c3, c4, c5, en1, en5, en6, z1]; cbv)
              | (refine And.intro ?_ ?_)
            all_goals first
              | (subst hA; exact rfl)
              | (subst hA; exact ⟨i0, hi⟩)
              | (subst hA; show Region.lexB _ _ = true; kernel_rfl)
              | (subst hA; show turnsB _ = true; kernel_rfl)
              | (subst hGFsW; exact hr.le (by omega))
              | (subst hGFsW; exact k2)
              | (subst hGFsW; exact k3)
              | (subst hGFsW; exact k5)
              | (subst hGFsW; exact hr1.le (by omega))
              | (subst hGFsW; exact hr2.le (by omega))
              | (subst hGFsW; exact hr3.le (by omega))
              | (subst hGFsW; exact hr4.le (by omega))
              | (subst hGFsW; show szT _; unfold szT; omega)
              | (subst hGFsFb; exact hnl.bs (by omega))
              | (subst hGFsFb; exact k6)
              | (simp only [c0, c1, c2, c3, c4, c5]; exact ch)
              | (subst hA
                 rw [hR]
                 refine ⟨.inr V, trivial, (by show 0 < 9 - i.toNat; omega), told_keep [0, 2] rfl ?_ ?_⟩
                 · show [_, _] = [_, _]
                   simp [pullBox, pullL, pullD, own_pull [0, 2] hcs, own_pullL [0, 2] hcs, hCp]
                 · refine ⟨.inl rfl, .inl rfl, .inl ?_, trivial⟩
                   show DV.d (.sc (.int .i64 8)) = .d (.sc (.int .i64 (IntKind.wrap .i64 (i + 1))))
                   rw [wi, h7]
                   rfl)
              | fail
          · have z1 : A.cmp .gtr oseq 0 = true := by subst hA; exact decide_eq_true (by show (0 : Int) < oseq; omega)
            cbv at z1
            have how : owX r ⟨oseq, ⟨owhy, ofound, ovalue, oversion, opairs⟩⟩ = n6 := by
              unfold owX
              rw [decide_eq_false hz, hn6, hn5, hn1]
              rfl
            rw [how, hn6] at hsu
            obtain ⟨nb, hnb, hnbl⟩ := id hnl
            obtain ⟨qs, hqs, hql, hqp⟩ := id k6
            replace hqs : opairs = pairsX qs := hqs
            have hLe : nb ++ prB qs = L := by
              apply bytesP_inj.1
              rw [hsu, ← bytesP_append, ← hnb]
              unfold prX
              rw [hqs, pairsOf_X]
            have hwn := w_prsE nb n5 opairs qs hnb (by omega) hqs hql hqp
            rw [hLe] at hwn
            (with_reducible refine goL (c := .region 8 _ _) (T := fun _ => tabY [0, 1001, 18] []) (H := fun _ => [kn_rightR2 GFsC2, kn_rnum GFsW, kn_rtext GFsW, kn_rflag GFsW, kn_prsR GFsFb]) (tabY_ok _ _) hH follows_mixed hA hX ?_) <;> cbv
            repeat' first
              | (simp only [c0, c1, c2, c3, c4, c5, en1, en5, en6, z1]; cbv)
              | (refine And.intro ?_ ?_)
              | ((with_reducible refine goL (c := .region 11 _ _) (T := fun _ => tabY [0, 1001, 18] []) (H := fun _ => []) (tabY_ok _ _) noK_ok follows_mixed hA hX ?_) <;> cbv)
            rotate_right 1
            · refine callL hX (FnD.newRow hwn rfl fun V c m hc hm => ?_)
              rw [← hC] at hc
              rw [← hM] at hm
              subst hc hm
              cbv
              repeat' first
                | (simp only [c0, c1, c2, c3, c4, c5, en1, en5, en6, z1]; cbv)
                | (refine And.intro ?_ ?_)
              all_goals first
                | (subst hA; exact rfl)
                | (subst hA; exact ⟨i0, hi⟩)
                | (subst hA; show Region.lexB _ _ = true; kernel_rfl)
                | (subst hA; show turnsB _ = true; kernel_rfl)
                | (subst hGFsW; exact hr.le (by omega))
                | (subst hGFsW; exact k2)
                | (subst hGFsW; exact k3)
                | (subst hGFsW; exact k5)
                | (subst hGFsW; exact hr1.le (by omega))
                | (subst hGFsW; exact hr2.le (by omega))
                | (subst hGFsW; exact hr3.le (by omega))
                | (subst hGFsW; exact hr4.le (by omega))
                | (subst hGFsW; show szT _; unfold szT; omega)
                | (subst hGFsFb; exact hnl.bs (by omega))
                | (subst hGFsFb; exact k6)
                | (simp only [c0, c1, c2, c3, c4, c5]; exact ch)
                | (subst hA
                   rw [hR]
                   refine ⟨.inr V, trivial, (by show 0 < 9 - i.toNat; omega), told_keep [0, 2] rfl ?_ ?_⟩
                   · show [_, _] = [_, _]
                     simp [pullBox, pullL, pullD, own_pull [0, 2] hcs, own_pullL [0, 2] hcs, hCp]
                   · refine ⟨.inl rfl, .inl rfl, .inl ?_, trivial⟩
                     show DV.d (.sc (.int .i64 8)) = .d (.sc (.int .i64 (IntKind.wrap .i64 (i + 1))))
                     rw [wi, h7]
                     rfl)
                | fail
            all_goals first
              | (subst hA; exact rfl)
              | (subst hA; exact ⟨i0, hi⟩)
              | (subst hA; show Region.lexB _ _ = true; kernel_rfl)
              | (subst hA; show turnsB _ = true; kernel_rfl)
              | (subst hGFsW; exact hr.le (by omega))
              | (subst hGFsW; exact k2)
              | (subst hGFsW; exact k3)
              | (subst hGFsW; exact k5)
              | (subst hGFsW; exact hr1.le (by omega))
              | (subst hGFsW; exact hr2.le (by omega))
              | (subst hGFsW; exact hr3.le (by omega))
              | (subst hGFsW; exact hr4.le (by omega))
              | (subst hGFsW; show szT _; unfold szT; omega)
              | (subst hGFsFb; exact hnl.bs (by omega))
              | (subst hGFsFb; exact k6)
              | (simp only [c0, c1, c2, c3, c4, c5]; exact ch)
              | fail
        · (with_reducible refine goL (c := .region 8 _ _) (T := fun _ => tabY [0, 1001, 18] []) (H := fun _ => [kn_rightR2 GFsC2, kn_rnum GFsW, kn_rtext GFsW, kn_rflag GFsW, kn_prsR GFsFb]) (tabY_ok _ _) hH follows_mixed hA hX ?_) <;> cbv
          repeat' first
            | (simp only [c0, c1, c2, c3, c4, c5, en1, en5, en6]; cbv)
            | (refine And.intro ?_ ?_)
            | ((with_reducible refine goL (c := .region 11 _ _) (T := fun _ => tabY [0, 1001, 18] []) (H := fun _ => [kn_rightR2 GFsC2, kn_rnum GFsW, kn_rtext GFsW, kn_rflag GFsW, kn_prsR GFsFb]) (tabY_ok _ _) hH follows_mixed hA hX ?_) <;> cbv)
            | (refine part (fun h3 => ?_) (fun h3 => ?_) <;> try cbv)
          all_goals first
            | (subst hA; exact rfl)
            | (subst hA; exact ⟨i0, hi⟩)
            | (subst hA; show Region.lexB _ _ = true; kernel_rfl)
            | (subst hA; show turnsB _ = true; kernel_rfl)
            | (subst hGFsW; exact hr.le (by omega))
            | (subst hGFsW; exact k2)
            | (subst hGFsW; exact k3)
            | (subst hGFsW; exact k5)
            | (subst hGFsW; exact hr1.le (by omega))
            | (subst hGFsW; exact hr2.le (by omega))
            | (subst hGFsW; exact hr3.le (by omega))
            | (subst hGFsW; exact hr4.le (by omega))
            | (subst hGFsW; show szT _; unfold szT; omega)
            | (subst hGFsFb; exact hnl.bs (by omega))
            | (subst hGFsFb; exact k6)
            | (simp only [c0, c1, c2, c3, c4, c5]; exact ch)
            | (subst hA
               have z1 : (decide (0 < oseq)) = true := h3
               have how : owX r ⟨oseq, ⟨owhy, ofound, ovalue, oversion, opairs⟩⟩ = n6 := by
                 unfold owX
                 have q9 := of_decide_eq_true z1
                 rw [show decide (oseq = 0) = false from decide_eq_false (by omega), hn6, hn5, hn1]
                 rfl
               rw [how] at hsu
               rw [hR]
               refine ⟨.inl (i + 1, n6), ⟨by simp only; omega, by simp only; omega, by simp only; rw [show (i + 1).toNat = i.toNat + 1 by omega]; exact hsu.symm⟩, (by show 9 - (i + 1).toNat < 9 - i.toNat; omega), told_keep [0] rfl ?_ ?_⟩
               · (show [_] = [_]; simp [pullBox, pullL, pullD, own_pull [0] hcs, own_pullL [0] hcs])
               · refine ⟨.inl rfl, .inl rfl, .inl ?_, trivial⟩
                 show DV.d (.sc (.int .i64 (i + 1))) = .d (.sc (.int .i64 (IntKind.wrap .i64 (i + 1))))
                 rw [wi])
            | (subst hA
               have z1 : (decide (0 < oseq)) = false := h3
               have how : owX r ⟨oseq, ⟨owhy, ofound, ovalue, oversion, opairs⟩⟩ = n1 := by
                 unfold owX
                 have q9 := of_decide_eq_false z1
                 rw [show decide (oseq = 0) = true from decide_eq_true (by omega), hn1]
                 rfl
               rw [how] at hsu
               rw [hR]
               refine ⟨.inl (i + 1, n1), ⟨by simp only; omega, by simp only; omega, by simp only; rw [show (i + 1).toNat = i.toNat + 1 by omega]; exact hsu.symm⟩, (by show 9 - (i + 1).toNat < 9 - i.toNat; omega), told_keep [0] rfl ?_ ?_⟩
               · (show [_] = [_]; simp [pullBox, pullL, pullD, own_pull [0] hcs, own_pullL [0] hcs])
               · refine ⟨.inl rfl, .inl rfl, .inl ?_, trivial⟩
                 show DV.d (.sc (.int .i64 (i + 1))) = .d (.sc (.int .i64 (IntKind.wrap .i64 (i + 1))))
                 rw [wi])
            | fail
      all_goals first
        | (subst hA; exact rfl)
        | (subst hA; exact ⟨i0, hi⟩)
        | (subst hA; show Region.lexB _ _ = true; kernel_rfl)
        | (subst hA; show turnsB _ = true; kernel_rfl)
        | (subst hGFsW; exact hr.le (by omega))
        | (subst hGFsW; exact k2)
        | (subst hGFsW; exact k3)
        | (subst hGFsW; exact k5)
        | (subst hGFsW; exact hr1.le (by omega))
        | (subst hGFsW; exact hr2.le (by omega))
        | (subst hGFsW; exact hr3.le (by omega))
        | (subst hGFsW; exact hr4.le (by omega))
        | (subst hGFsW; show szT _; unfold szT; omega)
        | (subst hGFsFb; exact hnl.bs (by omega))
        | (subst hGFsFb; exact k6)
        | (simp only [c0, c1, c2, c3, c4, c5]; exact ch)
        | fail
    · have f1 : A.cmp .lss 8 8 = false := by subst hA; rfl
      cbv at f1
      cbv
      simp only [f1]
      cbv
      repeat' (refine And.intro ?_ ?_)
      all_goals first
        | (subst hA hW
           refine ret_keep [1] rfl ⟨V, C, M, hC, hM, rfl, ?_⟩
           show [(⟨5, pullL [1] C, true, V, true⟩ : Box)] = _
           rw [show pullL [1] C = C by rw [hC, pullL_eq]; exact pull_rows _ _])
        | fail
  all_goals first
    | (subst hA; exact rfl)
    | (subst hGFsC2; exact hst)
    | (subst hGFsFb; exact isLn.nil.bs (by omega))
    | (subst hGFsFb; exact right_isPs hp0 (hri hrg).1 hv)
    | (subst hA; show List.length _ ≤ 1000000; rw [List.length_cons, hcl]; decide)
    | (subst hA; simp [A0, hcl]; done)
    | (subst hA; show _ ≤ List.length _; rw [List.length_cons, hcl]; decide)
    | (exfalso
       have h8 := hno _ h
       rw [hrg] at h8
       exact absurd h8 (by decide))
    | fail
end Go.Proofs.Ytghkcmgiagodlaa
namespace Go.Proofs.Ytghkcmgiagodlaa
open Go.RowKit
set_option linter.all false
set_option maxHeartbeats 4000000
/-- So many cells of a row are told. -/
theorem told_hide {k : Nat} {s s' : SL} {st : Store} (b m : Nat) (bx : Box) (hb : st[b]? = some bx) (hs : toldP id s s') : Told k s st s' (st.set b ⟨bx.ty, bx.cells.take m, true, bx.ver, bx.live⟩) := by
  refine Told.trans (?_ : Told k s st s (st.set b ⟨bx.ty, bx.cells.take m, true, bx.ver, bx.live⟩)) (told_less hs)
  intro E N a hc hst hsl
  subst hst
  obtain ⟨c1, c2⟩ := retell_env (bx' := ⟨bx.ty, bx.cells.take m, true, bx.ver, bx.live⟩) hc hb rfl rfl rfl (fun g z cur _ _ _ _ h1 _ => by
    refine ⟨by rw [List.length_take]; omega, (fun h => by cases h), fun j d hj => ?_⟩
    rw [List.getElem?_take] at hj
    split at hj
    · exact .inl hj
    · cases hj)
  exact ⟨⟨E.w, E.S, E.σ, E.st.set b ⟨bx.ty, bx.cells.take m, true, bx.ver, bx.live⟩⟩, rfl, rfl, c1, hsl.ext hc c2, fun F hF _ hx => Ext.trans hF hc.len hx c2⟩
noncomputable def behM : List DV → List Cmd → List DV
  | s, [] => s
  | s, c :: l => behM (applyS s c).1 l
theorem behM_play : ∀ (l : List Cmd) (s : List DV) (acc : List Reply), (playL s l acc).1 = behM s l
  | [], _, _ => rfl
  | c :: l, s, acc => behM_play l (applyS s c).1 (acc ++ [(applyS s c).2])
theorem behM_ok {l : List Cmd} (h : l.length ≤ 60) : ∃ ps os, behM zeroSt l = cellsS ps os ∧ okSt 60 ps os := by
  obtain ⟨qs, rs, e2, h2⟩ := playL_st l [] zero_st (by decide) (by omega)
  refine ⟨qs, rs, ?_, h2.mono (by omega)⟩
  rw [← e2, behM_play]
  rfl
theorem zst_ok2 : okSt 0 [] (List.replicate 8 ⟨0, zeroRep⟩) := zero_st
theorem st_small {k : Int} {ps : List Pair} {os : List Owner} (h : okSt k ps os) (hk : k ≤ 4611686018427387904) : ∃ bs, bytesSt (cellsS ps os) = bytesP bs ∧ bs.length ≤ 1000000 := by
  have hv := h.v hk
  have h1 : isPs (pairsX ps) := right_isPs h.1.isP h.1.right hv.1
  have h2 : ∀ o ∈ os, okBo o := fun o ho => by
    have hv2 := hv.2 o (by rw [show ownS (cellsS ps os) = ownsD os from own_mk h.own, ownersOf_D h.2.1 rfl]; exact ho)
    exact okO_bo ((h.2.2 o ho).right) ((h.2.2 o ho).2.2.1.isP) hv2.1 hv2.2
  have h3 := (isLn.nil.prs h1).ows h2
  have e : bytesSt (cellsS ps os) = owsX (prX [] (pairsX ps)) os := by
    unfold bytesSt
    rw [h.right, show prsS (cellsS ps os) = pairsX ps from rfl, show ownS (cellsS ps os) = ownsD os from own_mk h.own, ownersOf_D h.2.1 rfl]
    rfl
  obtain ⟨bs, e2, h4⟩ := h3
  have := h.2.1
  exact ⟨bs, by rw [e, e2], by omega⟩
theorem bytesR2 (bs : List UInt8) : rowsD (bytesP bs) = bs.map fun b => .d (.sc (.int .u8 (b.toNat : Int))) := by
  induction bs with
  | nil => rfl
  | cons b bs ih => rw [List.map_cons, ← ih]; rfl
theorem bytesR2_spl {bs : List UInt8} {p : Nat} {to_ : Int} (h : p < bs.length) (hn : 0 ≤ to_ ∧ to_ < 256) : splice (rowsD (bytesP bs)) p [.d (.sc (.int .u8 to_))] = rowsD (bytesP (bs.set p (UInt8.ofNat to_.toNat))) := by
  have h2 : p < (rowsD (bytesP bs)).length := by rw [rowsB_length]; exact h
  rw [bytesR2 (bs.set p _), List.map_set, ← bytesR2, splice, List.length_singleton, List.set_eq_take_append_cons_drop, if_pos h2]
  have : (((UInt8.ofNat to_.toNat).toNat : Nat) : Int) = to_ := by simp; omega
  rw [this]
  simp
theorem within_r3 (n hi : Int) (h : 0 ≤ hi) : 0 ≤ within3 n 0 hi ∧ within3 n 0 hi ≤ hi := by
  unfold within3
  have h1 := Int.emod_nonneg n (show hi - 0 + 1 ≠ 0 by omega)
  have h2 := Int.emod_lt_of_pos n (show 0 < hi - 0 + 1 by omega)
  omega
set_option maxRecDepth 1000000 in
theorem v_sbytes (ys xs : List (List PD)) (at_ to_ how_ : Int) (hp1 : isB8 ys) (hp0 : isC xs) (hat : r64 at_) (hto : 0 ≤ to_ ∧ to_ < 256) (hho : r64 how_) : FnV Try.prog 7 [.d (.slc 1 ys), .d (.slc 7 xs), .d (.sc (.int .i64 at_)), .d (.sc (.int .u8 to_)), .d (.sc (.int .i64 how_))] (boolD true) := by
  obtain ⟨bs, hbs, hbl⟩ := id hp1
  have hyl : ys.length = bs.length := by rw [hbs]; exact bytesP_length bs
  obtain ⟨ls, hls⟩ : ∃ ls, ls = shortX xs := ⟨_, rfl⟩
  have hlC : isC ls := by rw [hls]; exact hp0.short
  have hl60 : ls.length ≤ 60 := by rw [hls]; exact short_len xs
  obtain ⟨l, hlx, hll⟩ := id hlC
  have hlen : ls.length = l.length := by rw [hlx]; simp [cmdsX]
  obtain ⟨n, hn⟩ : ∃ n : Int, n = l.length := ⟨_, rfl⟩
  have hn0 : 0 ≤ n := by omega
  have hnN : n.toNat = l.length := by omega
  obtain ⟨q, hq⟩ : ∃ q, q = behM zeroSt l := ⟨_, rfl⟩
  obtain ⟨ps, os, hqe, hqk⟩ := behM_ok (l := l) (by omega)
  rw [← hq] at hqe
  obtain ⟨z, hz⟩ : ∃ z, z = DV.d (.sc (.slice none 0 0)) :: Z48 := ⟨_, rfl⟩
  obtain ⟨s0, hs0⟩ : ∃ s0, s0 = zeroSt := ⟨_, rfl⟩
  rw [← hs0] at hq
  have hs0S : isSt s0 := by rw [hs0]; exact zst_ok2.is
  have hup0 : UpL (DV.d (.sc (.slice none 0 0)) :: Z48) s0 := by
    have e : upCs (DV.d (.sc (.slice none 0 0)) :: Z48) = s0 := by rw [hs0]; rfl
    rw [← e]
    exact upL_upCs _
  obtain ⟨LB, hLB⟩ : ∃ LB, LB = stB ps os := ⟨_, rfl⟩
  have hby : bytesSt q = bytesP LB := by rw [hqe, hLB]; exact bytesSt_B hqk.1.isP hqk.own hqk.2.1 hqk.right
  have hLl : 0 < LB.length ∧ LB.length ≤ 1000000 := by
    have h0 : 0 < (numB (ps.length : Int)).length := numF_pos 9 _
    obtain ⟨bs2, h2, h3⟩ := st_small hqk (by decide)
    rw [← hqe, hby] at h2
    have := bytesP_inj.1 h2
    refine ⟨?_, by rw [this]; omega⟩
    rw [hLB]
    unfold stB prB
    simp only [List.length_append]
    omega
  have hPut : FnD Try.prog 31 [.agg q] [] (fun r st' => ∃ v c m, c = rowsD (bytesP LB) ∧ m = LB.length ∧ r = .view 1 0 v 0 m ∧ st' = [⟨5, c, true, v, true⟩]) := by
    have hv := hqk.v (by decide)
    rw [hqe] at hby ⊢
    refine w_putRE (pairsX ps) (ownsD os) LB hqk.is.prs ?_ ?_ ?_ hqk.right hby
    · exact hqk.own
    · exact hv.1
    · have h2 := hv.2
      rw [show ownS (cellsS ps os) = ownsD os from own_mk hqk.own] at h2
      exact h2
  obtain ⟨GFsSh, hFsSh⟩ : ∃ F, F = FsSh0 := ⟨_, rfl⟩
  obtain ⟨GFsSD, hFsSD⟩ : ∃ F, F = FsSD0 := ⟨_, rfl⟩
  obtain ⟨GFsPq, hFsPq⟩ : ∃ F, F = FsPq0 := ⟨_, rfl⟩
  obtain ⟨GFsUm, hFsUm⟩ : ∃ F, F = FsUm0 := ⟨_, rfl⟩
  obtain ⟨GFsGs, hFsGs⟩ : ∃ F, F = FsGs0 := ⟨_, rfl⟩
  obtain ⟨GFsGr, hFsGr⟩ : ∃ F, F = FsGr0 := ⟨_, rfl⟩
  obtain ⟨GFsSE, hFsSE⟩ : ∃ F, F = FsSE0 := ⟨_, rfl⟩
  obtain ⟨GFsS7, hFsS7⟩ : ∃ F, F = FsS70 := ⟨_, rfl⟩
  have hH : SoundK Try.prog [kn_short GFsSh, kn_applyR GFsSD, kn_within3 GFsPq, kn_roomy GFsUm, kn_getS GFsGs, kn_getS3 GFsGr, kn_statesR GFsSE, kn_intact GFsUm, kn_runs GFsS7] := by subst hFsSh hFsSD hFsPq hFsUm hFsGs hFsGr hFsSE hFsS7; exact orK_ok ok_short (orK_ok ok_applyR (orK_ok ok_within3 (orK_ok ok_roomy (orK_ok ok_getS (orK_ok ok_getS3 (orK_ok ok_statesR (orK_ok ok_intact (orK_ok ok_runs noK_ok))))))))
  have hB : SoundB Try.prog [] := by subst hFsSh hFsSD hFsPq hFsUm hFsGs hFsGr hFsSE hFsS7; exact noB_ok
  refine FnD_cbv (T := fun _ => tabY [42, 61, 1011, 1016, 1018, 1020, 1022, 1039, 1043, 1044, 1038, 1045, 1047, 1075, 1083, 1088, 1093, 1081, 1086, 1091, 1096, 1098, 1099, 1107, 1108, 5004] [8, 9, 18]) (H := fun _ => [kn_short GFsSh, kn_applyR GFsSD, kn_within3 GFsPq, kn_roomy GFsUm, kn_getS GFsGs, kn_getS3 GFsGr, kn_statesR GFsSE, kn_intact GFsUm, kn_runs GFsS7]) (tabY_ok _ _) hH follows_mixed Try.func7 rfl Try.ntmps7 (by simp) fun A X W hA hX hW => ?_
  cbv
  have y1 : GFsSh.short xs = ls := by subst hFsSh; exact hls.symm
  have y2 : A.len ls = n := by subst hA; show (ls.length : Int) = n; rw [hlen, hn]
  cbv at y1
  cbv at y2
  by_cases h500 : 500 < ys.length
  · obtain ⟨bb, hbb⟩ : ∃ bb, bb = ys.take 500 := ⟨_, rfl⟩
    have hbB : isB8 bb := ⟨bs.take 500, by rw [hbb, hbs, bytesP_take], by rw [List.length_take]; omega⟩
    have g1 : A.cmp .gtr (A.len ys) 500 = true := by subst hA; exact decide_eq_true (by show (500 : Int) < (ys.length : Int); omega)
    have g2 : A.sub ys 0 500 = bb := by subst hA; rw [hbb]; rfl
    have g3 : (0 : Int) ≤ 0 ∧ (0 : Int) ≤ 500 ∧ (500 : Int) ≤ (ys.length : Int) := ⟨by omega, by omega, by omega⟩
    cbv at g1
    cbv at g2
    repeat' first
      | (simp only [g1, g2, y1]; cbv)
      | (refine And.intro ?_ ?_)
      | (refine part (fun h => ?_) (fun h => ?_) <;> try cbv)
    rotate_right 1
    · refine loopL (T := fun _ => tabY [42, 61, 1011, 1016, 1018, 1020, 1022, 1039, 1043, 1044, 1038, 1045, 1047, 1075, 1083, 1088, 1093, 1081, 1086, 1091, 1096, 1098, 1099, 1107, 1108, 5004] [8, 9, 18]) (H := fun _ => [kn_short GFsSh, kn_applyR GFsSD, kn_within3 GFsPq, kn_roomy GFsUm, kn_getS GFsGs, kn_getS3 GFsGr, kn_statesR GFsSE, kn_intact GFsUm, kn_runs GFsS7]) (tabY_ok _ _) hH follows_mixed hA hX
        (fun x : Int × List DV => (0 ≤ x.1 ∧ x.1 ≤ n) ∧ isSt x.2 ∧ q = behM x.2 (l.drop x.1.toNat))
        (fun x => [(0, .d (.slc 1 bb)), (1, .d (.slc 7 ls)), (2, .d (.sc (.int .i64 at_))), (3, .d (.sc (.int .u8 to_))), (4, .d (.sc (.int .i64 how_))), (11, .ref 0 0 0), (12, .d (.sc (.int .i64 x.1)))])
        (fun x => [⟨34, x.2, false, 0, true⟩]) (fun x => n.toNat - x.1.toNat) (0, s0) ?_ ?_ ?_
      · exact ⟨⟨Int.le_refl 0, hn0⟩, hs0S, hq⟩
      · exact told_upst ⟨_, _, rfl, ⟨rfl, rfl, rfl, rfl, hup0⟩, rfl⟩ ⟨.inl (UpD.refl _), .inl (UpD.refl _), .inl (UpD.refl _), .inl (UpD.refl _), .inl (UpD.refl _), .inl (UpD.refl _), .inl (UpD.refl _), trivial⟩
      rintro R ⟨i, s⟩ hR ⟨hi, hs, hqi⟩
      replace hi : 0 ≤ i ∧ i ≤ n := hi
      replace hs : isSt s := hs
      replace hqi : q = behM s (l.drop i.toNat) := hqi
      have hsl := hs.len
      have hsc := hs.closed
      cbv
      simp only [y2]
      refine part (fun h => ?_) (fun h => ?_) <;> cbv
      · have hin : i < n := by subst hA; exact of_decide_eq_true h
        repeat' first
          | (((with_reducible refine regionU [] [] [0, 0, 0, 0, 0, 0, 0, 0] (T := fun _ => tabY [42, 61, 1011, 1016, 1018, 1020, 1022, 1039, 1043, 1044, 1038, 1045, 1047, 1075, 1083, 1088, 1093, 1081, 1086, 1091, 1096, 1098, 1099, 1107, 1108, 5004] []) (H := fun _ => [kn_short GFsSh, kn_applyR GFsSD, kn_within3 GFsPq, kn_roomy GFsUm, kn_getS GFsGs, kn_getS3 GFsGr, kn_statesR GFsSE, kn_intact GFsUm, kn_runs GFsS7]) (B := fun _ => []) (R := fun _ => []) (A := A) (tabY_ok _ _) hH noB_ok noR_ok follows_mixed hA hX (by kernel_rfl) (by kernel_rfl) (by kernel_rfl) (by kernel_rfl) (by kernel_rfl) ?_) <;> cbv))
          | (refine And.intro ?_ ?_)
        all_goals subst hX hFsSD
        all_goals have hlt : i < l.length := by omega
        all_goals have hrow := crow hlx hi.1 hlt
        all_goals have hd : l.drop i.toNat = (l[i.toNat]'(by omega)) :: l.drop (i + 1).toNat := by rw [List.drop_eq_getElem_cons (by omega), show i.toNat + 1 = (i + 1).toNat by omega]
        all_goals generalize l[i.toNat]'(by omega) = c at hrow hd
        all_goals rw [hd] at hqi
        all_goals replace hqi : q = behM (applyS s c).1 (l.drop (i + 1).toNat) := hqi
        all_goals have hai := hs.apply c
        all_goals have hal := hai.len
        all_goals have hac := hai.closed
        all_goals obtain ⟨t, ht⟩ : ∃ t, t = applyS s c := ⟨_, rfl⟩
        all_goals rw [← ht] at hqi hai hal hac
        all_goals have ht2 : applyS s ⟨c.kind, c.client, c.seq, c.key, c.fin, c.old, c.val⟩ = t := ht.symm
        all_goals have ei : IntKind.wrap .i64 (i + 1) = i + 1 := wrap_i64 (by unfold r64; omega)
        all_goals subst hA
        all_goals try simp only [A0, nc, FsSD0, hrow, Cmd.row, List.map_cons, List.map_nil, Nat.zero_add, List.getElem?_cons_zero, List.getElem?_cons_succ, List.drop_zero, List.take_succ_cons, List.take_zero, List.length_cons, List.length_nil, ht2]
        all_goals first
          | exact hs
          | exact rfl
          | exact ⟨hi.1, by omega⟩
          | (show List.length _ = 49 * 1; assumption)
          | exact ⟨rfl, by simp, rfl⟩
          | simp
          | (rw [hR]
             refine ⟨(i + 1, t.1), ⟨⟨by simp only; omega, by simp only; omega⟩, hai, hqi⟩, by simp only; omega, told_keep [0] rfl ?_ ?_⟩
             · simp [keepSt, pullBox, pullL_closed _ _ hac]
             · simp [toldP, getS, pullD, ei])
          | fail
      · have hin : ¬ i < n := by subst hA; exact of_decide_eq_false h
        have hqs : q = s := by rw [hqi, List.drop_eq_nil_of_le (by omega)]; rfl
        have hPut2 := hPut
        rw [hqs] at hPut2
        obtain ⟨w, hw⟩ : ∃ w, w = within3 how_ 0 2 := ⟨_, rfl⟩
        have hwr := within_r3 how_ 2 (by decide)
        rw [← hw] at hwr
        obtain ⟨kk, hkk⟩ : ∃ kk, kk = within3 at_ 0 ((LB.length : Int) - 1) := ⟨_, rfl⟩
        have hkr := within_r3 at_ ((LB.length : Int) - 1) (by omega)
        rw [← hkk] at hkr
        have hkN0 : 0 ≤ kk ∧ kk.toNat < LB.length := by omega
        have y3 : GFsPq.within3 how_ 0 2 = w := by subst hFsPq; exact hw.symm
        have y5 : ∀ m : Nat, m = LB.length → GFsPq.within3 at_ 0 (A.bin .sub .i64 (A.int m) 1) = kk := fun m hm => by
          subst hFsPq hA
          show within3 at_ 0 (IntKind.wrap .i64 ((m : Int) - 1)) = kk
          rw [wrap_i64 (by unfold r64; omega), hkk, hm]
        cbv at y3
        (with_reducible refine goL (c := .region 9 _ _) (T := fun _ => tabY [42, 61, 1011, 1016, 1018, 1020, 1022, 1039, 1043, 1044, 1038, 1045, 1047, 1075, 1083, 1088, 1093, 1081, 1086, 1091, 1096, 1098, 1099, 1107, 1108, 5004] [18]) (H := fun _ => [kn_short GFsSh, kn_applyR GFsSD, kn_within3 GFsPq, kn_roomy GFsUm, kn_getS GFsGs, kn_getS3 GFsGr, kn_statesR GFsSE, kn_intact GFsUm, kn_runs GFsS7]) (tabY_ok _ _) hH follows_mixed hA hX ?_) <;> cbv
        repeat' (refine And.intro ?_ ?_)
        rotate_right 1
        · refine callL hX (FnD.newRow hPut2 (by simp [closedL, closedD, hsc]) fun v c m hc hm => ?_)
          have y4 := y5 m hm
          have hkN : kk.toNat < LB.length := hkN0.2
          have hkb : 0 ≤ kk ∧ kk < (m : Int) := by omega
          have hkb2 : (0 : Int) ≤ 0 ∧ 0 ≤ kk ∧ kk ≤ (m : Int) := ⟨by omega, by omega, by omega⟩
          have hcm : c.length = m * 1 := by rw [hc, rowsB_length, hm, Nat.mul_one]
          have hml : m ≤ 1000000 := by omega
          have hcf : 0 + kk.toNat * 1 + 1 ≤ c.length := by omega
          have hs3 : span3 0 (IntKind.wrap .i64 ((m : Int) - 1)) := by
            rw [wrap_i64 (by unfold r64; omega)]
            exact ⟨by omega, by omega, by omega⟩
          cbv at y4
          obtain ⟨M0, hM0⟩ : ∃ M0 : Int, M0 = (m : Int) := ⟨_, rfl⟩
          cbv
          have hw3 : w = 0 ∨ w = 1 ∨ w = 2 := by omega
          rcases hw3 with hw3 | hw3 | hw3
          all_goals subst hw3
          · have z1 : A.cmp .eql 0 0 = true := by subst hA; rfl
            cbv at z1
            repeat' first
              | (simp only [y3, y4, z1]; cbv)
              | (refine And.intro ?_ ?_)
            rotate_right 1
            · have hkn := hkN
              obtain ⟨rc, hrc0⟩ : ∃ rc, rc = A.spl c (A.off 0 kk 1) [.d (.sc (.int .u8 to_))] := ⟨_, rfl⟩
              have e7 : A.spl c (A.off 0 kk 1) [.d (.sc (.int .u8 to_))] = rc := hrc0.symm
              obtain ⟨rb, hrb⟩ : ∃ rb, rb = LB.set kk.toNat (UInt8.ofNat to_.toNat) := ⟨_, rfl⟩
              obtain ⟨rx, hrx⟩ : ∃ rx, rx = bytesP rb := ⟨_, rfl⟩
              have hrbl : rb.length = LB.length := by rw [hrb, List.length_set]
              obtain ⟨N, hN0⟩ : ∃ N, N = m := ⟨_, rfl⟩
              obtain ⟨V, hV0⟩ : ∃ V, V = v := ⟨_, rfl⟩
              have hTR : isB8 rx ∧ N = rx.length ∧ rc = rowsD rx := by
                refine ⟨⟨rb, hrx, by omega⟩, by rw [hrx, bytesP_length, hrbl, hN0, hm], ?_⟩
                rw [hrc0, hrx, hrb, hc]
                subst hA
                show splice (rowsD (bytesP LB)) (0 + kk.toNat * 1) _ = _
                rw [Nat.zero_add, Nat.mul_one]
                exact bytesR2_spl hkn hto
              cbv at e7
              simp only [e7, ← hV0, ← hN0]
              refine pauseL hX (s' := [(0, .d (.slc 1 bb)), (13, .view 1 1 V 0 N)]) (told_less ⟨.inl rfl, .inl rfl, trivial⟩) ?_
              obtain ⟨hrxB, hN, hrc⟩ : isB8 rx ∧ N = rx.length ∧ rc = rowsD rx := hTR
              have hrcl : closedL 0 rc = true := by rw [hrc]; exact rows_closed rx
              have hszr : ∀ x ∈ rx, x.length = 1 := by obtain ⟨rb, hrb, _⟩ := id hrxB; rw [hrb]; exact bytesP_sz rb
              obtain ⟨⟨sp, ep⟩, hsp⟩ : ∃ q, getSt rx = q := ⟨_, rfl⟩
              have hspS : isSt sp := by
                obtain ⟨rb, hrb, hrbl⟩ := id hrxB
                have := (getSt_is hrbl).1
                rw [← hrb, hsp] at this
                exact this
              have hspl := hspS.len
              have hspc := hspS.closed
              obtain ⟨⟨sg, eg⟩, hsg⟩ : ∃ q, getSt bb = q := ⟨_, rfl⟩
              have hsgS : isSt sg := by
                obtain ⟨rb, hrb, hrbl⟩ := id hbB
                have := (getSt_is hrbl).1
                rw [← hrb, hsg] at this
                exact this
              have hsgl := hsgS.len
              have hsgc := hsgS.closed
              have hG : FnD Try.prog 32 [.view 1 0 V 0 N] [⟨5, rc, true, V, true⟩] (fun r st' => r = .tup [.agg sp, .d (.sc (.int .i64 ep))] ∧ st' = [⟨5, rc, true, V, true⟩]) := by
                have := w_getS rx rx rc V 0 N hrxB hrc (by omega) (by rw [List.drop_zero, hN, List.take_length])
                rw [hsp] at this
                exact this
              have hG3 : FnV Try.prog 33 [.d (.slc 1 rx)] (.tup [.agg sp, .d (.sc (.int .i64 ep))]) := by
                have := v_getS3 rx hrxB
                rw [hsp] at this
                exact this
              have hfz1 : fzL 1 V 1 rx [DV.d (PD.sc (Value.int .u8 to_))] = [DV.d (PD.sc (Value.int .u8 to_))] := rfl
              have hcl3 : closedD 0 (.tup [.agg sp, .d (.sc (.int .i64 ep))]) = true := by simp [closedD, closedL, hspc]
              obtain ⟨fu, hfu⟩ : ∃ fu, fu = roomyX bb 4 := ⟨_, rfl⟩
              have hM4 : isM 4 := ⟨4, rfl⟩
              have hbn : (0 : Int) ≤ 0 ∧ 0 ≤ (bb.length : Int) ∧ (bb.length : Int) ≤ (fu.length : Int) := by
                have := roomy_len bb 4
                rw [← hfu] at this
                exact ⟨by omega, by omega, by omega⟩
              have j4 : GFsUm.roomy bb 4 = fu := by subst hFsUm; exact hfu.symm
              have j5 : A.sub fu 0 (A.len bb) = bb := by subst hA; show (fu.drop 0).take ((bb.length : Int).toNat - 0) = bb; rw [hfu, show (bb.length : Int).toNat - 0 = bb.length by omega]; exact roomy_take bb 4
              have j6 : GFsGs.getS bb = (sg, eg) := by subst hFsGs; exact hsg
              have j7 : GFsGr.getS3 bb = (sg, eg) := by subst hFsGr; exact hsg
              have j8 : GFsSE.statesR sg sg = true := by subst hFsSE; exact sameSt_refl sg
              have j9 : GFsSE.statesR sp sp = true := by subst hFsSE; exact sameSt_refl sp
              have ja : A.cmp .eql eg eg = true := by subst hA; exact decide_eq_true rfl
              have jb : A.cmp .eql ep ep = true := by subst hA; exact decide_eq_true rfl
              have jc : GFsUm.intact fu bb 4 = true := by subst hFsUm; rfl
              have jd : GFsS7.runs = true := by subst hFsS7; rfl
              have je : A.cond true true false = true := by subst hA; rfl
              cbv at j4
              cbv at j5
              cbv at j6
              cbv at j7
              cbv at j8
              cbv at j9
              cbv at ja
              cbv at jb
              cbv at jc
              cbv at jd
              cbv at je
              (with_reducible refine goL (c := .region 18 _ _) (T := fun _ => tabY [42, 61, 1011, 1016, 1018, 1020, 1022, 1039, 1043, 1044, 1038, 1045, 1047, 1075, 1083, 1088, 1093, 1081, 1086, 1091, 1096, 1098, 1099, 1107, 1108, 5004] [21, 22, 23]) (H := fun _ => [kn_short GFsSh, kn_applyR GFsSD, kn_within3 GFsPq, kn_roomy GFsUm, kn_getS GFsGs, kn_getS3 GFsGr, kn_statesR GFsSE, kn_intact GFsUm, kn_runs GFsS7]) (tabY_ok _ _) hH follows_mixed hA hX ?_) <;> cbv
              repeat' first
                | (simp only [j4, j5, j6, j7]; cbv)
                | (refine And.intro ?_ ?_)
              rotate_right 1
              · refine callL hX (FnD.rowKeep 1 hG rfl rfl hcl3 hrcl ?_)
                cbv
                repeat' (refine And.intro ?_ ?_)
                rotate_right 1
                · refine callL hX (FnD.freezeTo (args' := [.d (.slc 1 rx)]) 1 1 rx ⟨5, rc, true, V, true⟩ rfl rfl hrc hszr (by simp [fzD, hN]) (FnV.use hG3 rfl ?_))
                  simp only [fzSt, fzBox, List.getElem?_cons_zero, List.getElem?_cons_succ, List.map_cons, List.map_nil, List.set_cons_succ, List.set_cons_zero, fzL_closed _ _ _ _ _ hspc, fzL_closed _ _ _ _ _ hsgc, fzL_closed _ _ _ _ _ hsc, hfz1]
                  cbv
                  repeat' first
                    | (simp only [j8, j9, ja, jb, jc, jd, je]; cbv)
                    | (refine And.intro ?_ ?_)
                  all_goals first
                    | (subst hA; exact rfl)
                    | (subst hA; show Region.lexB _ _ = true; kernel_rfl)
                    | (subst hA; show turnsB _ = true; kernel_rfl)
                    | (subst hA; show List.length _ = 49 * 1; first | exact hsl | exact hspl | exact hsgl | rfl)
                    | (subst hA; show List.length _ = 49 * 1; exact hsl)
                    | (subst hFsUm; exact hbB)
                    | (subst hFsUm; exact hM4)
                    | (subst hA; exact hbn)
                    | (subst hA; exact g3)
                    | (subst hFsGs; exact hbB)
                    | (subst hFsGr; exact hbB)
                    | (subst hFsSE; exact hsgS)
                    | (subst hFsSE; exact hspS)
                    | (subst hFsPq; exact hat)
                    | (subst hFsPq; exact hho)
                    | (subst hFsPq hA; exact hs3)
                    | (subst hFsPq; exact ⟨by decide, by decide, by decide⟩)
                    | (subst hFsSh; exact hp0)
                    | (subst hA; exact hkb)
                    | (subst hA; exact hkb2)
                    | (subst hA; exact hcf)
                    | (subst hA; exact hcm)
                    | (subst hA; simp only [A0]; omega)
                    | (subst hA; exact Nat.le_refl 1)
                    | (subst hA; intro q; exact q)
                    | (subst hA; intro _; exact trivial)
                    | (subst hA; intro _; exact rfl)
                    | (subst hA; intro _; show List.length _ = 49 * 1; first | exact hspl | exact hsgl)
                    | (subst hA hFsSE; intro _; exact hspS)
                    | (subst hA hFsUm; intro _; exact hbB)
                    | (subst hA hFsUm; intro _; exact hfu)
                    | (subst hA hFsUm; intro _; exact hM4)
                    | (subst hA hW; exact ret_v rfl rfl)
                    | fail
                all_goals first
                  | (subst hA; exact rfl)
                  | (subst hA; show Region.lexB _ _ = true; kernel_rfl)
                  | (subst hA; show turnsB _ = true; kernel_rfl)
                  | (subst hA; show List.length _ = 49 * 1; first | exact hsl | exact hspl | exact hsgl | rfl)
                  | (subst hA; show List.length _ = 49 * 1; exact hsl)
                  | (subst hFsUm; exact hbB)
                  | (subst hFsUm; exact hM4)
                  | (subst hA; exact hbn)
                  | (subst hA; exact g3)
                  | (subst hFsGs; exact hbB)
                  | (subst hFsGr; exact hbB)
                  | (subst hFsSE; exact hsgS)
                  | (subst hFsSE; exact hspS)
                  | (subst hFsPq; exact hat)
                  | (subst hFsPq; exact hho)
                  | (subst hFsPq hA; exact hs3)
                  | (subst hFsPq; exact ⟨by decide, by decide, by decide⟩)
                  | (subst hFsSh; exact hp0)
                  | (subst hA; exact hkb)
                  | (subst hA; exact hkb2)
                  | (subst hA; exact hcf)
                  | (subst hA; exact hcm)
                  | (subst hA; simp only [A0]; omega)
                  | (subst hA; exact Nat.le_refl 1)
                  | (subst hA; intro q; exact q)
                  | (subst hA; intro _; exact trivial)
                  | (subst hA; intro _; exact rfl)
                  | (subst hA; intro _; show List.length _ = 49 * 1; first | exact hspl | exact hsgl)
                  | (subst hA hFsSE; intro _; exact hspS)
                  | (subst hA hFsUm; intro _; exact hbB)
                  | (subst hA hFsUm; intro _; exact hfu)
                  | (subst hA hFsUm; intro _; exact hM4)
                  | (subst hA hW; exact ret_v rfl rfl)
                  | fail
              all_goals first
                | (subst hA; exact rfl)
                | (subst hA; show Region.lexB _ _ = true; kernel_rfl)
                | (subst hA; show turnsB _ = true; kernel_rfl)
                | (subst hA; show List.length _ = 49 * 1; first | exact hsl | exact hspl | exact hsgl | rfl)
                | (subst hA; show List.length _ = 49 * 1; exact hsl)
                | (subst hFsUm; exact hbB)
                | (subst hFsUm; exact hM4)
                | (subst hA; exact hbn)
                | (subst hA; exact g3)
                | (subst hFsGs; exact hbB)
                | (subst hFsGr; exact hbB)
                | (subst hFsSE; exact hsgS)
                | (subst hFsSE; exact hspS)
                | (subst hFsPq; exact hat)
                | (subst hFsPq; exact hho)
                | (subst hFsPq hA; exact hs3)
                | (subst hFsPq; exact ⟨by decide, by decide, by decide⟩)
                | (subst hFsSh; exact hp0)
                | (subst hA; exact hkb)
                | (subst hA; exact hkb2)
                | (subst hA; exact hcf)
                | (subst hA; exact hcm)
                | (subst hA; simp only [A0]; omega)
                | (subst hA; exact Nat.le_refl 1)
                | (subst hA; intro q; exact q)
                | (subst hA; intro _; exact trivial)
                | (subst hA; intro _; exact rfl)
                | (subst hA; intro _; show List.length _ = 49 * 1; first | exact hspl | exact hsgl)
                | (subst hA hFsSE; intro _; exact hspS)
                | (subst hA hFsUm; intro _; exact hbB)
                | (subst hA hFsUm; intro _; exact hfu)
                | (subst hA hFsUm; intro _; exact hM4)
                | (subst hA hW; exact ret_v rfl rfl)
                | fail
            all_goals first
              | (subst hA; exact rfl)
              | (subst hA; show Region.lexB _ _ = true; kernel_rfl)
              | (subst hA; show turnsB _ = true; kernel_rfl)
              | (subst hA; show List.length _ = 49 * 1; first | exact hsl | exact hspl | exact hsgl | rfl)
              | (subst hA; show List.length _ = 49 * 1; exact hsl)
              | (subst hFsUm; exact hbB)
              | (subst hFsUm; exact hM4)
              | (subst hA; exact hbn)
              | (subst hA; exact g3)
              | (subst hFsGs; exact hbB)
              | (subst hFsGr; exact hbB)
              | (subst hFsSE; exact hsgS)
              | (subst hFsSE; exact hspS)
              | (subst hFsPq; exact hat)
              | (subst hFsPq; exact hho)
              | (subst hFsPq hA; exact hs3)
              | (subst hFsPq; exact ⟨by decide, by decide, by decide⟩)
              | (subst hFsSh; exact hp0)
              | (subst hA; exact hkb)
              | (subst hA; exact hkb2)
              | (subst hA; exact hcf)
              | (subst hA; exact hcm)
              | (subst hA; simp only [A0]; omega)
              | (subst hA; exact Nat.le_refl 1)
              | (subst hA; intro q; exact q)
              | (subst hA; intro _; exact trivial)
              | (subst hA; intro _; exact rfl)
              | (subst hA; intro _; show List.length _ = 49 * 1; first | exact hspl | exact hsgl)
              | (subst hA hFsSE; intro _; exact hspS)
              | (subst hA hFsUm; intro _; exact hbB)
              | (subst hA hFsUm; intro _; exact hfu)
              | (subst hA hFsUm; intro _; exact hM4)
              | (subst hA hW; exact ret_v rfl rfl)
              | fail
          · have z1 : A.cmp .eql 1 0 = false := by subst hA; rfl
            have z2 : A.cmp .eql 1 1 = true := by subst hA; rfl
            cbv at z1
            cbv at z2
            repeat' first
              | (simp only [y3, y4, z1, z2]; cbv)
              | (refine And.intro ?_ ?_)
            rotate_right 1
            · obtain ⟨N, hN0⟩ : ∃ N, N = kk.toNat := ⟨_, rfl⟩
              obtain ⟨V, hV0⟩ : ∃ V, V = v := ⟨_, rfl⟩
              have e7 : A.nat kk = N := by subst hA; exact hN0.symm
              obtain ⟨rb, hrb⟩ : ∃ rb, rb = LB.take N := ⟨_, rfl⟩
              obtain ⟨rx, hrx⟩ : ∃ rx, rx = bytesP rb := ⟨_, rfl⟩
              have hrbl : rb.length = N := by rw [hrb, List.length_take]; omega
              obtain ⟨rc, hrc0⟩ : ∃ rc, rc = c.take N := ⟨_, rfl⟩
              have hTR : isB8 rx ∧ N = rx.length ∧ rc = rowsD rx := by
                refine ⟨⟨rb, hrx, by omega⟩, by rw [hrx, bytesP_length, hrbl], ?_⟩
                rw [hrc0, hrx, hrb, hc, bytesR2, bytesR2, List.map_take]
              cbv at e7
              simp only [e7, ← hV0]
              refine pauseL hX (s' := [(0, .d (.slc 1 bb)), (13, .view 1 1 V 0 N)]) (told_hide 1 N ⟨5, c, true, V, true⟩ rfl ⟨.inl rfl, .inl rfl, trivial⟩) ?_
              show X.st _ _ _ [_, ⟨5, c.take N, true, V, true⟩]
              rw [← hrc0]
              obtain ⟨hrxB, hN, hrc⟩ : isB8 rx ∧ N = rx.length ∧ rc = rowsD rx := hTR
              have hrcl : closedL 0 rc = true := by rw [hrc]; exact rows_closed rx
              have hszr : ∀ x ∈ rx, x.length = 1 := by obtain ⟨rb, hrb, _⟩ := id hrxB; rw [hrb]; exact bytesP_sz rb
              obtain ⟨⟨sp, ep⟩, hsp⟩ : ∃ q, getSt rx = q := ⟨_, rfl⟩
              have hspS : isSt sp := by
                obtain ⟨rb, hrb, hrbl⟩ := id hrxB
                have := (getSt_is hrbl).1
                rw [← hrb, hsp] at this
                exact this
              have hspl := hspS.len
              have hspc := hspS.closed
              obtain ⟨⟨sg, eg⟩, hsg⟩ : ∃ q, getSt bb = q := ⟨_, rfl⟩
              have hsgS : isSt sg := by
                obtain ⟨rb, hrb, hrbl⟩ := id hbB
                have := (getSt_is hrbl).1
                rw [← hrb, hsg] at this
                exact this
              have hsgl := hsgS.len
              have hsgc := hsgS.closed
              have hG : FnD Try.prog 32 [.view 1 0 V 0 N] [⟨5, rc, true, V, true⟩] (fun r st' => r = .tup [.agg sp, .d (.sc (.int .i64 ep))] ∧ st' = [⟨5, rc, true, V, true⟩]) := by
                have := w_getS rx rx rc V 0 N hrxB hrc (by omega) (by rw [List.drop_zero, hN, List.take_length])
                rw [hsp] at this
                exact this
              have hG3 : FnV Try.prog 33 [.d (.slc 1 rx)] (.tup [.agg sp, .d (.sc (.int .i64 ep))]) := by
                have := v_getS3 rx hrxB
                rw [hsp] at this
                exact this
              have hfz1 : fzL 1 V 1 rx [DV.d (PD.sc (Value.int .u8 to_))] = [DV.d (PD.sc (Value.int .u8 to_))] := rfl
              have hcl3 : closedD 0 (.tup [.agg sp, .d (.sc (.int .i64 ep))]) = true := by simp [closedD, closedL, hspc]
              obtain ⟨fu, hfu⟩ : ∃ fu, fu = roomyX bb 4 := ⟨_, rfl⟩
              have hM4 : isM 4 := ⟨4, rfl⟩
              have hbn : (0 : Int) ≤ 0 ∧ 0 ≤ (bb.length : Int) ∧ (bb.length : Int) ≤ (fu.length : Int) := by
                have := roomy_len bb 4
                rw [← hfu] at this
                exact ⟨by omega, by omega, by omega⟩
              have j4 : GFsUm.roomy bb 4 = fu := by subst hFsUm; exact hfu.symm
              have j5 : A.sub fu 0 (A.len bb) = bb := by subst hA; show (fu.drop 0).take ((bb.length : Int).toNat - 0) = bb; rw [hfu, show (bb.length : Int).toNat - 0 = bb.length by omega]; exact roomy_take bb 4
              have j6 : GFsGs.getS bb = (sg, eg) := by subst hFsGs; exact hsg
              have j7 : GFsGr.getS3 bb = (sg, eg) := by subst hFsGr; exact hsg
              have j8 : GFsSE.statesR sg sg = true := by subst hFsSE; exact sameSt_refl sg
              have j9 : GFsSE.statesR sp sp = true := by subst hFsSE; exact sameSt_refl sp
              have ja : A.cmp .eql eg eg = true := by subst hA; exact decide_eq_true rfl
              have jb : A.cmp .eql ep ep = true := by subst hA; exact decide_eq_true rfl
              have jc : GFsUm.intact fu bb 4 = true := by subst hFsUm; rfl
              have jd : GFsS7.runs = true := by subst hFsS7; rfl
              have je : A.cond true true false = true := by subst hA; rfl
              cbv at j4
              cbv at j5
              cbv at j6
              cbv at j7
              cbv at j8
              cbv at j9
              cbv at ja
              cbv at jb
              cbv at jc
              cbv at jd
              cbv at je
              (with_reducible refine goL (c := .region 18 _ _) (T := fun _ => tabY [42, 61, 1011, 1016, 1018, 1020, 1022, 1039, 1043, 1044, 1038, 1045, 1047, 1075, 1083, 1088, 1093, 1081, 1086, 1091, 1096, 1098, 1099, 1107, 1108, 5004] [21, 22, 23]) (H := fun _ => [kn_short GFsSh, kn_applyR GFsSD, kn_within3 GFsPq, kn_roomy GFsUm, kn_getS GFsGs, kn_getS3 GFsGr, kn_statesR GFsSE, kn_intact GFsUm, kn_runs GFsS7]) (tabY_ok _ _) hH follows_mixed hA hX ?_) <;> cbv
              repeat' first
                | (simp only [j4, j5, j6, j7]; cbv)
                | (refine And.intro ?_ ?_)
              rotate_right 1
              · refine callL hX (FnD.rowKeep 1 hG rfl rfl hcl3 hrcl ?_)
                cbv
                repeat' (refine And.intro ?_ ?_)
                rotate_right 1
                · refine callL hX (FnD.freezeTo (args' := [.d (.slc 1 rx)]) 1 1 rx ⟨5, rc, true, V, true⟩ rfl rfl hrc hszr (by simp [fzD, hN]) (FnV.use hG3 rfl ?_))
                  simp only [fzSt, fzBox, List.getElem?_cons_zero, List.getElem?_cons_succ, List.map_cons, List.map_nil, List.set_cons_succ, List.set_cons_zero, fzL_closed _ _ _ _ _ hspc, fzL_closed _ _ _ _ _ hsgc, fzL_closed _ _ _ _ _ hsc, hfz1]
                  cbv
                  repeat' first
                    | (simp only [j8, j9, ja, jb, jc, jd, je]; cbv)
                    | (refine And.intro ?_ ?_)
                  all_goals first
                    | (subst hA; exact rfl)
                    | (subst hA; show Region.lexB _ _ = true; kernel_rfl)
                    | (subst hA; show turnsB _ = true; kernel_rfl)
                    | (subst hA; show List.length _ = 49 * 1; first | exact hsl | exact hspl | exact hsgl | rfl)
                    | (subst hA; show List.length _ = 49 * 1; exact hsl)
                    | (subst hFsUm; exact hbB)
                    | (subst hFsUm; exact hM4)
                    | (subst hA; exact hbn)
                    | (subst hA; exact g3)
                    | (subst hFsGs; exact hbB)
                    | (subst hFsGr; exact hbB)
                    | (subst hFsSE; exact hsgS)
                    | (subst hFsSE; exact hspS)
                    | (subst hFsPq; exact hat)
                    | (subst hFsPq; exact hho)
                    | (subst hFsPq hA; exact hs3)
                    | (subst hFsPq; exact ⟨by decide, by decide, by decide⟩)
                    | (subst hFsSh; exact hp0)
                    | (subst hA; exact hkb)
                    | (subst hA; exact hkb2)
                    | (subst hA; exact hcf)
                    | (subst hA; exact hcm)
                    | (subst hA; simp only [A0]; omega)
                    | (subst hA; exact Nat.le_refl 1)
                    | (subst hA; intro q; exact q)
                    | (subst hA; intro _; exact trivial)
                    | (subst hA; intro _; exact rfl)
                    | (subst hA; intro _; show List.length _ = 49 * 1; first | exact hspl | exact hsgl)
                    | (subst hA hFsSE; intro _; exact hspS)
                    | (subst hA hFsUm; intro _; exact hbB)
                    | (subst hA hFsUm; intro _; exact hfu)
                    | (subst hA hFsUm; intro _; exact hM4)
                    | (subst hA hW; exact ret_v rfl rfl)
                    | fail
                all_goals first
                  | (subst hA; exact rfl)
                  | (subst hA; show Region.lexB _ _ = true; kernel_rfl)
                  | (subst hA; show turnsB _ = true; kernel_rfl)
                  | (subst hA; show List.length _ = 49 * 1; first | exact hsl | exact hspl | exact hsgl | rfl)
                  | (subst hA; show List.length _ = 49 * 1; exact hsl)
                  | (subst hFsUm; exact hbB)
                  | (subst hFsUm; exact hM4)
                  | (subst hA; exact hbn)
                  | (subst hA; exact g3)
                  | (subst hFsGs; exact hbB)
                  | (subst hFsGr; exact hbB)
                  | (subst hFsSE; exact hsgS)
                  | (subst hFsSE; exact hspS)
                  | (subst hFsPq; exact hat)
                  | (subst hFsPq; exact hho)
                  | (subst hFsPq hA; exact hs3)
                  | (subst hFsPq; exact ⟨by decide, by decide, by decide⟩)
                  | (subst hFsSh; exact hp0)
                  | (subst hA; exact hkb)
                  | (subst hA; exact hkb2)
                  | (subst hA; exact hcf)
                  | (subst hA; exact hcm)
                  | (subst hA; simp only [A0]; omega)
                  | (subst hA; exact Nat.le_refl 1)
                  | (subst hA; intro q; exact q)
                  | (subst hA; intro _; exact trivial)
                  | (subst hA; intro _; exact rfl)
                  | (subst hA; intro _; show List.length _ = 49 * 1; first | exact hspl | exact hsgl)
                  | (subst hA hFsSE; intro _; exact hspS)
                  | (subst hA hFsUm; intro _; exact hbB)
                  | (subst hA hFsUm; intro _; exact hfu)
                  | (subst hA hFsUm; intro _; exact hM4)
                  | (subst hA hW; exact ret_v rfl rfl)
                  | fail
              all_goals first
                | (subst hA; exact rfl)
                | (subst hA; show Region.lexB _ _ = true; kernel_rfl)
                | (subst hA; show turnsB _ = true; kernel_rfl)
                | (subst hA; show List.length _ = 49 * 1; first | exact hsl | exact hspl | exact hsgl | rfl)
                | (subst hA; show List.length _ = 49 * 1; exact hsl)
                | (subst hFsUm; exact hbB)
                | (subst hFsUm; exact hM4)
                | (subst hA; exact hbn)
                | (subst hA; exact g3)
                | (subst hFsGs; exact hbB)
                | (subst hFsGr; exact hbB)
                | (subst hFsSE; exact hsgS)
                | (subst hFsSE; exact hspS)
                | (subst hFsPq; exact hat)
                | (subst hFsPq; exact hho)
                | (subst hFsPq hA; exact hs3)
                | (subst hFsPq; exact ⟨by decide, by decide, by decide⟩)
                | (subst hFsSh; exact hp0)
                | (subst hA; exact hkb)
                | (subst hA; exact hkb2)
                | (subst hA; exact hcf)
                | (subst hA; exact hcm)
                | (subst hA; simp only [A0]; omega)
                | (subst hA; exact Nat.le_refl 1)
                | (subst hA; intro q; exact q)
                | (subst hA; intro _; exact trivial)
                | (subst hA; intro _; exact rfl)
                | (subst hA; intro _; show List.length _ = 49 * 1; first | exact hspl | exact hsgl)
                | (subst hA hFsSE; intro _; exact hspS)
                | (subst hA hFsUm; intro _; exact hbB)
                | (subst hA hFsUm; intro _; exact hfu)
                | (subst hA hFsUm; intro _; exact hM4)
                | (subst hA hW; exact ret_v rfl rfl)
                | fail
            all_goals first
              | (subst hA; exact rfl)
              | (subst hA; show Region.lexB _ _ = true; kernel_rfl)
              | (subst hA; show turnsB _ = true; kernel_rfl)
              | (subst hA; show List.length _ = 49 * 1; first | exact hsl | exact hspl | exact hsgl | rfl)
              | (subst hA; show List.length _ = 49 * 1; exact hsl)
              | (subst hFsUm; exact hbB)
              | (subst hFsUm; exact hM4)
              | (subst hA; exact hbn)
              | (subst hA; exact g3)
              | (subst hFsGs; exact hbB)
              | (subst hFsGr; exact hbB)
              | (subst hFsSE; exact hsgS)
              | (subst hFsSE; exact hspS)
              | (subst hFsPq; exact hat)
              | (subst hFsPq; exact hho)
              | (subst hFsPq hA; exact hs3)
              | (subst hFsPq; exact ⟨by decide, by decide, by decide⟩)
              | (subst hFsSh; exact hp0)
              | (subst hA; exact hkb)
              | (subst hA; exact hkb2)
              | (subst hA; exact hcf)
              | (subst hA; exact hcm)
              | (subst hA; simp only [A0]; omega)
              | (subst hA; exact Nat.le_refl 1)
              | (subst hA; intro q; exact q)
              | (subst hA; intro _; exact trivial)
              | (subst hA; intro _; exact rfl)
              | (subst hA; intro _; show List.length _ = 49 * 1; first | exact hspl | exact hsgl)
              | (subst hA hFsSE; intro _; exact hspS)
              | (subst hA hFsUm; intro _; exact hbB)
              | (subst hA hFsUm; intro _; exact hfu)
              | (subst hA hFsUm; intro _; exact hM4)
              | (subst hA hW; exact ret_v rfl rfl)
              | fail
          · have z1 : A.cmp .eql 2 0 = false := by subst hA; rfl
            have z2 : A.cmp .eql 2 1 = false := by subst hA; rfl
            have z3 : A.cmp .eql 2 2 = true := by subst hA; rfl
            cbv at z1
            cbv at z2
            cbv at z3
            repeat' first
              | (simp only [y3, y4, z1, z2, z3]; cbv)
              | (refine And.intro ?_ ?_)
            rotate_right 1
            · obtain ⟨rb, hrb⟩ : ∃ rb, rb = LB ++ [UInt8.ofNat to_.toNat] := ⟨_, rfl⟩
              obtain ⟨rx, hrx⟩ : ∃ rx, rx = bytesP rb := ⟨_, rfl⟩
              have hrbl : rb.length = LB.length + 1 := by rw [hrb]; simp
              obtain ⟨N, hN0⟩ : ∃ N, N = m + 1 := ⟨_, rfl⟩
              obtain ⟨V, hV0⟩ : ∃ V, V = A.nxt v := ⟨_, rfl⟩
              have e7 : A.pl m 1 = N := by subst hA; exact hN0.symm
              obtain ⟨rc, hrc0⟩ : ∃ rc, rc = A.app c (A.tk [.d (.sc (.int .u8 to_))] 0 1 1) := ⟨_, rfl⟩
              have e8 : A.app c (A.tk [.d (.sc (.int .u8 to_))] 0 1 1) = rc := hrc0.symm
              have e9 : A.nxt v = V := hV0.symm
              have hTR : isB8 rx ∧ N = rx.length ∧ rc = rowsD rx := by
                refine ⟨⟨rb, hrx, by omega⟩, by rw [hrx, bytesP_length, hrbl, hN0, hm], ?_⟩
                rw [hrc0, hrx, hrb, hc, rowsB_append, bytesR2 [_]]
                subst hA
                simp [A0]
                omega
              cbv at e7
              cbv at e8
              cbv at e9
              simp only [e7, e8, e9]
              refine pauseL hX (s' := [(0, .d (.slc 1 bb)), (13, .view 1 1 V 0 N)]) (told_less ⟨.inl rfl, .inl rfl, trivial⟩) ?_
              obtain ⟨hrxB, hN, hrc⟩ : isB8 rx ∧ N = rx.length ∧ rc = rowsD rx := hTR
              have hrcl : closedL 0 rc = true := by rw [hrc]; exact rows_closed rx
              have hszr : ∀ x ∈ rx, x.length = 1 := by obtain ⟨rb, hrb, _⟩ := id hrxB; rw [hrb]; exact bytesP_sz rb
              obtain ⟨⟨sp, ep⟩, hsp⟩ : ∃ q, getSt rx = q := ⟨_, rfl⟩
              have hspS : isSt sp := by
                obtain ⟨rb, hrb, hrbl⟩ := id hrxB
                have := (getSt_is hrbl).1
                rw [← hrb, hsp] at this
                exact this
              have hspl := hspS.len
              have hspc := hspS.closed
              obtain ⟨⟨sg, eg⟩, hsg⟩ : ∃ q, getSt bb = q := ⟨_, rfl⟩
              have hsgS : isSt sg := by
                obtain ⟨rb, hrb, hrbl⟩ := id hbB
                have := (getSt_is hrbl).1
                rw [← hrb, hsg] at this
                exact this
              have hsgl := hsgS.len
              have hsgc := hsgS.closed
              have hG : FnD Try.prog 32 [.view 1 0 V 0 N] [⟨5, rc, true, V, true⟩] (fun r st' => r = .tup [.agg sp, .d (.sc (.int .i64 ep))] ∧ st' = [⟨5, rc, true, V, true⟩]) := by
                have := w_getS rx rx rc V 0 N hrxB hrc (by omega) (by rw [List.drop_zero, hN, List.take_length])
                rw [hsp] at this
                exact this
              have hG3 : FnV Try.prog 33 [.d (.slc 1 rx)] (.tup [.agg sp, .d (.sc (.int .i64 ep))]) := by
                have := v_getS3 rx hrxB
                rw [hsp] at this
                exact this
              have hfz1 : fzL 1 V 1 rx [DV.d (PD.sc (Value.int .u8 to_))] = [DV.d (PD.sc (Value.int .u8 to_))] := rfl
              have hcl3 : closedD 0 (.tup [.agg sp, .d (.sc (.int .i64 ep))]) = true := by simp [closedD, closedL, hspc]
              obtain ⟨fu, hfu⟩ : ∃ fu, fu = roomyX bb 4 := ⟨_, rfl⟩
              have hM4 : isM 4 := ⟨4, rfl⟩
              have hbn : (0 : Int) ≤ 0 ∧ 0 ≤ (bb.length : Int) ∧ (bb.length : Int) ≤ (fu.length : Int) := by
                have := roomy_len bb 4
                rw [← hfu] at this
                exact ⟨by omega, by omega, by omega⟩
              have j4 : GFsUm.roomy bb 4 = fu := by subst hFsUm; exact hfu.symm
              have j5 : A.sub fu 0 (A.len bb) = bb := by subst hA; show (fu.drop 0).take ((bb.length : Int).toNat - 0) = bb; rw [hfu, show (bb.length : Int).toNat - 0 = bb.length by omega]; exact roomy_take bb 4
              have j6 : GFsGs.getS bb = (sg, eg) := by subst hFsGs; exact hsg
              have j7 : GFsGr.getS3 bb = (sg, eg) := by subst hFsGr; exact hsg
              have j8 : GFsSE.statesR sg sg = true := by subst hFsSE; exact sameSt_refl sg
              have j9 : GFsSE.statesR sp sp = true := by subst hFsSE; exact sameSt_refl sp
              have ja : A.cmp .eql eg eg = true := by subst hA; exact decide_eq_true rfl
              have jb : A.cmp .eql ep ep = true := by subst hA; exact decide_eq_true rfl
              have jc : GFsUm.intact fu bb 4 = true := by subst hFsUm; rfl
              have jd : GFsS7.runs = true := by subst hFsS7; rfl
              have je : A.cond true true false = true := by subst hA; rfl
              cbv at j4
              cbv at j5
              cbv at j6
              cbv at j7
              cbv at j8
              cbv at j9
              cbv at ja
              cbv at jb
              cbv at jc
              cbv at jd
              cbv at je
              (with_reducible refine goL (c := .region 18 _ _) (T := fun _ => tabY [42, 61, 1011, 1016, 1018, 1020, 1022, 1039, 1043, 1044, 1038, 1045, 1047, 1075, 1083, 1088, 1093, 1081, 1086, 1091, 1096, 1098, 1099, 1107, 1108, 5004] [21, 22, 23]) (H := fun _ => [kn_short GFsSh, kn_applyR GFsSD, kn_within3 GFsPq, kn_roomy GFsUm, kn_getS GFsGs, kn_getS3 GFsGr, kn_statesR GFsSE, kn_intact GFsUm, kn_runs GFsS7]) (tabY_ok _ _) hH follows_mixed hA hX ?_) <;> cbv
              repeat' first
                | (simp only [j4, j5, j6, j7]; cbv)
                | (refine And.intro ?_ ?_)
              rotate_right 1
              · refine callL hX (FnD.rowKeep 1 hG rfl rfl hcl3 hrcl ?_)
                cbv
                repeat' (refine And.intro ?_ ?_)
                rotate_right 1
                · refine callL hX (FnD.freezeTo (args' := [.d (.slc 1 rx)]) 1 1 rx ⟨5, rc, true, V, true⟩ rfl rfl hrc hszr (by simp [fzD, hN]) (FnV.use hG3 rfl ?_))
                  simp only [fzSt, fzBox, List.getElem?_cons_zero, List.getElem?_cons_succ, List.map_cons, List.map_nil, List.set_cons_succ, List.set_cons_zero, fzL_closed _ _ _ _ _ hspc, fzL_closed _ _ _ _ _ hsgc, fzL_closed _ _ _ _ _ hsc, hfz1]
                  cbv
                  repeat' first
                    | (simp only [j8, j9, ja, jb, jc, jd, je]; cbv)
                    | (refine And.intro ?_ ?_)
                  all_goals first
                    | (subst hA; exact rfl)
                    | (subst hA; show Region.lexB _ _ = true; kernel_rfl)
                    | (subst hA; show turnsB _ = true; kernel_rfl)
                    | (subst hA; show List.length _ = 49 * 1; first | exact hsl | exact hspl | exact hsgl | rfl)
                    | (subst hA; show List.length _ = 49 * 1; exact hsl)
                    | (subst hFsUm; exact hbB)
                    | (subst hFsUm; exact hM4)
                    | (subst hA; exact hbn)
                    | (subst hA; exact g3)
                    | (subst hFsGs; exact hbB)
                    | (subst hFsGr; exact hbB)
                    | (subst hFsSE; exact hsgS)
                    | (subst hFsSE; exact hspS)
                    | (subst hFsPq; exact hat)
                    | (subst hFsPq; exact hho)
                    | (subst hFsPq hA; exact hs3)
                    | (subst hFsPq; exact ⟨by decide, by decide, by decide⟩)
                    | (subst hFsSh; exact hp0)
                    | (subst hA; exact hkb)
                    | (subst hA; exact hkb2)
                    | (subst hA; exact hcf)
                    | (subst hA; exact hcm)
                    | (subst hA; simp only [A0]; omega)
                    | (subst hA; exact Nat.le_refl 1)
                    | (subst hA; intro q; exact q)
                    | (subst hA; intro _; exact trivial)
                    | (subst hA; intro _; exact rfl)
                    | (subst hA; intro _; show List.length _ = 49 * 1; first | exact hspl | exact hsgl)
                    | (subst hA hFsSE; intro _; exact hspS)
                    | (subst hA hFsUm; intro _; exact hbB)
                    | (subst hA hFsUm; intro _; exact hfu)
                    | (subst hA hFsUm; intro _; exact hM4)
                    | (subst hA hW; exact ret_v rfl rfl)
                    | fail
                all_goals first
                  | (subst hA; exact rfl)
                  | (subst hA; show Region.lexB _ _ = true; kernel_rfl)
                  | (subst hA; show turnsB _ = true; kernel_rfl)
                  | (subst hA; show List.length _ = 49 * 1; first | exact hsl | exact hspl | exact hsgl | rfl)
                  | (subst hA; show List.length _ = 49 * 1; exact hsl)
                  | (subst hFsUm; exact hbB)
                  | (subst hFsUm; exact hM4)
                  | (subst hA; exact hbn)
                  | (subst hA; exact g3)
                  | (subst hFsGs; exact hbB)
                  | (subst hFsGr; exact hbB)
                  | (subst hFsSE; exact hsgS)
                  | (subst hFsSE; exact hspS)
                  | (subst hFsPq; exact hat)
                  | (subst hFsPq; exact hho)
                  | (subst hFsPq hA; exact hs3)
                  | (subst hFsPq; exact ⟨by decide, by decide, by decide⟩)
                  | (subst hFsSh; exact hp0)
                  | (subst hA; exact hkb)
                  | (subst hA; exact hkb2)
                  | (subst hA; exact hcf)
                  | (subst hA; exact hcm)
                  | (subst hA; simp only [A0]; omega)
                  | (subst hA; exact Nat.le_refl 1)
                  | (subst hA; intro q; exact q)
                  | (subst hA; intro _; exact trivial)
                  | (subst hA; intro _; exact rfl)
                  | (subst hA; intro _; show List.length _ = 49 * 1; first | exact hspl | exact hsgl)
                  | (subst hA hFsSE; intro _; exact hspS)
                  | (subst hA hFsUm; intro _; exact hbB)
                  | (subst hA hFsUm; intro _; exact hfu)
                  | (subst hA hFsUm; intro _; exact hM4)
                  | (subst hA hW; exact ret_v rfl rfl)
                  | fail
              all_goals first
                | (subst hA; exact rfl)
                | (subst hA; show Region.lexB _ _ = true; kernel_rfl)
                | (subst hA; show turnsB _ = true; kernel_rfl)
                | (subst hA; show List.length _ = 49 * 1; first | exact hsl | exact hspl | exact hsgl | rfl)
                | (subst hA; show List.length _ = 49 * 1; exact hsl)
                | (subst hFsUm; exact hbB)
                | (subst hFsUm; exact hM4)
                | (subst hA; exact hbn)
                | (subst hA; exact g3)
                | (subst hFsGs; exact hbB)
                | (subst hFsGr; exact hbB)
                | (subst hFsSE; exact hsgS)
                | (subst hFsSE; exact hspS)
                | (subst hFsPq; exact hat)
                | (subst hFsPq; exact hho)
                | (subst hFsPq hA; exact hs3)
                | (subst hFsPq; exact ⟨by decide, by decide, by decide⟩)
                | (subst hFsSh; exact hp0)
                | (subst hA; exact hkb)
                | (subst hA; exact hkb2)
                | (subst hA; exact hcf)
                | (subst hA; exact hcm)
                | (subst hA; simp only [A0]; omega)
                | (subst hA; exact Nat.le_refl 1)
                | (subst hA; intro q; exact q)
                | (subst hA; intro _; exact trivial)
                | (subst hA; intro _; exact rfl)
                | (subst hA; intro _; show List.length _ = 49 * 1; first | exact hspl | exact hsgl)
                | (subst hA hFsSE; intro _; exact hspS)
                | (subst hA hFsUm; intro _; exact hbB)
                | (subst hA hFsUm; intro _; exact hfu)
                | (subst hA hFsUm; intro _; exact hM4)
                | (subst hA hW; exact ret_v rfl rfl)
                | fail
            all_goals first
              | (subst hA; exact rfl)
              | (subst hA; show Region.lexB _ _ = true; kernel_rfl)
              | (subst hA; show turnsB _ = true; kernel_rfl)
              | (subst hA; show List.length _ = 49 * 1; first | exact hsl | exact hspl | exact hsgl | rfl)
              | (subst hA; show List.length _ = 49 * 1; exact hsl)
              | (subst hFsUm; exact hbB)
              | (subst hFsUm; exact hM4)
              | (subst hA; exact hbn)
              | (subst hA; exact g3)
              | (subst hFsGs; exact hbB)
              | (subst hFsGr; exact hbB)
              | (subst hFsSE; exact hsgS)
              | (subst hFsSE; exact hspS)
              | (subst hFsPq; exact hat)
              | (subst hFsPq; exact hho)
              | (subst hFsPq hA; exact hs3)
              | (subst hFsPq; exact ⟨by decide, by decide, by decide⟩)
              | (subst hFsSh; exact hp0)
              | (subst hA; exact hkb)
              | (subst hA; exact hkb2)
              | (subst hA; exact hcf)
              | (subst hA; exact hcm)
              | (subst hA; simp only [A0]; omega)
              | (subst hA; exact Nat.le_refl 1)
              | (subst hA; intro q; exact q)
              | (subst hA; intro _; exact trivial)
              | (subst hA; intro _; exact rfl)
              | (subst hA; intro _; show List.length _ = 49 * 1; first | exact hspl | exact hsgl)
              | (subst hA hFsSE; intro _; exact hspS)
              | (subst hA hFsUm; intro _; exact hbB)
              | (subst hA hFsUm; intro _; exact hfu)
              | (subst hA hFsUm; intro _; exact hM4)
              | (subst hA hW; exact ret_v rfl rfl)
              | fail
        all_goals first
          | (subst hA; exact rfl)
          | (subst hA; show Region.lexB _ _ = true; kernel_rfl)
          | (subst hA; show turnsB _ = true; kernel_rfl)
          | (subst hA; show List.length _ = 49 * 1; first | exact hsl | exact hspl | exact hsgl | rfl)
          | (subst hA; show List.length _ = 49 * 1; exact hsl)
          | (subst hFsUm; exact hbB)
          | (subst hFsUm; exact hM4)
          | (subst hA; exact hbn)
          | (subst hA; exact g3)
          | (subst hFsGs; exact hbB)
          | (subst hFsGr; exact hbB)
          | (subst hFsSE; exact hsgS)
          | (subst hFsSE; exact hspS)
          | (subst hFsPq; exact hat)
          | (subst hFsPq; exact hho)
          | (subst hFsPq hA; exact hs3)
          | (subst hFsPq; exact ⟨by decide, by decide, by decide⟩)
          | (subst hFsSh; exact hp0)
          | (subst hA; exact hkb)
          | (subst hA; exact hkb2)
          | (subst hA; exact hcf)
          | (subst hA; exact hcm)
          | (subst hA; simp only [A0]; omega)
          | (subst hA; exact Nat.le_refl 1)
          | (subst hA; intro q; exact q)
          | (subst hA; intro _; exact trivial)
          | (subst hA; intro _; exact rfl)
          | (subst hA; intro _; show List.length _ = 49 * 1; first | exact hspl | exact hsgl)
          | (subst hA hFsSE; intro _; exact hspS)
          | (subst hA hFsUm; intro _; exact hbB)
          | (subst hA hFsUm; intro _; exact hfu)
          | (subst hA hFsUm; intro _; exact hM4)
          | (subst hA hW; exact ret_v rfl rfl)
          | fail
    all_goals first
      | (subst hA; exact rfl)
      | (subst hA; show Region.lexB _ _ = true; kernel_rfl)
      | (subst hA; show turnsB _ = true; kernel_rfl)
      | (subst hA; show List.length _ = 49 * 1; first | exact hsl | exact hspl | exact hsgl | rfl)
      | (subst hA; show List.length _ = 49 * 1; exact hsl)
      | (subst hFsUm; exact hbB)
      | (subst hFsUm; exact hM4)
      | (subst hA; exact hbn)
      | (subst hA; exact g3)
      | (subst hFsGs; exact hbB)
      | (subst hFsGr; exact hbB)
      | (subst hFsSE; exact hsgS)
      | (subst hFsSE; exact hspS)
      | (subst hFsPq; exact hat)
      | (subst hFsPq; exact hho)
      | (subst hFsPq hA; exact hs3)
      | (subst hFsPq; exact ⟨by decide, by decide, by decide⟩)
      | (subst hFsSh; exact hp0)
      | (subst hA; exact hkb)
      | (subst hA; exact hkb2)
      | (subst hA; exact hcf)
      | (subst hA; exact hcm)
      | (subst hA; simp only [A0]; omega)
      | (subst hA; exact Nat.le_refl 1)
      | (subst hA; intro q; exact q)
      | (subst hA; intro _; exact trivial)
      | (subst hA; intro _; exact rfl)
      | (subst hA; intro _; show List.length _ = 49 * 1; first | exact hspl | exact hsgl)
      | (subst hA hFsSE; intro _; exact hspS)
      | (subst hA hFsUm; intro _; exact hbB)
      | (subst hA hFsUm; intro _; exact hfu)
      | (subst hA hFsUm; intro _; exact hM4)
      | (subst hA hW; exact ret_v rfl rfl)
      | fail
  · obtain ⟨bb, hbb⟩ : ∃ bb, bb = ys := ⟨_, rfl⟩
    subst hbb
    have hbB := hp1
    have g1 : A.cmp .gtr (A.len bb) 500 = false := by subst hA; exact decide_eq_false (by show ¬ (500 : Int) < (bb.length : Int); omega)
    have g2 : A.cmp .gtr 0 0 = false := by subst hA; rfl
    have g3 : True := trivial
    cbv at g1
    cbv at g2
    repeat' first
      | (simp only [g1, g2, y1]; cbv)
      | (refine And.intro ?_ ?_)
      | (refine part (fun h => ?_) (fun h => ?_) <;> try cbv)
    rotate_right 1
    · refine loopL (T := fun _ => tabY [42, 61, 1011, 1016, 1018, 1020, 1022, 1039, 1043, 1044, 1038, 1045, 1047, 1075, 1083, 1088, 1093, 1081, 1086, 1091, 1096, 1098, 1099, 1107, 1108, 5004] [8, 9, 18]) (H := fun _ => [kn_short GFsSh, kn_applyR GFsSD, kn_within3 GFsPq, kn_roomy GFsUm, kn_getS GFsGs, kn_getS3 GFsGr, kn_statesR GFsSE, kn_intact GFsUm, kn_runs GFsS7]) (tabY_ok _ _) hH follows_mixed hA hX
        (fun x : Int × List DV => (0 ≤ x.1 ∧ x.1 ≤ n) ∧ isSt x.2 ∧ q = behM x.2 (l.drop x.1.toNat))
        (fun x => [(0, .d (.slc 1 bb)), (1, .d (.slc 7 ls)), (2, .d (.sc (.int .i64 at_))), (3, .d (.sc (.int .u8 to_))), (4, .d (.sc (.int .i64 how_))), (11, .ref 0 0 0), (12, .d (.sc (.int .i64 x.1)))])
        (fun x => [⟨34, x.2, false, 0, true⟩]) (fun x => n.toNat - x.1.toNat) (0, s0) ?_ ?_ ?_
      · exact ⟨⟨Int.le_refl 0, hn0⟩, hs0S, hq⟩
      · exact told_upst ⟨_, _, rfl, ⟨rfl, rfl, rfl, rfl, hup0⟩, rfl⟩ ⟨.inl (UpD.refl _), .inl (UpD.refl _), .inl (UpD.refl _), .inl (UpD.refl _), .inl (UpD.refl _), .inl (UpD.refl _), .inl (UpD.refl _), trivial⟩
      rintro R ⟨i, s⟩ hR ⟨hi, hs, hqi⟩
      replace hi : 0 ≤ i ∧ i ≤ n := hi
      replace hs : isSt s := hs
      replace hqi : q = behM s (l.drop i.toNat) := hqi
      have hsl := hs.len
      have hsc := hs.closed
      cbv
      simp only [y2]
      refine part (fun h => ?_) (fun h => ?_) <;> cbv
      · have hin : i < n := by subst hA; exact of_decide_eq_true h
        repeat' first
          | (((with_reducible refine regionU [] [] [0, 0, 0, 0, 0, 0, 0, 0] (T := fun _ => tabY [42, 61, 1011, 1016, 1018, 1020, 1022, 1039, 1043, 1044, 1038, 1045, 1047, 1075, 1083, 1088, 1093, 1081, 1086, 1091, 1096, 1098, 1099, 1107, 1108, 5004] []) (H := fun _ => [kn_short GFsSh, kn_applyR GFsSD, kn_within3 GFsPq, kn_roomy GFsUm, kn_getS GFsGs, kn_getS3 GFsGr, kn_statesR GFsSE, kn_intact GFsUm, kn_runs GFsS7]) (B := fun _ => []) (R := fun _ => []) (A := A) (tabY_ok _ _) hH noB_ok noR_ok follows_mixed hA hX (by kernel_rfl) (by kernel_rfl) (by kernel_rfl) (by kernel_rfl) (by kernel_rfl) ?_) <;> cbv))
          | (refine And.intro ?_ ?_)
        all_goals subst hX hFsSD
        all_goals have hlt : i < l.length := by omega
        all_goals have hrow := crow hlx hi.1 hlt
        all_goals have hd : l.drop i.toNat = (l[i.toNat]'(by omega)) :: l.drop (i + 1).toNat := by rw [List.drop_eq_getElem_cons (by omega), show i.toNat + 1 = (i + 1).toNat by omega]
        all_goals generalize l[i.toNat]'(by omega) = c at hrow hd
        all_goals rw [hd] at hqi
        all_goals replace hqi : q = behM (applyS s c).1 (l.drop (i + 1).toNat) := hqi
        all_goals have hai := hs.apply c
        all_goals have hal := hai.len
        all_goals have hac := hai.closed
        all_goals obtain ⟨t, ht⟩ : ∃ t, t = applyS s c := ⟨_, rfl⟩
        all_goals rw [← ht] at hqi hai hal hac
        all_goals have ht2 : applyS s ⟨c.kind, c.client, c.seq, c.key, c.fin, c.old, c.val⟩ = t := ht.symm
        all_goals have ei : IntKind.wrap .i64 (i + 1) = i + 1 := wrap_i64 (by unfold r64; omega)
        all_goals subst hA
        all_goals try simp only [A0, nc, FsSD0, hrow, Cmd.row, List.map_cons, List.map_nil, Nat.zero_add, List.getElem?_cons_zero, List.getElem?_cons_succ, List.drop_zero, List.take_succ_cons, List.take_zero, List.length_cons, List.length_nil, ht2]
        all_goals first
          | exact hs
          | exact rfl
          | exact ⟨hi.1, by omega⟩
          | (show List.length _ = 49 * 1; assumption)
          | exact ⟨rfl, by simp, rfl⟩
          | simp
          | (rw [hR]
             refine ⟨(i + 1, t.1), ⟨⟨by simp only; omega, by simp only; omega⟩, hai, hqi⟩, by simp only; omega, told_keep [0] rfl ?_ ?_⟩
             · simp [keepSt, pullBox, pullL_closed _ _ hac]
             · simp [toldP, getS, pullD, ei])
          | fail
      · have hin : ¬ i < n := by subst hA; exact of_decide_eq_false h
        have hqs : q = s := by rw [hqi, List.drop_eq_nil_of_le (by omega)]; rfl
        have hPut2 := hPut
        rw [hqs] at hPut2
        obtain ⟨w, hw⟩ : ∃ w, w = within3 how_ 0 2 := ⟨_, rfl⟩
        have hwr := within_r3 how_ 2 (by decide)
        rw [← hw] at hwr
        obtain ⟨kk, hkk⟩ : ∃ kk, kk = within3 at_ 0 ((LB.length : Int) - 1) := ⟨_, rfl⟩
        have hkr := within_r3 at_ ((LB.length : Int) - 1) (by omega)
        rw [← hkk] at hkr
        have hkN0 : 0 ≤ kk ∧ kk.toNat < LB.length := by omega
        have y3 : GFsPq.within3 how_ 0 2 = w := by subst hFsPq; exact hw.symm
        have y5 : ∀ m : Nat, m = LB.length → GFsPq.within3 at_ 0 (A.bin .sub .i64 (A.int m) 1) = kk := fun m hm => by
          subst hFsPq hA
          show within3 at_ 0 (IntKind.wrap .i64 ((m : Int) - 1)) = kk
          rw [wrap_i64 (by unfold r64; omega), hkk, hm]
        cbv at y3
        (with_reducible refine goL (c := .region 9 _ _) (T := fun _ => tabY [42, 61, 1011, 1016, 1018, 1020, 1022, 1039, 1043, 1044, 1038, 1045, 1047, 1075, 1083, 1088, 1093, 1081, 1086, 1091, 1096, 1098, 1099, 1107, 1108, 5004] [18]) (H := fun _ => [kn_short GFsSh, kn_applyR GFsSD, kn_within3 GFsPq, kn_roomy GFsUm, kn_getS GFsGs, kn_getS3 GFsGr, kn_statesR GFsSE, kn_intact GFsUm, kn_runs GFsS7]) (tabY_ok _ _) hH follows_mixed hA hX ?_) <;> cbv
        repeat' (refine And.intro ?_ ?_)
        rotate_right 1
        · refine callL hX (FnD.newRow hPut2 (by simp [closedL, closedD, hsc]) fun v c m hc hm => ?_)
          have y4 := y5 m hm
          have hkN : kk.toNat < LB.length := hkN0.2
          have hkb : 0 ≤ kk ∧ kk < (m : Int) := by omega
          have hkb2 : (0 : Int) ≤ 0 ∧ 0 ≤ kk ∧ kk ≤ (m : Int) := ⟨by omega, by omega, by omega⟩
          have hcm : c.length = m * 1 := by rw [hc, rowsB_length, hm, Nat.mul_one]
          have hml : m ≤ 1000000 := by omega
          have hcf : 0 + kk.toNat * 1 + 1 ≤ c.length := by omega
          have hs3 : span3 0 (IntKind.wrap .i64 ((m : Int) - 1)) := by
            rw [wrap_i64 (by unfold r64; omega)]
            exact ⟨by omega, by omega, by omega⟩
          cbv at y4
          obtain ⟨M0, hM0⟩ : ∃ M0 : Int, M0 = (m : Int) := ⟨_, rfl⟩
          cbv
          have hw3 : w = 0 ∨ w = 1 ∨ w = 2 := by omega
          rcases hw3 with hw3 | hw3 | hw3
          all_goals subst hw3
          · have z1 : A.cmp .eql 0 0 = true := by subst hA; rfl
            cbv at z1
            repeat' first
              | (simp only [y3, y4, z1]; cbv)
              | (refine And.intro ?_ ?_)
            rotate_right 1
            · have hkn := hkN
              obtain ⟨rc, hrc0⟩ : ∃ rc, rc = A.spl c (A.off 0 kk 1) [.d (.sc (.int .u8 to_))] := ⟨_, rfl⟩
              have e7 : A.spl c (A.off 0 kk 1) [.d (.sc (.int .u8 to_))] = rc := hrc0.symm
              obtain ⟨rb, hrb⟩ : ∃ rb, rb = LB.set kk.toNat (UInt8.ofNat to_.toNat) := ⟨_, rfl⟩
              obtain ⟨rx, hrx⟩ : ∃ rx, rx = bytesP rb := ⟨_, rfl⟩
              have hrbl : rb.length = LB.length := by rw [hrb, List.length_set]
              obtain ⟨N, hN0⟩ : ∃ N, N = m := ⟨_, rfl⟩
              obtain ⟨V, hV0⟩ : ∃ V, V = v := ⟨_, rfl⟩
              have hTR : isB8 rx ∧ N = rx.length ∧ rc = rowsD rx := by
                refine ⟨⟨rb, hrx, by omega⟩, by rw [hrx, bytesP_length, hrbl, hN0, hm], ?_⟩
                rw [hrc0, hrx, hrb, hc]
                subst hA
                show splice (rowsD (bytesP LB)) (0 + kk.toNat * 1) _ = _
                rw [Nat.zero_add, Nat.mul_one]
                exact bytesR2_spl hkn hto
              cbv at e7
              simp only [e7, ← hV0, ← hN0]
              refine pauseL hX (s' := [(0, .d (.slc 1 bb)), (13, .view 1 1 V 0 N)]) (told_less ⟨.inl rfl, .inl rfl, trivial⟩) ?_
              obtain ⟨hrxB, hN, hrc⟩ : isB8 rx ∧ N = rx.length ∧ rc = rowsD rx := hTR
              have hrcl : closedL 0 rc = true := by rw [hrc]; exact rows_closed rx
              have hszr : ∀ x ∈ rx, x.length = 1 := by obtain ⟨rb, hrb, _⟩ := id hrxB; rw [hrb]; exact bytesP_sz rb
              obtain ⟨⟨sp, ep⟩, hsp⟩ : ∃ q, getSt rx = q := ⟨_, rfl⟩
              have hspS : isSt sp := by
                obtain ⟨rb, hrb, hrbl⟩ := id hrxB
                have := (getSt_is hrbl).1
                rw [← hrb, hsp] at this
                exact this
              have hspl := hspS.len
              have hspc := hspS.closed
              obtain ⟨⟨sg, eg⟩, hsg⟩ : ∃ q, getSt bb = q := ⟨_, rfl⟩
              have hsgS : isSt sg := by
                obtain ⟨rb, hrb, hrbl⟩ := id hbB
                have := (getSt_is hrbl).1
                rw [← hrb, hsg] at this
                exact this
              have hsgl := hsgS.len
              have hsgc := hsgS.closed
              have hG : FnD Try.prog 32 [.view 1 0 V 0 N] [⟨5, rc, true, V, true⟩] (fun r st' => r = .tup [.agg sp, .d (.sc (.int .i64 ep))] ∧ st' = [⟨5, rc, true, V, true⟩]) := by
                have := w_getS rx rx rc V 0 N hrxB hrc (by omega) (by rw [List.drop_zero, hN, List.take_length])
                rw [hsp] at this
                exact this
              have hG3 : FnV Try.prog 33 [.d (.slc 1 rx)] (.tup [.agg sp, .d (.sc (.int .i64 ep))]) := by
                have := v_getS3 rx hrxB
                rw [hsp] at this
                exact this
              have hfz1 : fzL 1 V 1 rx [DV.d (PD.sc (Value.int .u8 to_))] = [DV.d (PD.sc (Value.int .u8 to_))] := rfl
              have hcl3 : closedD 0 (.tup [.agg sp, .d (.sc (.int .i64 ep))]) = true := by simp [closedD, closedL, hspc]
              obtain ⟨fu, hfu⟩ : ∃ fu, fu = roomyX bb 4 := ⟨_, rfl⟩
              have hM4 : isM 4 := ⟨4, rfl⟩
              have hbn : (0 : Int) ≤ 0 ∧ 0 ≤ (bb.length : Int) ∧ (bb.length : Int) ≤ (fu.length : Int) := by
                have := roomy_len bb 4
                rw [← hfu] at this
                exact ⟨by omega, by omega, by omega⟩
              have j4 : GFsUm.roomy bb 4 = fu := by subst hFsUm; exact hfu.symm
              have j5 : A.sub fu 0 (A.len bb) = bb := by subst hA; show (fu.drop 0).take ((bb.length : Int).toNat - 0) = bb; rw [hfu, show (bb.length : Int).toNat - 0 = bb.length by omega]; exact roomy_take bb 4
              have j6 : GFsGs.getS bb = (sg, eg) := by subst hFsGs; exact hsg
              have j7 : GFsGr.getS3 bb = (sg, eg) := by subst hFsGr; exact hsg
              have j8 : GFsSE.statesR sg sg = true := by subst hFsSE; exact sameSt_refl sg
              have j9 : GFsSE.statesR sp sp = true := by subst hFsSE; exact sameSt_refl sp
              have ja : A.cmp .eql eg eg = true := by subst hA; exact decide_eq_true rfl
              have jb : A.cmp .eql ep ep = true := by subst hA; exact decide_eq_true rfl
              have jc : GFsUm.intact fu bb 4 = true := by subst hFsUm; rfl
              have jd : GFsS7.runs = true := by subst hFsS7; rfl
              have je : A.cond true true false = true := by subst hA; rfl
              cbv at j4
              cbv at j5
              cbv at j6
              cbv at j7
              cbv at j8
              cbv at j9
              cbv at ja
              cbv at jb
              cbv at jc
              cbv at jd
              cbv at je
              (with_reducible refine goL (c := .region 18 _ _) (T := fun _ => tabY [42, 61, 1011, 1016, 1018, 1020, 1022, 1039, 1043, 1044, 1038, 1045, 1047, 1075, 1083, 1088, 1093, 1081, 1086, 1091, 1096, 1098, 1099, 1107, 1108, 5004] [21, 22, 23]) (H := fun _ => [kn_short GFsSh, kn_applyR GFsSD, kn_within3 GFsPq, kn_roomy GFsUm, kn_getS GFsGs, kn_getS3 GFsGr, kn_statesR GFsSE, kn_intact GFsUm, kn_runs GFsS7]) (tabY_ok _ _) hH follows_mixed hA hX ?_) <;> cbv
              repeat' first
                | (simp only [j4, j5, j6, j7]; cbv)
                | (refine And.intro ?_ ?_)
              rotate_right 1
              · refine callL hX (FnD.rowKeep 1 hG rfl rfl hcl3 hrcl ?_)
                cbv
                repeat' (refine And.intro ?_ ?_)
                rotate_right 1
                · refine callL hX (FnD.freezeTo (args' := [.d (.slc 1 rx)]) 1 1 rx ⟨5, rc, true, V, true⟩ rfl rfl hrc hszr (by simp [fzD, hN]) (FnV.use hG3 rfl ?_))
                  simp only [fzSt, fzBox, List.getElem?_cons_zero, List.getElem?_cons_succ, List.map_cons, List.map_nil, List.set_cons_succ, List.set_cons_zero, fzL_closed _ _ _ _ _ hspc, fzL_closed _ _ _ _ _ hsgc, fzL_closed _ _ _ _ _ hsc, hfz1]
                  cbv
                  repeat' first
                    | (simp only [j8, j9, ja, jb, jc, jd, je]; cbv)
                    | (refine And.intro ?_ ?_)
                  all_goals first
                    | (subst hA; exact rfl)
                    | (subst hA; show Region.lexB _ _ = true; kernel_rfl)
                    | (subst hA; show turnsB _ = true; kernel_rfl)
                    | (subst hA; show List.length _ = 49 * 1; first | exact hsl | exact hspl | exact hsgl | rfl)
                    | (subst hA; show List.length _ = 49 * 1; exact hsl)
                    | (subst hFsUm; exact hbB)
                    | (subst hFsUm; exact hM4)
                    | (subst hA; exact hbn)
                    | (subst hA; exact g3)
                    | (subst hFsGs; exact hbB)
                    | (subst hFsGr; exact hbB)
                    | (subst hFsSE; exact hsgS)
                    | (subst hFsSE; exact hspS)
                    | (subst hFsPq; exact hat)
                    | (subst hFsPq; exact hho)
                    | (subst hFsPq hA; exact hs3)
                    | (subst hFsPq; exact ⟨by decide, by decide, by decide⟩)
                    | (subst hFsSh; exact hp0)
                    | (subst hA; exact hkb)
                    | (subst hA; exact hkb2)
                    | (subst hA; exact hcf)
                    | (subst hA; exact hcm)
                    | (subst hA; simp only [A0]; omega)
                    | (subst hA; exact Nat.le_refl 1)
                    | (subst hA; intro q; exact q)
                    | (subst hA; intro _; exact trivial)
                    | (subst hA; intro _; exact rfl)
                    | (subst hA; intro _; show List.length _ = 49 * 1; first | exact hspl | exact hsgl)
                    | (subst hA hFsSE; intro _; exact hspS)
                    | (subst hA hFsUm; intro _; exact hbB)
                    | (subst hA hFsUm; intro _; exact hfu)
                    | (subst hA hFsUm; intro _; exact hM4)
                    | (subst hA hW; exact ret_v rfl rfl)
                    | fail
                all_goals first
                  | (subst hA; exact rfl)
                  | (subst hA; show Region.lexB _ _ = true; kernel_rfl)
                  | (subst hA; show turnsB _ = true; kernel_rfl)
                  | (subst hA; show List.length _ = 49 * 1; first | exact hsl | exact hspl | exact hsgl | rfl)
                  | (subst hA; show List.length _ = 49 * 1; exact hsl)
                  | (subst hFsUm; exact hbB)
                  | (subst hFsUm; exact hM4)
                  | (subst hA; exact hbn)
                  | (subst hA; exact g3)
                  | (subst hFsGs; exact hbB)
                  | (subst hFsGr; exact hbB)
                  | (subst hFsSE; exact hsgS)
                  | (subst hFsSE; exact hspS)
                  | (subst hFsPq; exact hat)
                  | (subst hFsPq; exact hho)
                  | (subst hFsPq hA; exact hs3)
                  | (subst hFsPq; exact ⟨by decide, by decide, by decide⟩)
                  | (subst hFsSh; exact hp0)
                  | (subst hA; exact hkb)
                  | (subst hA; exact hkb2)
                  | (subst hA; exact hcf)
                  | (subst hA; exact hcm)
                  | (subst hA; simp only [A0]; omega)
                  | (subst hA; exact Nat.le_refl 1)
                  | (subst hA; intro q; exact q)
                  | (subst hA; intro _; exact trivial)
                  | (subst hA; intro _; exact rfl)
                  | (subst hA; intro _; show List.length _ = 49 * 1; first | exact hspl | exact hsgl)
                  | (subst hA hFsSE; intro _; exact hspS)
                  | (subst hA hFsUm; intro _; exact hbB)
                  | (subst hA hFsUm; intro _; exact hfu)
                  | (subst hA hFsUm; intro _; exact hM4)
                  | (subst hA hW; exact ret_v rfl rfl)
                  | fail
              all_goals first
                | (subst hA; exact rfl)
                | (subst hA; show Region.lexB _ _ = true; kernel_rfl)
                | (subst hA; show turnsB _ = true; kernel_rfl)
                | (subst hA; show List.length _ = 49 * 1; first | exact hsl | exact hspl | exact hsgl | rfl)
                | (subst hA; show List.length _ = 49 * 1; exact hsl)
                | (subst hFsUm; exact hbB)
                | (subst hFsUm; exact hM4)
                | (subst hA; exact hbn)
                | (subst hA; exact g3)
                | (subst hFsGs; exact hbB)
                | (subst hFsGr; exact hbB)
                | (subst hFsSE; exact hsgS)
                | (subst hFsSE; exact hspS)
                | (subst hFsPq; exact hat)
                | (subst hFsPq; exact hho)
                | (subst hFsPq hA; exact hs3)
                | (subst hFsPq; exact ⟨by decide, by decide, by decide⟩)
                | (subst hFsSh; exact hp0)
                | (subst hA; exact hkb)
                | (subst hA; exact hkb2)
                | (subst hA; exact hcf)
                | (subst hA; exact hcm)
                | (subst hA; simp only [A0]; omega)
                | (subst hA; exact Nat.le_refl 1)
                | (subst hA; intro q; exact q)
                | (subst hA; intro _; exact trivial)
                | (subst hA; intro _; exact rfl)
                | (subst hA; intro _; show List.length _ = 49 * 1; first | exact hspl | exact hsgl)
                | (subst hA hFsSE; intro _; exact hspS)
                | (subst hA hFsUm; intro _; exact hbB)
                | (subst hA hFsUm; intro _; exact hfu)
                | (subst hA hFsUm; intro _; exact hM4)
                | (subst hA hW; exact ret_v rfl rfl)
                | fail
            all_goals first
              | (subst hA; exact rfl)
              | (subst hA; show Region.lexB _ _ = true; kernel_rfl)
              | (subst hA; show turnsB _ = true; kernel_rfl)
              | (subst hA; show List.length _ = 49 * 1; first | exact hsl | exact hspl | exact hsgl | rfl)
              | (subst hA; show List.length _ = 49 * 1; exact hsl)
              | (subst hFsUm; exact hbB)
              | (subst hFsUm; exact hM4)
              | (subst hA; exact hbn)
              | (subst hA; exact g3)
              | (subst hFsGs; exact hbB)
              | (subst hFsGr; exact hbB)
              | (subst hFsSE; exact hsgS)
              | (subst hFsSE; exact hspS)
              | (subst hFsPq; exact hat)
              | (subst hFsPq; exact hho)
              | (subst hFsPq hA; exact hs3)
              | (subst hFsPq; exact ⟨by decide, by decide, by decide⟩)
              | (subst hFsSh; exact hp0)
              | (subst hA; exact hkb)
              | (subst hA; exact hkb2)
              | (subst hA; exact hcf)
              | (subst hA; exact hcm)
              | (subst hA; simp only [A0]; omega)
              | (subst hA; exact Nat.le_refl 1)
              | (subst hA; intro q; exact q)
              | (subst hA; intro _; exact trivial)
              | (subst hA; intro _; exact rfl)
              | (subst hA; intro _; show List.length _ = 49 * 1; first | exact hspl | exact hsgl)
              | (subst hA hFsSE; intro _; exact hspS)
              | (subst hA hFsUm; intro _; exact hbB)
              | (subst hA hFsUm; intro _; exact hfu)
              | (subst hA hFsUm; intro _; exact hM4)
              | (subst hA hW; exact ret_v rfl rfl)
              | fail
          · have z1 : A.cmp .eql 1 0 = false := by subst hA; rfl
            have z2 : A.cmp .eql 1 1 = true := by subst hA; rfl
            cbv at z1
            cbv at z2
            repeat' first
              | (simp only [y3, y4, z1, z2]; cbv)
              | (refine And.intro ?_ ?_)
            rotate_right 1
            · obtain ⟨N, hN0⟩ : ∃ N, N = kk.toNat := ⟨_, rfl⟩
              obtain ⟨V, hV0⟩ : ∃ V, V = v := ⟨_, rfl⟩
              have e7 : A.nat kk = N := by subst hA; exact hN0.symm
              obtain ⟨rb, hrb⟩ : ∃ rb, rb = LB.take N := ⟨_, rfl⟩
              obtain ⟨rx, hrx⟩ : ∃ rx, rx = bytesP rb := ⟨_, rfl⟩
              have hrbl : rb.length = N := by rw [hrb, List.length_take]; omega
              obtain ⟨rc, hrc0⟩ : ∃ rc, rc = c.take N := ⟨_, rfl⟩
              have hTR : isB8 rx ∧ N = rx.length ∧ rc = rowsD rx := by
                refine ⟨⟨rb, hrx, by omega⟩, by rw [hrx, bytesP_length, hrbl], ?_⟩
                rw [hrc0, hrx, hrb, hc, bytesR2, bytesR2, List.map_take]
              cbv at e7
              simp only [e7, ← hV0]
              refine pauseL hX (s' := [(0, .d (.slc 1 bb)), (13, .view 1 1 V 0 N)]) (told_hide 1 N ⟨5, c, true, V, true⟩ rfl ⟨.inl rfl, .inl rfl, trivial⟩) ?_
              show X.st _ _ _ [_, ⟨5, c.take N, true, V, true⟩]
              rw [← hrc0]
              obtain ⟨hrxB, hN, hrc⟩ : isB8 rx ∧ N = rx.length ∧ rc = rowsD rx := hTR
              have hrcl : closedL 0 rc = true := by rw [hrc]; exact rows_closed rx
              have hszr : ∀ x ∈ rx, x.length = 1 := by obtain ⟨rb, hrb, _⟩ := id hrxB; rw [hrb]; exact bytesP_sz rb
              obtain ⟨⟨sp, ep⟩, hsp⟩ : ∃ q, getSt rx = q := ⟨_, rfl⟩
              have hspS : isSt sp := by
                obtain ⟨rb, hrb, hrbl⟩ := id hrxB
                have := (getSt_is hrbl).1
                rw [← hrb, hsp] at this
                exact this
              have hspl := hspS.len
              have hspc := hspS.closed
              obtain ⟨⟨sg, eg⟩, hsg⟩ : ∃ q, getSt bb = q := ⟨_, rfl⟩
              have hsgS : isSt sg := by
                obtain ⟨rb, hrb, hrbl⟩ := id hbB
                have := (getSt_is hrbl).1
                rw [← hrb, hsg] at this
                exact this
              have hsgl := hsgS.len
              have hsgc := hsgS.closed
              have hG : FnD Try.prog 32 [.view 1 0 V 0 N] [⟨5, rc, true, V, true⟩] (fun r st' => r = .tup [.agg sp, .d (.sc (.int .i64 ep))] ∧ st' = [⟨5, rc, true, V, true⟩]) := by
                have := w_getS rx rx rc V 0 N hrxB hrc (by omega) (by rw [List.drop_zero, hN, List.take_length])
                rw [hsp] at this
                exact this
              have hG3 : FnV Try.prog 33 [.d (.slc 1 rx)] (.tup [.agg sp, .d (.sc (.int .i64 ep))]) := by
                have := v_getS3 rx hrxB
                rw [hsp] at this
                exact this
              have hfz1 : fzL 1 V 1 rx [DV.d (PD.sc (Value.int .u8 to_))] = [DV.d (PD.sc (Value.int .u8 to_))] := rfl
              have hcl3 : closedD 0 (.tup [.agg sp, .d (.sc (.int .i64 ep))]) = true := by simp [closedD, closedL, hspc]
              obtain ⟨fu, hfu⟩ : ∃ fu, fu = roomyX bb 4 := ⟨_, rfl⟩
              have hM4 : isM 4 := ⟨4, rfl⟩
              have hbn : (0 : Int) ≤ 0 ∧ 0 ≤ (bb.length : Int) ∧ (bb.length : Int) ≤ (fu.length : Int) := by
                have := roomy_len bb 4
                rw [← hfu] at this
                exact ⟨by omega, by omega, by omega⟩
              have j4 : GFsUm.roomy bb 4 = fu := by subst hFsUm; exact hfu.symm
              have j5 : A.sub fu 0 (A.len bb) = bb := by subst hA; show (fu.drop 0).take ((bb.length : Int).toNat - 0) = bb; rw [hfu, show (bb.length : Int).toNat - 0 = bb.length by omega]; exact roomy_take bb 4
              have j6 : GFsGs.getS bb = (sg, eg) := by subst hFsGs; exact hsg
              have j7 : GFsGr.getS3 bb = (sg, eg) := by subst hFsGr; exact hsg
              have j8 : GFsSE.statesR sg sg = true := by subst hFsSE; exact sameSt_refl sg
              have j9 : GFsSE.statesR sp sp = true := by subst hFsSE; exact sameSt_refl sp
              have ja : A.cmp .eql eg eg = true := by subst hA; exact decide_eq_true rfl
              have jb : A.cmp .eql ep ep = true := by subst hA; exact decide_eq_true rfl
              have jc : GFsUm.intact fu bb 4 = true := by subst hFsUm; rfl
              have jd : GFsS7.runs = true := by subst hFsS7; rfl
              have je : A.cond true true false = true := by subst hA; rfl
              cbv at j4
              cbv at j5
              cbv at j6
              cbv at j7
              cbv at j8
              cbv at j9
              cbv at ja
              cbv at jb
              cbv at jc
              cbv at jd
              cbv at je
              (with_reducible refine goL (c := .region 18 _ _) (T := fun _ => tabY [42, 61, 1011, 1016, 1018, 1020, 1022, 1039, 1043, 1044, 1038, 1045, 1047, 1075, 1083, 1088, 1093, 1081, 1086, 1091, 1096, 1098, 1099, 1107, 1108, 5004] [21, 22, 23]) (H := fun _ => [kn_short GFsSh, kn_applyR GFsSD, kn_within3 GFsPq, kn_roomy GFsUm, kn_getS GFsGs, kn_getS3 GFsGr, kn_statesR GFsSE, kn_intact GFsUm, kn_runs GFsS7]) (tabY_ok _ _) hH follows_mixed hA hX ?_) <;> cbv
              repeat' first
                | (simp only [j4, j5, j6, j7]; cbv)
                | (refine And.intro ?_ ?_)
              rotate_right 1
              · refine callL hX (FnD.rowKeep 1 hG rfl rfl hcl3 hrcl ?_)
                cbv
                repeat' (refine And.intro ?_ ?_)
                rotate_right 1
                · refine callL hX (FnD.freezeTo (args' := [.d (.slc 1 rx)]) 1 1 rx ⟨5, rc, true, V, true⟩ rfl rfl hrc hszr (by simp [fzD, hN]) (FnV.use hG3 rfl ?_))
                  simp only [fzSt, fzBox, List.getElem?_cons_zero, List.getElem?_cons_succ, List.map_cons, List.map_nil, List.set_cons_succ, List.set_cons_zero, fzL_closed _ _ _ _ _ hspc, fzL_closed _ _ _ _ _ hsgc, fzL_closed _ _ _ _ _ hsc, hfz1]
                  cbv
                  repeat' first
                    | (simp only [j8, j9, ja, jb, jc, jd, je]; cbv)
                    | (refine And.intro ?_ ?_)
                  all_goals first
                    | (subst hA; exact rfl)
                    | (subst hA; show Region.lexB _ _ = true; kernel_rfl)
                    | (subst hA; show turnsB _ = true; kernel_rfl)
                    | (subst hA; show List.length _ = 49 * 1; first | exact hsl | exact hspl | exact hsgl | rfl)
                    | (subst hA; show List.length _ = 49 * 1; exact hsl)
                    | (subst hFsUm; exact hbB)
                    | (subst hFsUm; exact hM4)
                    | (subst hA; exact hbn)
                    | (subst hA; exact g3)
                    | (subst hFsGs; exact hbB)
                    | (subst hFsGr; exact hbB)
                    | (subst hFsSE; exact hsgS)
                    | (subst hFsSE; exact hspS)
                    | (subst hFsPq; exact hat)
                    | (subst hFsPq; exact hho)
                    | (subst hFsPq hA; exact hs3)
                    | (subst hFsPq; exact ⟨by decide, by decide, by decide⟩)
                    | (subst hFsSh; exact hp0)
                    | (subst hA; exact hkb)
                    | (subst hA; exact hkb2)
                    | (subst hA; exact hcf)
                    | (subst hA; exact hcm)
                    | (subst hA; simp only [A0]; omega)
                    | (subst hA; exact Nat.le_refl 1)
                    | (subst hA; intro q; exact q)
                    | (subst hA; intro _; exact trivial)
                    | (subst hA; intro _; exact rfl)
                    | (subst hA; intro _; show List.length _ = 49 * 1; first | exact hspl | exact hsgl)
                    | (subst hA hFsSE; intro _; exact hspS)
                    | (subst hA hFsUm; intro _; exact hbB)
                    | (subst hA hFsUm; intro _; exact hfu)
                    | (subst hA hFsUm; intro _; exact hM4)
                    | (subst hA hW; exact ret_v rfl rfl)
                    | fail
                all_goals first
                  | (subst hA; exact rfl)
                  | (subst hA; show Region.lexB _ _ = true; kernel_rfl)
                  | (subst hA; show turnsB _ = true; kernel_rfl)
                  | (subst hA; show List.length _ = 49 * 1; first | exact hsl | exact hspl | exact hsgl | rfl)
                  | (subst hA; show List.length _ = 49 * 1; exact hsl)
                  | (subst hFsUm; exact hbB)
                  | (subst hFsUm; exact hM4)
                  | (subst hA; exact hbn)
                  | (subst hA; exact g3)
                  | (subst hFsGs; exact hbB)
                  | (subst hFsGr; exact hbB)
                  | (subst hFsSE; exact hsgS)
                  | (subst hFsSE; exact hspS)
                  | (subst hFsPq; exact hat)
                  | (subst hFsPq; exact hho)
                  | (subst hFsPq hA; exact hs3)
                  | (subst hFsPq; exact ⟨by decide, by decide, by decide⟩)
                  | (subst hFsSh; exact hp0)
                  | (subst hA; exact hkb)
                  | (subst hA; exact hkb2)
                  | (subst hA; exact hcf)
                  | (subst hA; exact hcm)
                  | (subst hA; simp only [A0]; omega)
                  | (subst hA; exact Nat.le_refl 1)
                  | (subst hA; intro q; exact q)
                  | (subst hA; intro _; exact trivial)
                  | (subst hA; intro _; exact rfl)
                  | (subst hA; intro _; show List.length _ = 49 * 1; first | exact hspl | exact hsgl)
                  | (subst hA hFsSE; intro _; exact hspS)
                  | (subst hA hFsUm; intro _; exact hbB)
                  | (subst hA hFsUm; intro _; exact hfu)
                  | (subst hA hFsUm; intro _; exact hM4)
                  | (subst hA hW; exact ret_v rfl rfl)
                  | fail
              all_goals first
                | (subst hA; exact rfl)
                | (subst hA; show Region.lexB _ _ = true; kernel_rfl)
                | (subst hA; show turnsB _ = true; kernel_rfl)
                | (subst hA; show List.length _ = 49 * 1; first | exact hsl | exact hspl | exact hsgl | rfl)
                | (subst hA; show List.length _ = 49 * 1; exact hsl)
                | (subst hFsUm; exact hbB)
                | (subst hFsUm; exact hM4)
                | (subst hA; exact hbn)
                | (subst hA; exact g3)
                | (subst hFsGs; exact hbB)
                | (subst hFsGr; exact hbB)
                | (subst hFsSE; exact hsgS)
                | (subst hFsSE; exact hspS)
                | (subst hFsPq; exact hat)
                | (subst hFsPq; exact hho)
                | (subst hFsPq hA; exact hs3)
                | (subst hFsPq; exact ⟨by decide, by decide, by decide⟩)
                | (subst hFsSh; exact hp0)
                | (subst hA; exact hkb)
                | (subst hA; exact hkb2)
                | (subst hA; exact hcf)
                | (subst hA; exact hcm)
                | (subst hA; simp only [A0]; omega)
                | (subst hA; exact Nat.le_refl 1)
                | (subst hA; intro q; exact q)
                | (subst hA; intro _; exact trivial)
                | (subst hA; intro _; exact rfl)
                | (subst hA; intro _; show List.length _ = 49 * 1; first | exact hspl | exact hsgl)
                | (subst hA hFsSE; intro _; exact hspS)
                | (subst hA hFsUm; intro _; exact hbB)
                | (subst hA hFsUm; intro _; exact hfu)
                | (subst hA hFsUm; intro _; exact hM4)
                | (subst hA hW; exact ret_v rfl rfl)
                | fail
            all_goals first
              | (subst hA; exact rfl)
              | (subst hA; show Region.lexB _ _ = true; kernel_rfl)
              | (subst hA; show turnsB _ = true; kernel_rfl)
              | (subst hA; show List.length _ = 49 * 1; first | exact hsl | exact hspl | exact hsgl | rfl)
              | (subst hA; show List.length _ = 49 * 1; exact hsl)
              | (subst hFsUm; exact hbB)
              | (subst hFsUm; exact hM4)
              | (subst hA; exact hbn)
              | (subst hA; exact g3)
              | (subst hFsGs; exact hbB)
              | (subst hFsGr; exact hbB)
              | (subst hFsSE; exact hsgS)
              | (subst hFsSE; exact hspS)
              | (subst hFsPq; exact hat)
              | (subst hFsPq; exact hho)
              | (subst hFsPq hA; exact hs3)
              | (subst hFsPq; exact ⟨by decide, by decide, by decide⟩)
              | (subst hFsSh; exact hp0)
              | (subst hA; exact hkb)
              | (subst hA; exact hkb2)
              | (subst hA; exact hcf)
              | (subst hA; exact hcm)
              | (subst hA; simp only [A0]; omega)
              | (subst hA; exact Nat.le_refl 1)
              | (subst hA; intro q; exact q)
              | (subst hA; intro _; exact trivial)
              | (subst hA; intro _; exact rfl)
              | (subst hA; intro _; show List.length _ = 49 * 1; first | exact hspl | exact hsgl)
              | (subst hA hFsSE; intro _; exact hspS)
              | (subst hA hFsUm; intro _; exact hbB)
              | (subst hA hFsUm; intro _; exact hfu)
              | (subst hA hFsUm; intro _; exact hM4)
              | (subst hA hW; exact ret_v rfl rfl)
              | fail
          · have z1 : A.cmp .eql 2 0 = false := by subst hA; rfl
            have z2 : A.cmp .eql 2 1 = false := by subst hA; rfl
            have z3 : A.cmp .eql 2 2 = true := by subst hA; rfl
            cbv at z1
            cbv at z2
            cbv at z3
            repeat' first
              | (simp only [y3, y4, z1, z2, z3]; cbv)
              | (refine And.intro ?_ ?_)
            rotate_right 1
            · obtain ⟨rb, hrb⟩ : ∃ rb, rb = LB ++ [UInt8.ofNat to_.toNat] := ⟨_, rfl⟩
              obtain ⟨rx, hrx⟩ : ∃ rx, rx = bytesP rb := ⟨_, rfl⟩
              have hrbl : rb.length = LB.length + 1 := by rw [hrb]; simp
              obtain ⟨N, hN0⟩ : ∃ N, N = m + 1 := ⟨_, rfl⟩
              obtain ⟨V, hV0⟩ : ∃ V, V = A.nxt v := ⟨_, rfl⟩
              have e7 : A.pl m 1 = N := by subst hA; exact hN0.symm
              obtain ⟨rc, hrc0⟩ : ∃ rc, rc = A.app c (A.tk [.d (.sc (.int .u8 to_))] 0 1 1) := ⟨_, rfl⟩
              have e8 : A.app c (A.tk [.d (.sc (.int .u8 to_))] 0 1 1) = rc := hrc0.symm
              have e9 : A.nxt v = V := hV0.symm
              have hTR : isB8 rx ∧ N = rx.length ∧ rc = rowsD rx := by
                refine ⟨⟨rb, hrx, by omega⟩, by rw [hrx, bytesP_length, hrbl, hN0, hm], ?_⟩
                rw [hrc0, hrx, hrb, hc, rowsB_append, bytesR2 [_]]
                subst hA
                simp [A0]
                omega
              cbv at e7
              cbv at e8
              cbv at e9
              simp only [e7, e8, e9]
              refine pauseL hX (s' := [(0, .d (.slc 1 bb)), (13, .view 1 1 V 0 N)]) (told_less ⟨.inl rfl, .inl rfl, trivial⟩) ?_
              obtain ⟨hrxB, hN, hrc⟩ : isB8 rx ∧ N = rx.length ∧ rc = rowsD rx := hTR
              have hrcl : closedL 0 rc = true := by rw [hrc]; exact rows_closed rx
              have hszr : ∀ x ∈ rx, x.length = 1 := by obtain ⟨rb, hrb, _⟩ := id hrxB; rw [hrb]; exact bytesP_sz rb
              obtain ⟨⟨sp, ep⟩, hsp⟩ : ∃ q, getSt rx = q := ⟨_, rfl⟩
              have hspS : isSt sp := by
                obtain ⟨rb, hrb, hrbl⟩ := id hrxB
                have := (getSt_is hrbl).1
                rw [← hrb, hsp] at this
                exact this
              have hspl := hspS.len
              have hspc := hspS.closed
              obtain ⟨⟨sg, eg⟩, hsg⟩ : ∃ q, getSt bb = q := ⟨_, rfl⟩
              have hsgS : isSt sg := by
                obtain ⟨rb, hrb, hrbl⟩ := id hbB
                have := (getSt_is hrbl).1
                rw [← hrb, hsg] at this
                exact this
              have hsgl := hsgS.len
              have hsgc := hsgS.closed
              have hG : FnD Try.prog 32 [.view 1 0 V 0 N] [⟨5, rc, true, V, true⟩] (fun r st' => r = .tup [.agg sp, .d (.sc (.int .i64 ep))] ∧ st' = [⟨5, rc, true, V, true⟩]) := by
                have := w_getS rx rx rc V 0 N hrxB hrc (by omega) (by rw [List.drop_zero, hN, List.take_length])
                rw [hsp] at this
                exact this
              have hG3 : FnV Try.prog 33 [.d (.slc 1 rx)] (.tup [.agg sp, .d (.sc (.int .i64 ep))]) := by
                have := v_getS3 rx hrxB
                rw [hsp] at this
                exact this
              have hfz1 : fzL 1 V 1 rx [DV.d (PD.sc (Value.int .u8 to_))] = [DV.d (PD.sc (Value.int .u8 to_))] := rfl
              have hcl3 : closedD 0 (.tup [.agg sp, .d (.sc (.int .i64 ep))]) = true := by simp [closedD, closedL, hspc]
              obtain ⟨fu, hfu⟩ : ∃ fu, fu = roomyX bb 4 := ⟨_, rfl⟩
              have hM4 : isM 4 := ⟨4, rfl⟩
              have hbn : (0 : Int) ≤ 0 ∧ 0 ≤ (bb.length : Int) ∧ (bb.length : Int) ≤ (fu.length : Int) := by
                have := roomy_len bb 4
                rw [← hfu] at this
                exact ⟨by omega, by omega, by omega⟩
              have j4 : GFsUm.roomy bb 4 = fu := by subst hFsUm; exact hfu.symm
              have j5 : A.sub fu 0 (A.len bb) = bb := by subst hA; show (fu.drop 0).take ((bb.length : Int).toNat - 0) = bb; rw [hfu, show (bb.length : Int).toNat - 0 = bb.length by omega]; exact roomy_take bb 4
              have j6 : GFsGs.getS bb = (sg, eg) := by subst hFsGs; exact hsg
              have j7 : GFsGr.getS3 bb = (sg, eg) := by subst hFsGr; exact hsg
              have j8 : GFsSE.statesR sg sg = true := by subst hFsSE; exact sameSt_refl sg
              have j9 : GFsSE.statesR sp sp = true := by subst hFsSE; exact sameSt_refl sp
              have ja : A.cmp .eql eg eg = true := by subst hA; exact decide_eq_true rfl
              have jb : A.cmp .eql ep ep = true := by subst hA; exact decide_eq_true rfl
              have jc : GFsUm.intact fu bb 4 = true := by subst hFsUm; rfl
              have jd : GFsS7.runs = true := by subst hFsS7; rfl
              have je : A.cond true true false = true := by subst hA; rfl
              cbv at j4
              cbv at j5
              cbv at j6
              cbv at j7
              cbv at j8
              cbv at j9
              cbv at ja
              cbv at jb
              cbv at jc
              cbv at jd
              cbv at je
              (with_reducible refine goL (c := .region 18 _ _) (T := fun _ => tabY [42, 61, 1011, 1016, 1018, 1020, 1022, 1039, 1043, 1044, 1038, 1045, 1047, 1075, 1083, 1088, 1093, 1081, 1086, 1091, 1096, 1098, 1099, 1107, 1108, 5004] [21, 22, 23]) (H := fun _ => [kn_short GFsSh, kn_applyR GFsSD, kn_within3 GFsPq, kn_roomy GFsUm, kn_getS GFsGs, kn_getS3 GFsGr, kn_statesR GFsSE, kn_intact GFsUm, kn_runs GFsS7]) (tabY_ok _ _) hH follows_mixed hA hX ?_) <;> cbv
              repeat' first
                | (simp only [j4, j5, j6, j7]; cbv)
                | (refine And.intro ?_ ?_)
              rotate_right 1
              · refine callL hX (FnD.rowKeep 1 hG rfl rfl hcl3 hrcl ?_)
                cbv
                repeat' (refine And.intro ?_ ?_)
                rotate_right 1
                · refine callL hX (FnD.freezeTo (args' := [.d (.slc 1 rx)]) 1 1 rx ⟨5, rc, true, V, true⟩ rfl rfl hrc hszr (by simp [fzD, hN]) (FnV.use hG3 rfl ?_))
                  simp only [fzSt, fzBox, List.getElem?_cons_zero, List.getElem?_cons_succ, List.map_cons, List.map_nil, List.set_cons_succ, List.set_cons_zero, fzL_closed _ _ _ _ _ hspc, fzL_closed _ _ _ _ _ hsgc, fzL_closed _ _ _ _ _ hsc, hfz1]
                  cbv
                  repeat' first
                    | (simp only [j8, j9, ja, jb, jc, jd, je]; cbv)
                    | (refine And.intro ?_ ?_)
                  all_goals first
                    | (subst hA; exact rfl)
                    | (subst hA; show Region.lexB _ _ = true; kernel_rfl)
                    | (subst hA; show turnsB _ = true; kernel_rfl)
                    | (subst hA; show List.length _ = 49 * 1; first | exact hsl | exact hspl | exact hsgl | rfl)
                    | (subst hA; show List.length _ = 49 * 1; exact hsl)
                    | (subst hFsUm; exact hbB)
                    | (subst hFsUm; exact hM4)
                    | (subst hA; exact hbn)
                    | (subst hA; exact g3)
                    | (subst hFsGs; exact hbB)
                    | (subst hFsGr; exact hbB)
                    | (subst hFsSE; exact hsgS)
                    | (subst hFsSE; exact hspS)
                    | (subst hFsPq; exact hat)
                    | (subst hFsPq; exact hho)
                    | (subst hFsPq hA; exact hs3)
                    | (subst hFsPq; exact ⟨by decide, by decide, by decide⟩)
                    | (subst hFsSh; exact hp0)
                    | (subst hA; exact hkb)
                    | (subst hA; exact hkb2)
                    | (subst hA; exact hcf)
                    | (subst hA; exact hcm)
                    | (subst hA; simp only [A0]; omega)
                    | (subst hA; exact Nat.le_refl 1)
                    | (subst hA; intro q; exact q)
                    | (subst hA; intro _; exact trivial)
                    | (subst hA; intro _; exact rfl)
                    | (subst hA; intro _; show List.length _ = 49 * 1; first | exact hspl | exact hsgl)
                    | (subst hA hFsSE; intro _; exact hspS)
                    | (subst hA hFsUm; intro _; exact hbB)
                    | (subst hA hFsUm; intro _; exact hfu)
                    | (subst hA hFsUm; intro _; exact hM4)
                    | (subst hA hW; exact ret_v rfl rfl)
                    | fail
                all_goals first
                  | (subst hA; exact rfl)
                  | (subst hA; show Region.lexB _ _ = true; kernel_rfl)
                  | (subst hA; show turnsB _ = true; kernel_rfl)
                  | (subst hA; show List.length _ = 49 * 1; first | exact hsl | exact hspl | exact hsgl | rfl)
                  | (subst hA; show List.length _ = 49 * 1; exact hsl)
                  | (subst hFsUm; exact hbB)
                  | (subst hFsUm; exact hM4)
                  | (subst hA; exact hbn)
                  | (subst hA; exact g3)
                  | (subst hFsGs; exact hbB)
                  | (subst hFsGr; exact hbB)
                  | (subst hFsSE; exact hsgS)
                  | (subst hFsSE; exact hspS)
                  | (subst hFsPq; exact hat)
                  | (subst hFsPq; exact hho)
                  | (subst hFsPq hA; exact hs3)
                  | (subst hFsPq; exact ⟨by decide, by decide, by decide⟩)
                  | (subst hFsSh; exact hp0)
                  | (subst hA; exact hkb)
                  | (subst hA; exact hkb2)
                  | (subst hA; exact hcf)
                  | (subst hA; exact hcm)
                  | (subst hA; simp only [A0]; omega)
                  | (subst hA; exact Nat.le_refl 1)
                  | (subst hA; intro q; exact q)
                  | (subst hA; intro _; exact trivial)
                  | (subst hA; intro _; exact rfl)
                  | (subst hA; intro _; show List.length _ = 49 * 1; first | exact hspl | exact hsgl)
                  | (subst hA hFsSE; intro _; exact hspS)
                  | (subst hA hFsUm; intro _; exact hbB)
                  | (subst hA hFsUm; intro _; exact hfu)
                  | (subst hA hFsUm; intro _; exact hM4)
                  | (subst hA hW; exact ret_v rfl rfl)
                  | fail
              all_goals first
                | (subst hA; exact rfl)
                | (subst hA; show Region.lexB _ _ = true; kernel_rfl)
                | (subst hA; show turnsB _ = true; kernel_rfl)
                | (subst hA; show List.length _ = 49 * 1; first | exact hsl | exact hspl | exact hsgl | rfl)
                | (subst hA; show List.length _ = 49 * 1; exact hsl)
                | (subst hFsUm; exact hbB)
                | (subst hFsUm; exact hM4)
                | (subst hA; exact hbn)
                | (subst hA; exact g3)
                | (subst hFsGs; exact hbB)
                | (subst hFsGr; exact hbB)
                | (subst hFsSE; exact hsgS)
                | (subst hFsSE; exact hspS)
                | (subst hFsPq; exact hat)
                | (subst hFsPq; exact hho)
                | (subst hFsPq hA; exact hs3)
                | (subst hFsPq; exact ⟨by decide, by decide, by decide⟩)
                | (subst hFsSh; exact hp0)
                | (subst hA; exact hkb)
                | (subst hA; exact hkb2)
                | (subst hA; exact hcf)
                | (subst hA; exact hcm)
                | (subst hA; simp only [A0]; omega)
                | (subst hA; exact Nat.le_refl 1)
                | (subst hA; intro q; exact q)
                | (subst hA; intro _; exact trivial)
                | (subst hA; intro _; exact rfl)
                | (subst hA; intro _; show List.length _ = 49 * 1; first | exact hspl | exact hsgl)
                | (subst hA hFsSE; intro _; exact hspS)
                | (subst hA hFsUm; intro _; exact hbB)
                | (subst hA hFsUm; intro _; exact hfu)
                | (subst hA hFsUm; intro _; exact hM4)
                | (subst hA hW; exact ret_v rfl rfl)
                | fail
            all_goals first
              | (subst hA; exact rfl)
              | (subst hA; show Region.lexB _ _ = true; kernel_rfl)
              | (subst hA; show turnsB _ = true; kernel_rfl)
              | (subst hA; show List.length _ = 49 * 1; first | exact hsl | exact hspl | exact hsgl | rfl)
              | (subst hA; show List.length _ = 49 * 1; exact hsl)
              | (subst hFsUm; exact hbB)
              | (subst hFsUm; exact hM4)
              | (subst hA; exact hbn)
              | (subst hA; exact g3)
              | (subst hFsGs; exact hbB)
              | (subst hFsGr; exact hbB)
              | (subst hFsSE; exact hsgS)
              | (subst hFsSE; exact hspS)
              | (subst hFsPq; exact hat)
              | (subst hFsPq; exact hho)
              | (subst hFsPq hA; exact hs3)
              | (subst hFsPq; exact ⟨by decide, by decide, by decide⟩)
              | (subst hFsSh; exact hp0)
              | (subst hA; exact hkb)
              | (subst hA; exact hkb2)
              | (subst hA; exact hcf)
              | (subst hA; exact hcm)
              | (subst hA; simp only [A0]; omega)
              | (subst hA; exact Nat.le_refl 1)
              | (subst hA; intro q; exact q)
              | (subst hA; intro _; exact trivial)
              | (subst hA; intro _; exact rfl)
              | (subst hA; intro _; show List.length _ = 49 * 1; first | exact hspl | exact hsgl)
              | (subst hA hFsSE; intro _; exact hspS)
              | (subst hA hFsUm; intro _; exact hbB)
              | (subst hA hFsUm; intro _; exact hfu)
              | (subst hA hFsUm; intro _; exact hM4)
              | (subst hA hW; exact ret_v rfl rfl)
              | fail
        all_goals first
          | (subst hA; exact rfl)
          | (subst hA; show Region.lexB _ _ = true; kernel_rfl)
          | (subst hA; show turnsB _ = true; kernel_rfl)
          | (subst hA; show List.length _ = 49 * 1; first | exact hsl | exact hspl | exact hsgl | rfl)
          | (subst hA; show List.length _ = 49 * 1; exact hsl)
          | (subst hFsUm; exact hbB)
          | (subst hFsUm; exact hM4)
          | (subst hA; exact hbn)
          | (subst hA; exact g3)
          | (subst hFsGs; exact hbB)
          | (subst hFsGr; exact hbB)
          | (subst hFsSE; exact hsgS)
          | (subst hFsSE; exact hspS)
          | (subst hFsPq; exact hat)
          | (subst hFsPq; exact hho)
          | (subst hFsPq hA; exact hs3)
          | (subst hFsPq; exact ⟨by decide, by decide, by decide⟩)
          | (subst hFsSh; exact hp0)
          | (subst hA; exact hkb)
          | (subst hA; exact hkb2)
          | (subst hA; exact hcf)
          | (subst hA; exact hcm)
          | (subst hA; simp only [A0]; omega)
          | (subst hA; exact Nat.le_refl 1)
          | (subst hA; intro q; exact q)
          | (subst hA; intro _; exact trivial)
          | (subst hA; intro _; exact rfl)
          | (subst hA; intro _; show List.length _ = 49 * 1; first | exact hspl | exact hsgl)
          | (subst hA hFsSE; intro _; exact hspS)
          | (subst hA hFsUm; intro _; exact hbB)
          | (subst hA hFsUm; intro _; exact hfu)
          | (subst hA hFsUm; intro _; exact hM4)
          | (subst hA hW; exact ret_v rfl rfl)
          | fail
    all_goals first
      | (subst hA; exact rfl)
      | (subst hA; show Region.lexB _ _ = true; kernel_rfl)
      | (subst hA; show turnsB _ = true; kernel_rfl)
      | (subst hA; show List.length _ = 49 * 1; first | exact hsl | exact hspl | exact hsgl | rfl)
      | (subst hA; show List.length _ = 49 * 1; exact hsl)
      | (subst hFsUm; exact hbB)
      | (subst hFsUm; exact hM4)
      | (subst hA; exact hbn)
      | (subst hA; exact g3)
      | (subst hFsGs; exact hbB)
      | (subst hFsGr; exact hbB)
      | (subst hFsSE; exact hsgS)
      | (subst hFsSE; exact hspS)
      | (subst hFsPq; exact hat)
      | (subst hFsPq; exact hho)
      | (subst hFsPq hA; exact hs3)
      | (subst hFsPq; exact ⟨by decide, by decide, by decide⟩)
      | (subst hFsSh; exact hp0)
      | (subst hA; exact hkb)
      | (subst hA; exact hkb2)
      | (subst hA; exact hcf)
      | (subst hA; exact hcm)
      | (subst hA; simp only [A0]; omega)
      | (subst hA; exact Nat.le_refl 1)
      | (subst hA; intro q; exact q)
      | (subst hA; intro _; exact trivial)
      | (subst hA; intro _; exact rfl)
      | (subst hA; intro _; show List.length _ = 49 * 1; first | exact hspl | exact hsgl)
      | (subst hA hFsSE; intro _; exact hspS)
      | (subst hA hFsUm; intro _; exact hbB)
      | (subst hA hFsUm; intro _; exact hfu)
      | (subst hA hFsUm; intro _; exact hM4)
      | (subst hA hW; exact ret_v rfl rfl)
      | fail
end Go.Proofs.Ytghkcmgiagodlaa
namespace Go.Proofs.Ytghkcmgiagodlaa
open Go.RowKit
set_option linter.all false
theorem wf_u8 {n : Int} (h : (Lit.int .u8 n).wf = true) : 0 ≤ n ∧ n ≤ 255 := by
  simp only [Lit.wf, Bool.and_eq_true, decide_eq_true_eq] at h
  exact h
theorem fit_bytes : ∀ (xs : List (List PD)), (∀ x ∈ xs, FitL [.int .u8] x) → ∃ bs, xs = bytesP bs
  | [], _ => ⟨[], rfl⟩
  | x :: xs, h => by
      obtain ⟨bs, rfl⟩ := fit_bytes xs (fun y hy => h y (by simp [hy]))
      have h0 := h x (by simp)
      simp only [FitL, FitP] at h0
      obtain ⟨_, _, rfl, ⟨n, rfl, hn⟩, rfl⟩ := h0
      have := wf_u8 hn
      refine ⟨UInt8.ofNat n.toNat :: bs, ?_⟩
      have e : ((UInt8.ofNat n.toNat).toNat : Int) = n := by simp; omega
      simp only [bytesP, List.map_cons, e]
theorem wt_rows : ∀ xs : List (List PD), (∀ x ∈ xs, x ≠ []) → xs.length ≤ wtR xs
  | [], _ => by simp
  | x :: xs, h => by
      have h1 := wt_rows xs (fun y hy => h y (by simp [hy]))
      have h2 := h x (by simp)
      cases x with
      | nil => exact absurd rfl h2
      | cons p ps =>
        have : 1 ≤ wtP p := by
          cases p with
          | sc v =>
            unfold wtP
            split <;> omega
          | slc sz ys => unfold wtP; omega
        simp only [wtR, wtL, List.length_cons]
        omega
theorem fit_b8 {ps : List PD} (h : FitL [.slc [.int .u8]] ps) (hw : wtL ps ≤ 1048576) : ∃ xs, ps = [.slc 1 xs] ∧ isB8 xs := by
  simp only [FitL, FitP] at h
  obtain ⟨_, _, rfl, ⟨xs, rfl, hx⟩, rfl⟩ := h
  simp only [wtL, wtP] at hw
  obtain ⟨bs, rfl⟩ := fit_bytes xs hx
  have := wt_rows (bytesP bs) (fun x hx e => by
    simp only [bytesP, List.mem_map] at hx
    obtain ⟨_, _, rfl⟩ := hx
    cases e)
  rw [bytesP_length] at this
  exact ⟨_, rfl, bs, rfl, by omega⟩
end Go.Proofs.Ytghkcmgiagodlaa
namespace Go.Proofs.Ytghkcmgiagodlaa
open Go.RowKit
set_option linter.all false
end Go.Proofs.Ytghkcmgiagodlaa
