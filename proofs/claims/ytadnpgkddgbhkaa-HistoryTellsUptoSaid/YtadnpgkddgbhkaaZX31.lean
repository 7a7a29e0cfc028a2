/- Histories: the document's Linear. No condition. -/
import Derived.Test.YtadnpgkddgbhkaaZX26
import Derived.Test.YtadnpgkddgbhkaaZX29
import Derived.Test.YtadnpgkddgbhkaaZX30
import Derived.Test.YtadnpgkddgbhkaaZX28
namespace Go.Proofs.Ytadnpgkddgbhkaa
open Go.RowKit Go.Maps
set_option linter.all false
set_option maxHeartbeats 8000000
theorem an_Hn20 {p q : Prop} (hq : q) (hp : p := by subst hA hX hFsHs; clear hH hB; first | exact trivial | exact rfl | assumption | (simp [A0]; done) | (intro q; simpa [A0] using q) | (intro _; trivial) | (show _ = true; kernel_rfl)) : p ∧ q := ⟨hp, hq⟩
set_option maxRecDepth 100000 in
theorem v_linearR (xs : List (List PD)) (hev : isEv xs) : FnV Try.prog 29 [.d (.slc 14 xs)] (.tup [.d (.sc (.bool (linR xs).1)), .d (.sc (.bool (linR xs).2))]) := by
 obtain ⟨l, hxs, hl, hle⟩ := hev
 have hev : isEv xs := ⟨l, hxs, hl, hle⟩
 have hevp : ∀ e ∈ l, isP e.r.pairs := evP hxs hev
 obtain ⟨GFsHs, hFsHs⟩ : ∃ F, F = FsHs0 := ⟨_, rfl⟩
 have hH : SoundK Try.prog [kn_hopsR GFsHs] := by subst hFsHs; exact orK_ok ok_hopsR noK_ok
 have hB : SoundB Try.prog [] := by subst hFsHs; exact noB_ok
 refine FnD_M (T := fun _ => tabY [] [4]) (H := fun _ => [kn_hopsR GFsHs]) (tabY_ok _ _) hH follows_mixed 126 true Try.func29 rfl Try.ntmps29 (by simp) fun A X W Bs I Y hA hX hW hBl hBs hI hY => ?_
 cbv
 have q000 : A.cond false false false = false := by subst hA; rfl
 have q001 : A.cond false false true = true := by subst hA; rfl
 have q010 : A.cond false true false = false := by subst hA; rfl
 have q011 : A.cond false true true = true := by subst hA; rfl
 have q100 : A.cond true false false = false := by subst hA; rfl
 have q101 : A.cond true false true = false := by subst hA; rfl
 have q110 : A.cond true true false = true := by subst hA; rfl
 have q111 : A.cond true true true = true := by subst hA; rfl
 have f3 : A.not true = false := by subst hA; rfl
 have f4 : A.not false = true := by subst hA; rfl
 cbv at f3 f4 q000 q001 q010 q011 q100 q101 q110 q111
 have qq := And.intro q000 (And.intro q001 (And.intro q010 (And.intro q011 (And.intro q100 (And.intro q101 (And.intro q110 (And.intro q111 (And.intro f3 f4))))))))
 have hop : GFsHs.hopsR xs = opsR xs := by subst hFsHs; rfl
 have hE : GFsHs.isEv xs := by subst hFsHs; exact hev
 obtain ⟨zs, q, hzq⟩ : ∃ zs q, opsR xs = (zs, q) := ⟨_, _, rfl⟩
 rw [hzq] at hop
 obtain ⟨g2, t2⟩ : ∃ t, A.cmp .gtr (A.len zs) 12 = t := ⟨_, rfl⟩
 have hg2 : g2 = decide (12 < zs.length) := by
  rw [← t2]
  subst hA
  show decide ((zs.length : Int) > 12) = _
  by_cases h : 12 < zs.length
  ·rw [decide_eq_true h, decide_eq_true (by omega)]
  ·rw [decide_eq_false h, decide_eq_false (by omega)]
 cbv at hop hE t2
 repeat first
  | (simp only [hop, t2, qq]; cbv)
  | refine an_Hn20 ?_
 have hl0 : evsOf xs = l := by rw [hxs, evsOf_X]
 have hcase : (q = false ∧ opsM l = none) ∨ (q = true ∧ ∃ o, opsM l = some o ∧ zs = evsX o) := by
  unfold opsR at hzq
  rw [hl0] at hzq
  cases h : opsM l with
  | none =>
    rw [h] at hzq
    simp only [Prod.mk.injEq] at hzq
    exact .inl ⟨hzq.2.symm, rfl⟩
  | some o =>
    rw [h] at hzq
    simp only [Prod.mk.injEq] at hzq
    exact .inr ⟨hzq.2.symm, o, rfl, hzq.1.symm⟩
 rcases hcase with ⟨rfl, ho⟩ | ⟨rfl, o, ho, hzo⟩
 ·have hlin : linR xs = (false, false) := by unfold linR linM; rw [hl0, ho]
  cases g2
  all_goals cbv
  all_goals
   repeat first
    | (simp only [t2, qq]; cbv)
    | refine an_Hn20 ?_
  all_goals subst hA hX hW
  all_goals rw [hlin]
  all_goals exact ret_v rfl rfl
 ·cases g2
  case true =>
   have hlin : linR xs = (false, false) := by
    unfold linR linM
    rw [hl0, ho]
    have := of_decide_eq_true hg2.symm
    rw [hzo, evsX_len] at this
    simp only [this, if_true]
   cbv
   repeat first
    | (simp only [t2, qq]; cbv)
    | refine an_Hn20 ?_
   subst hA hX hW
   rw [hlin]
   exact ret_v rfl rfl
  case false =>
   have h12 : o.length ≤ 12 := by
    have := of_decide_eq_false hg2.symm
    rw [hzo, evsX_len] at this
    omega
   have hok := opsM_ok hl hevp ho
   replace hl : l.length ≤ 1048576 := hl
   have h9 : (l.length : Int) ≤ 1048576 := by omega
   cbv
   repeat first
    | (simp only [t2, qq]; cbv)
    | refine an_Hn20 ?_
   refine regMr (T := fun _ => tabY [] []) (H := fun _ => [kn_hopsR GFsHs]) (tabY_ok _ _) hH follows_mixed hBl hA hX hY keyR mapR zeroI [48] fun C hC => ?_
   cbv
   refine ⟨by subst hC; rfl, by subst hC; exact hI, fun g => ?_⟩
   have hemp : C.emp = fun _ => none := by subst hC; rfl
   cbv at hemp
   simp only [hemp]
   clear hemp
   cbv
   subst hC
   obtain ⟨z, hz⟩ : ∃ z, z = cellsS [] (List.replicate 8 ⟨0, zeroRep⟩) := ⟨_, rfl⟩
   have hfit := w_fit zs o hzo h12 (by rw [hzo]; exact hok.isEv h9) (fun e he => by have := (hok.ev e he).2.1; omega) (remN 0) 0 z 0 g (fun _ => none) (by decide) (Nat.le_refl _) ⟨[], _, hz, zero_st⟩ (Int.le_refl 0) (by decide) (Bad.nil _)
   have hup : upCs Zn49 = z := by rw [hz]; rfl
   refine ⟨by kernel_rfl, FnM.mono (FnM.ups (args' := [.d (.slc 14 zs), .d (.sc (.int .i64 0)), .agg z, .d (.sc (.map (some g)))]) hfit (fun E vs h => UpL.reps (UpL.keep (UpL.keep (by rw [← hup]; exact UpL.agg (upL_upCs Zn49) (UpL.refl' _)))) h)) ?_⟩
   rintro r st9 G9 ⟨⟨t, rfl, ht⟩, rfl, _⟩
   cbv
   subst hA hX hW
   have hlin : linR xs = (t, true) := by
    unfold linR linM
    rw [hl0, ho, ← hz]
    have h2 : ¬ 12 < o.length := by omega
    simp only [h2, if_false]
    congr 1
    exact cdec _ _ ht
   rw [hlin]
   exact ret_keep [] rfl ⟨rfl, rfl, rfl⟩
structure FsHt where
 linearR : List (List PD) → Bool × Bool
 isEv : List (List PD) → Prop
noncomputable def FsHt0 : FsHt where
 linearR := linR
 isEv := isEv
def kn_linearR (F : FsHt) : FuncId × (List DV → RV) := (29, fun args => match args with
 | [.d (.slc 14 xs)] => some ([F.isEv xs], .tup [boolD (((F.linearR xs)).1), boolD (((F.linearR xs)).2)])
 | [.d (.sc (.slice none 0 0))] => some ([F.isEv []], .tup [boolD (((F.linearR [])).1), boolD (((F.linearR [])).2)])
 | _ => none)
theorem ok_linearR (args : List DV) (cs : List Prop) (r : DV) (h : (kn_linearR FsHt0).2 args = some (cs, r)) (hc : allP cs True) : FnV Try.prog 29 args r ∧ closedL 0 args = true := by
 unfold kn_linearR at h
 simp only at h
 split at h
 ·cases h; exact ⟨v_linearR _ hc.1, rfl⟩
 ·cases h; exact ⟨FnP.nils (v_linearR [] hc.1) ⟨.inr ⟨rfl, _, rfl⟩, trivial⟩, rfl⟩
 ·cases h
end Go.Proofs.Ytadnpgkddgbhkaa
namespace Go.Proofs.Ytadnpgkddgbhkaa
open Go.RowKit Go.Maps
set_option linter.all false
set_option maxHeartbeats 8000000
def lcallH (c : Cmd) : HOp := (evC c).op
def lbackH (c : Cmd) (r : Reply) : HOp := (evR c r).op
theorem v_lcallH (c : Cmd) : FnV Try.prog 20 [Cmd.D c] (HOp.D (lcallH c)) := v_lcall c
theorem v_lbackH (c : Cmd) (r : Reply) : FnV Try.prog 22 [Cmd.D c, Reply.D r] (HOp.D (lbackH c r)) := v_lback c r
structure FsHz where
 lput : Cmd
 lget : Cmd
 lcallH : Cmd → HOp
 lbackH : Cmd → Reply → HOp
 lis : Bool → List (List PD) → Bool
 isP : List (List PD) → Prop
 isEv : List (List PD) → Prop
noncomputable def FsHz0 : FsHz where
 lput := putC
 lget := getC
 lcallH := lcallH
 lbackH := lbackH
 lis := isR
 isP := isP
 isEv := isEv
def kn_lput (F : FsHz) : FuncId × (List DV → RV) := (21, fun args => match args with
 | [] => some ([], Cmd.D F.lput)
 | _ => none)
theorem ok_lput (args : List DV) (cs : List Prop) (r : DV) (h : (kn_lput FsHz0).2 args = some (cs, r)) (hc : allP cs True) : FnV Try.prog 21 args r ∧ closedL 0 args = true := by
 unfold kn_lput at h
 simp only at h
 split at h
 ·cases h; exact ⟨v_lput, rfl⟩
 ·cases h
def kn_lget (F : FsHz) : FuncId × (List DV → RV) := (23, fun args => match args with
 | [] => some ([], Cmd.D F.lget)
 | _ => none)
theorem ok_lget (args : List DV) (cs : List Prop) (r : DV) (h : (kn_lget FsHz0).2 args = some (cs, r)) (hc : allP cs True) : FnV Try.prog 23 args r ∧ closedL 0 args = true := by
 unfold kn_lget at h
 simp only at h
 split at h
 ·cases h; exact ⟨v_lget, rfl⟩
 ·cases h
def kn_lcallH (F : FsHz) : FuncId × (List DV → RV) := (20, fun args => match args with
 | [.agg [.d (.sc (.int .i64 c_kind)), .d (.sc (.int .i64 c_client)), .d (.sc (.int .i64 c_seq)), .d (.sc (.string c_key)), .d (.sc (.string c_fin)), .d (.sc (.string c_old)), .d (.sc (.string c_val))]] => some ([], HOp.D ((F.lcallH ⟨c_kind, c_client, c_seq, c_key, c_fin, c_old, c_val⟩)))
 | _ => none)
theorem ok_lcallH (args : List DV) (cs : List Prop) (r : DV) (h : (kn_lcallH FsHz0).2 args = some (cs, r)) (hc : allP cs True) : FnV Try.prog 20 args r ∧ closedL 0 args = true := by
 unfold kn_lcallH at h
 simp only at h
 split at h
 ·cases h; exact ⟨v_lcallH ⟨_, _, _, _, _, _, _⟩, rfl⟩
 ·cases h
def kn_lbackH (F : FsHz) : FuncId × (List DV → RV) := (22, fun args => match args with
 | [.agg [.d (.sc (.int .i64 c_kind)), .d (.sc (.int .i64 c_client)), .d (.sc (.int .i64 c_seq)), .d (.sc (.string c_key)), .d (.sc (.string c_fin)), .d (.sc (.string c_old)), .d (.sc (.string c_val))], .agg [.d (.sc (.int .i64 r_why)), .d (.sc (.bool r_found)), .d (.sc (.string r_value)), .d (.sc (.int .i64 r_version)), .d (.slc 3 r_pairs)]] => some ([], HOp.D ((F.lbackH ⟨c_kind, c_client, c_seq, c_key, c_fin, c_old, c_val⟩ ⟨r_why, r_found, r_value, r_version, r_pairs⟩)))
 | [.agg [.d (.sc (.int .i64 c_kind)), .d (.sc (.int .i64 c_client)), .d (.sc (.int .i64 c_seq)), .d (.sc (.string c_key)), .d (.sc (.string c_fin)), .d (.sc (.string c_old)), .d (.sc (.string c_val))], .agg [.d (.sc (.int .i64 r_why)), .d (.sc (.bool r_found)), .d (.sc (.string r_value)), .d (.sc (.int .i64 r_version)), .d (.sc (.slice none 0 0))]] => some ([], HOp.D ((F.lbackH ⟨c_kind, c_client, c_seq, c_key, c_fin, c_old, c_val⟩ ⟨r_why, r_found, r_value, r_version, []⟩)))
 | _ => none)
theorem ok_lbackH (args : List DV) (cs : List Prop) (r : DV) (h : (kn_lbackH FsHz0).2 args = some (cs, r)) (hc : allP cs True) : FnV Try.prog 22 args r ∧ closedL 0 args = true := by
 unfold kn_lbackH at h
 simp only at h
 split at h
 ·cases h; exact ⟨v_lbackH ⟨_, _, _, _, _, _, _⟩ ⟨_, _, _, _, _⟩, rfl⟩
 ·cases h; exact ⟨FnP.ups (v_lbackH ⟨_, _, _, _, _, _, _⟩ ⟨_, _, _, _, []⟩) (UpL.agg (UpL.keep (UpL.keep (UpL.keep (UpL.keep (UpL.keep (UpL.keep (UpL.keep UpL.done))))))) (UpL.agg (UpL.keep (UpL.keep (UpL.keep (UpL.keep (UpL.nil UpL.done))))) UpL.done)), rfl⟩
 ·cases h
def kn_lis (F : FsHz) : FuncId × (List DV → RV) := (19, fun args => match args with
 | [.d (.sc (.bool w)), .d (.slc 14 xs)] => some ([F.isEv xs], boolD ((F.lis w xs)))
 | [.d (.sc (.bool w)), .d (.sc (.slice none 0 0))] => some ([F.isEv []], boolD ((F.lis w [])))
 | _ => none)
theorem ok_lis (args : List DV) (cs : List Prop) (r : DV) (h : (kn_lis FsHz0).2 args = some (cs, r)) (hc : allP cs True) : FnV Try.prog 19 args r ∧ closedL 0 args = true := by
 unfold kn_lis at h
 simp only at h
 split at h
 ·cases h; exact ⟨v_lis _ _ hc.1, rfl⟩
 ·cases h; exact ⟨FnP.nils (v_lis _ [] hc.1) ⟨.inl rfl, ⟨.inr ⟨rfl, _, rfl⟩, trivial⟩⟩, rfl⟩
 ·cases h
end Go.Proofs.Ytadnpgkddgbhkaa
