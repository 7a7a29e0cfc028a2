/- Histories: the program's Linear. No condition. -/
import Derived.Test.YtadnpgkddgbhkaaZX25
namespace Go.Proofs.Ytadnpgkddgbhkaa
open Go.RowKit Go.Maps
set_option linter.all false
set_option maxHeartbeats 8000000
open Classical in
noncomputable def linM (l : List Ev) : Bool × Bool := match opsM l with
 | none => (false, false)
 | some o => if 12 < o.length then (false, false) else (decide (Lin o 0 (cellsS [] (List.replicate 8 ⟨0, zeroRep⟩))), true)
noncomputable def linR (xs : List (List PD)) : Bool × Bool := linM (evsOf xs)
theorem right_cl {c : Cmd} (h : rightC c = true) (hk : c.kind ≠ 0) : 1 ≤ c.client ∧ c.client ≤ 8 := by
 unfold rightC at h
 rw [Bool.or_eq_true] at h
 rcases h with h | h
 ·rw [decide_eq_true_eq] at h
  rw [h] at hk
  exact absurd rfl hk
 ·simp only [Bool.and_eq_true] at h
  have := h.1.1.1.1.1.1.1.2
  simpa [within] using this
theorem OpsOk.isEv {i : Int} {o : List Ev} (h : OpsOk i o) (hi : i ≤ 1048576) : isEv (evsX o) := ⟨o, rfl, by have := h.len; omega, fun e he => by
 have h1 := h.ev e he
 have h2 := right_cl h1.2.2.2.2.1 h1.2.2.2.2.2.1
 exact ⟨by unfold r64; omega, by unfold r64; omega, by unfold r64; omega, h1.2.2.2.2.2.2⟩⟩
theorem opsM_ok {l o : List Ev} (hl : l.length ≤ 1048576) (hp : ∀ e ∈ l, isP e.r.pairs) (h : opsM l = some o) : OpsOk l.length o := by
 have := opsF_ok l 0 [] o (Int.le_refl 0) OpsOk.nil hp h
 rw [Int.zero_add] at this
 exact this
def Zn49 : List DV := .d (.sc (.slice none 0 0)) :: Z48
theorem cdec (p : Prop) (t : Bool) (h : t = true ↔ p) : @decide p (Classical.propDecidable p) = t := by
 rw [Bool.eq_iff_iff, @decide_eq_true_eq p (Classical.propDecidable p)]
 exact h.symm
theorem Bad.nil (L : List Ev) : Bad L (fun _ => none) := fun d b v h => by cases h
theorem an_Hi100 {p q : Prop} (hq : q) (hp : p := by subst hA hX hFsHp; clear hH hB; first | exact trivial | exact rfl | assumption | (simp [A0]; done) | (intro q; simpa [A0] using q) | (intro _; trivial) | (show _ = true; kernel_rfl)) : p ∧ q := ⟨hp, hq⟩
set_option maxRecDepth 100000 in
theorem v_linear (xs : List (List PD)) (hev : isEv xs) : FnV Try.prog 28 [.d (.slc 14 xs)] (.tup [.d (.sc (.bool (linR xs).1)), .d (.sc (.bool (linR xs).2))]) := by
 obtain ⟨l, hxs, hl, hle⟩ := hev
 have hev : isEv xs := ⟨l, hxs, hl, hle⟩
 have hevp : ∀ e ∈ l, isP e.r.pairs := evP hxs hev
 obtain ⟨GFsHp, hFsHp⟩ : ∃ F, F = FsHp0 := ⟨_, rfl⟩
 have hH : SoundK Try.prog [kn_hops GFsHp] := by subst hFsHp; exact orK_ok ok_hops noK_ok
 have hB : SoundB Try.prog [] := by subst hFsHp; exact noB_ok
 refine FnD_M (T := fun _ => tabY [] [4, 5]) (H := fun _ => [kn_hops GFsHp]) (tabY_ok _ _) hH follows_mixed 122 false Try.func28 rfl Try.ntmps28 (by simp) fun A X W Bs I Y hA hX hW hBl hBs hI hY => ?_
 cbv
 have q000 : A.cond false false false = false := by subst hA; rfl
 have q001 : A.cond false false true = true := by subst hA; rfl
 have q010 : A.cond false true false = false := by subst hA; rfl
 have q011 : A.cond false true true = true := by subst hA; rfl
 have q100 : A.cond true false false = false := by subst hA; rfl
 have q101 : A.cond true false true = false := by subst hA; rfl
 have q110 : A.cond true true false = true := by subst hA; rfl
 have q111 : A.cond true true true = true := by subst hA; rfl
 have f3 : A.not true = false := by subst hA; rfl
 have f4 : A.not false = true := by subst hA; rfl
 cbv at f3 f4 q000 q001 q010 q011 q100 q101 q110 q111
 have qq := And.intro q000 (And.intro q001 (And.intro q010 (And.intro q011 (And.intro q100 (And.intro q101 (And.intro q110 (And.intro q111 (And.intro f3 f4))))))))
 have hop : GFsHp.hops xs = opsR xs := by subst hFsHp; rfl
 have hE : GFsHp.isEv xs := by subst hFsHp; exact hev
 obtain ⟨zs, q, hzq⟩ : ∃ zs q, opsR xs = (zs, q) := ⟨_, _, rfl⟩
 rw [hzq] at hop
 obtain ⟨g2, t2⟩ : ∃ t, A.cmp .gtr (A.len zs) 12 = t := ⟨_, rfl⟩
 have hg2 : g2 = decide (12 < zs.length) := by
  rw [← t2]
  subst hA
  show decide ((zs.length : Int) > 12) = _
  by_cases h : 12 < zs.length
  ·rw [decide_eq_true h, decide_eq_true (by omega)]
  ·rw [decide_eq_false h, decide_eq_false (by omega)]
 cbv at hop hE t2
 repeat first
  | (simp only [hop, t2, qq]; cbv)
  | refine an_Hi100 ?_
 have hl0 : evsOf xs = l := by rw [hxs, evsOf_X]
 have hcase : (q = false ∧ opsM l = none) ∨ (q = true ∧ ∃ o, opsM l = some o ∧ zs = evsX o) := by
  unfold opsR at hzq
  rw [hl0] at hzq
  cases h : opsM l with
  | none =>
    rw [h] at hzq
    simp only [Prod.mk.injEq] at hzq
    exact .inl ⟨hzq.2.symm, rfl⟩
  | some o =>
    rw [h] at hzq
    simp only [Prod.mk.injEq] at hzq
    exact .inr ⟨hzq.2.symm, o, rfl, hzq.1.symm⟩
 rcases hcase with ⟨rfl, ho⟩ | ⟨rfl, o, ho, hzo⟩
 ·have hlin : linR xs = (false, false) := by unfold linR linM; rw [hl0, ho]
  cases g2
  all_goals cbv
  all_goals
   repeat first
    | (simp only [t2, qq]; cbv)
    | refine an_Hi100 ?_
  all_goals subst hA hX hW
  all_goals rw [hlin]
  all_goals exact ret_v rfl rfl
 ·cases g2
  case true =>
   have hlin : linR xs = (false, false) := by
    unfold linR linM
    rw [hl0, ho]
    have := of_decide_eq_true hg2.symm
    rw [hzo, evsX_len] at this
    simp only [this, if_true]
   cbv
   repeat first
    | (simp only [t2, qq]; cbv)
    | refine an_Hi100 ?_
   subst hA hX hW
   rw [hlin]
   exact ret_v rfl rfl
  case false =>
   have h12 : o.length ≤ 12 := by
    have := of_decide_eq_false hg2.symm
    rw [hzo, evsX_len] at this
    omega
   have hok := opsM_ok hl hevp ho
   have h9 : (l.length : Int) ≤ 1048576 := by omega
   cbv
   repeat first
    | (simp only [t2, qq]; cbv)
    | refine an_Hi100 ?_
   refine regMr (T := fun _ => tabY [] []) (H := fun _ => [kn_hops GFsHp]) (tabY_ok _ _) hH follows_mixed hBl hA hX hY keyT mapT zeroE [] fun C hC => ?_
   cbv
   refine ⟨by subst hC; rfl, by subst hC; exact hI, fun g => ?_⟩
   have hemp : C.emp = fun _ => none := by subst hC; rfl
   cbv at hemp
   simp only [hemp]
   clear hemp hC
   cbv
   repeat first
    | (simp only [qq]; cbv)
    | refine an_Hi100 ?_
   refine regMr (T := fun _ => tabY [] []) (H := fun _ => [kn_hops GFsHp]) (tabY_ok _ _) hH follows_mixed hBl hA hX hY keyT mapT zeroE [47] fun C hC => ?_
   cbv
   subst hC
   obtain ⟨z, hz⟩ : ∃ z, z = cellsS [] (List.replicate 8 ⟨0, zeroRep⟩) := ⟨_, rfl⟩
   have hfrom := w_from zs o hzo h12 (by rw [hzo]; exact hok.isEv h9) (remN 0) 0 z 0 g (fun _ => none) (by decide) (Nat.le_refl _) ⟨[], _, hz, zero_st⟩ (Int.le_refl 0) (by decide) (Bad.nil _)
   have hup : upCs Zn49 = z := by rw [hz]; rfl
   refine ⟨by kernel_rfl, FnM.mono (FnM.ups (args' := [.ref 0 0 0, .d (.sc (.int .i64 0)), .agg z]) hfrom (fun E vs h => UpL.reps (UpL.keep (UpL.keep (by rw [← hup]; exact UpL.agg (upL_upCs Zn49) (UpL.refl' [])))) h)) ?_⟩
   rintro r st9 G9 ⟨⟨t, rfl, ht⟩, rfl, _⟩
   cbv
   subst hA hX hW
   have hlin : linR xs = (t, true) := by
    unfold linR linM
    rw [hl0, ho, ← hz]
    have h2 : ¬ 12 < o.length := by omega
    simp only [h2, if_false]
    congr 1
    exact cdec _ _ ht
   rw [hlin]
   exact ret_keep [] rfl ⟨rfl, rfl, rfl⟩
structure FsHl where
 linear : List (List PD) → Bool × Bool
 isEv : List (List PD) → Prop
noncomputable def FsHl0 : FsHl where
 linear := linR
 isEv := isEv
def kn_linear (F : FsHl) : FuncId × (List DV → RV) := (28, fun args => match args with
 | [.d (.slc 14 xs)] => some ([F.isEv xs], .tup [boolD (((F.linear xs)).1), boolD (((F.linear xs)).2)])
 | [.d (.sc (.slice none 0 0))] => some ([F.isEv []], .tup [boolD (((F.linear [])).1), boolD (((F.linear [])).2)])
 | _ => none)
theorem ok_linear (args : List DV) (cs : List Prop) (r : DV) (h : (kn_linear FsHl0).2 args = some (cs, r)) (hc : allP cs True) : FnV Try.prog 28 args r ∧ closedL 0 args = true := by
 unfold kn_linear at h
 simp only at h
 split at h
 ·cases h; exact ⟨v_linear _ hc.1, rfl⟩
 ·cases h; exact ⟨FnP.nils (v_linear [] hc.1) ⟨.inr ⟨rfl, _, rfl⟩, trivial⟩, rfl⟩
 ·cases h
end Go.Proofs.Ytadnpgkddgbhkaa
