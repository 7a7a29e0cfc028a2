/- Histories: the law's small functions. No condition. -/
import Derived.Test.YtadnpgkddgbhkaaZX27
import Derived.Test.YtadnpgkddgbhkaaZX17
namespace Go.Proofs.Ytadnpgkddgbhkaa
open Go.RowKit Go.Maps
set_option linter.all false
set_option maxHeartbeats 8000000
abbrev aB : ByteArray := { data := #[97] }
abbrev oneB2 : ByteArray := { data := #[49] }
def putC : Cmd := ⟨2, 1, 1, aB, none8, none8, oneB2⟩
def getC : Cmd := ⟨1, 2, 1, aB, none8, none8, none8⟩
def evC (c : Cmd) : Ev := ⟨1, c.client, c, zeroRep⟩
def evR (c : Cmd) (r : Reply) : Ev := ⟨2, c.client, c, r⟩
set_option maxRecDepth 100000 in
theorem v_lput  : FnV Try.prog 21 [] (Cmd.D putC) := by
  have hH : SoundK Try.prog [] := by exact noK_ok
  have hB : SoundB Try.prog [] := by exact noB_ok
  refine FnD_cbv (T := fun _ => tabY [] []) (H := fun _ => []) (tabY_ok _ _) hH follows_mixed Try.func21 rfl Try.ntmps21 (by simp) fun A X W hA hX hW => ?_
  cbv
  repeat first
    | refine And.intro (by
         subst hA hX
         clear hH hB
         first
           | exact trivial
           | exact rfl
           | (simp [A0]; done)
           | (intro q; exact q)
           | (intro q; simpa [A0] using q)
           | (intro _; trivial)
           | (show Region.lexB _ _ = true; kernel_rfl)
           | (show turnsB _ = true; kernel_rfl)
           | assumption
           | (intro _; assumption)
           | (intro _; rfl)) ?_
    | (refine pickL hX (t := true) (by rfl) rfl ?_; cbv)
    | (refine pickL hX (t := false) (by rfl) rfl ?_; cbv)
    | ((with_reducible refine callB hX hB ?_); cbv; fail_if_success show False)
  subst hA hX hW
  exact ret_v rfl rfl
set_option maxRecDepth 100000 in
theorem v_lget  : FnV Try.prog 23 [] (Cmd.D getC) := by
  have hH : SoundK Try.prog [] := by exact noK_ok
  have hB : SoundB Try.prog [] := by exact noB_ok
  refine FnD_cbv (T := fun _ => tabY [] []) (H := fun _ => []) (tabY_ok _ _) hH follows_mixed Try.func23 rfl Try.ntmps23 (by simp) fun A X W hA hX hW => ?_
  cbv
  repeat first
    | refine And.intro (by
         subst hA hX
         clear hH hB
         first
           | exact trivial
           | exact rfl
           | (simp [A0]; done)
           | (intro q; exact q)
           | (intro q; simpa [A0] using q)
           | (intro _; trivial)
           | (show Region.lexB _ _ = true; kernel_rfl)
           | (show turnsB _ = true; kernel_rfl)
           | assumption
           | (intro _; assumption)
           | (intro _; rfl)) ?_
    | (refine pickL hX (t := true) (by rfl) rfl ?_; cbv)
    | (refine pickL hX (t := false) (by rfl) rfl ?_; cbv)
    | ((with_reducible refine callB hX hB ?_); cbv; fail_if_success show False)
  subst hA hX hW
  exact ret_v rfl rfl
set_option maxRecDepth 100000 in
theorem v_lcall (c : Cmd) : FnV Try.prog 20 [Cmd.D c] (.agg (evC c).cells) := by
  have hH : SoundK Try.prog [] := by exact noK_ok
  have hB : SoundB Try.prog [] := by exact noB_ok
  refine FnD_cbv (T := fun _ => tabY [] []) (H := fun _ => []) (tabY_ok _ _) hH follows_mixed Try.func20 rfl Try.ntmps20 (by simp) fun A X W hA hX hW => ?_
  cbv
  repeat first
    | refine And.intro (by
         subst hA hX
         clear hH hB
         first
           | exact trivial
           | exact rfl
           | (simp [A0]; done)
           | (intro q; exact q)
           | (intro q; simpa [A0] using q)
           | (intro _; trivial)
           | (show Region.lexB _ _ = true; kernel_rfl)
           | (show turnsB _ = true; kernel_rfl)
           | assumption
           | (intro _; assumption)
           | (intro _; rfl)) ?_
    | (refine pickL hX (t := true) (by rfl) rfl ?_; cbv)
    | (refine pickL hX (t := false) (by rfl) rfl ?_; cbv)
    | ((with_reducible refine callB hX hB ?_); cbv; fail_if_success show False)
  subst hA hX hW
  exact ret_up ⟨_, rfl, _, _, rfl, .inl rfl, _, _, rfl, .inl rfl, _, _, rfl, .inl rfl, _, _, rfl, .inl rfl, _, _, rfl, .inl rfl, _, _, rfl, .inl rfl, _, _, rfl, .inl rfl, _, _, rfl, .inl rfl, _, _, rfl, .inl rfl, _, _, rfl, .inl rfl, _, _, rfl, .inl rfl, _, _, rfl, .inl rfl, _, _, rfl, .inl rfl, _, _, rfl, .inr ⟨rfl, 3, rfl⟩, rfl⟩ rfl
set_option maxRecDepth 100000 in
theorem v_lback (c : Cmd) (r : Reply) : FnV Try.prog 22 [Cmd.D c, Reply.D r] (.agg (evR c r).cells) := by
  have hH : SoundK Try.prog [] := by exact noK_ok
  have hB : SoundB Try.prog [] := by exact noB_ok
  refine FnD_cbv (T := fun _ => tabY [] []) (H := fun _ => []) (tabY_ok _ _) hH follows_mixed Try.func22 rfl Try.ntmps22 (by simp) fun A X W hA hX hW => ?_
  cbv
  repeat first
    | refine And.intro (by
         subst hA hX
         clear hH hB
         first
           | exact trivial
           | exact rfl
           | (simp [A0]; done)
           | (intro q; exact q)
           | (intro q; simpa [A0] using q)
           | (intro _; trivial)
           | (show Region.lexB _ _ = true; kernel_rfl)
           | (show turnsB _ = true; kernel_rfl)
           | assumption
           | (intro _; assumption)
           | (intro _; rfl)) ?_
    | (refine pickL hX (t := true) (by rfl) rfl ?_; cbv)
    | (refine pickL hX (t := false) (by rfl) rfl ?_; cbv)
    | ((with_reducible refine callB hX hB ?_); cbv; fail_if_success show False)
  subst hA hX hW
  exact ret_v rfl rfl
/-- Has a history an order? -/
noncomputable def isR (want : Bool) (xs : List (List PD)) : Bool := decide ((linR xs).1 = want) && (linR xs).2
set_option maxRecDepth 100000 in
theorem v_lis (want : Bool) (xs : List (List PD)) (hev : isEv xs) : FnV Try.prog 19 [.d (.sc (.bool want)), .d (.slc 14 xs)] (.d (.sc (.bool (isR want xs)))) := by
  obtain ⟨GFsHl, hFsHl⟩ : ∃ F, F = FsHl0 := ⟨_, rfl⟩
  have hH : SoundK Try.prog [kn_linear GFsHl] := by subst hFsHl; exact orK_ok ok_linear noK_ok
  have hB : SoundB Try.prog [] := by subst hFsHl; exact noB_ok
  refine FnD_cbv (T := fun _ => tabY [] []) (H := fun _ => [kn_linear GFsHl]) (tabY_ok _ _) hH follows_mixed Try.func19 rfl Try.ntmps19 (by simp) fun A X W hA hX hW => ?_
  cbv
  have hop : GFsHl.linear xs = linR xs := by subst hFsHl; rfl
  have hE : GFsHl.isEv xs := by subst hFsHl; exact hev
  obtain ⟨a, b, hab⟩ : ∃ a b, linR xs = (a, b) := ⟨_, _, rfl⟩
  rw [hab] at hop
  obtain ⟨eb, t2⟩ : ∃ t, A.beq a want = t := ⟨_, rfl⟩
  have heb : eb = decide (a = want) := by rw [← t2]; subst hA; rfl
  have hr : isR want xs = (eb && b) := by unfold isR; rw [hab, heb]
  cbv at hop hE t2
  repeat first
    | (simp only [hop, t2]; cbv)
    | refine And.intro (by
         subst hA hX hFsHl
         clear hH hB
         first
           | exact trivial
           | exact rfl
           | (simp [A0]; done)
           | (intro q; exact q)
           | (intro q; simpa [A0] using q)
           | (intro _; trivial)
           | (show Region.lexB _ _ = true; kernel_rfl)
           | (show turnsB _ = true; kernel_rfl)
           | assumption
           | (intro _; assumption)
           | (intro _; rfl)) ?_
    | (refine pickL hX (t := true) (by rfl) rfl ?_; cbv)
    | (refine pickL hX (t := false) (by rfl) rfl ?_; cbv)
    | ((with_reducible refine callB hX hB ?_); cbv; fail_if_success show False)
  cases eb
  all_goals cbv
  all_goals
    repeat first
      | (simp only [hop, t2]; cbv)
      | refine And.intro (by
           subst hA hX hFsHl
           clear hH hB
           first
             | exact trivial
             | exact rfl
             | (simp [A0]; done)
             | (intro q; exact q)
             | (intro q; simpa [A0] using q)
             | (intro _; trivial)
             | (show Region.lexB _ _ = true; kernel_rfl)
             | (show turnsB _ = true; kernel_rfl)
             | assumption
             | (intro _; assumption)
             | (intro _; rfl)) ?_
      | (refine pickL hX (t := true) (by rfl) rfl ?_; cbv)
      | (refine pickL hX (t := false) (by rfl) rfl ?_; cbv)
      | ((with_reducible refine callB hX hB ?_); cbv; fail_if_success show False)
  all_goals subst hA hX hW
  all_goals rw [hr]
  all_goals exact ret_v (by cases b <;> rfl) rfl
/-- Each of the six histories, as rows. -/
def hA1 : List Ev := [evC putC, evR putC ⟨0, false, none8, 1, []⟩, evC getC, evR getC ⟨0, true, oneB2, 1, []⟩]
def hA2 : List Ev := [evC putC, evR putC ⟨0, false, none8, 1, []⟩, evC getC, evR getC zeroRep]
def hA3 : List Ev := [evC putC, evC getC, evR getC zeroRep]
def hA4 : List Ev := [evC putC, evC getC, evR getC ⟨0, true, oneB2, 1, []⟩]
end Go.Proofs.Ytadnpgkddgbhkaa
namespace Go.Proofs.Ytadnpgkddgbhkaa
open Go.RowKit Go.Maps
set_option linter.all false
/-- The search, decided with so many steps. -/
noncomputable def linB (L : List Ev) : Nat → Int → List DV → Bool
  | 0, d, s => !leftF d L 0
  | n + 1, d, s => !leftF d L 0 || (List.range L.length).any fun i => mayL L i d && (fitR s (L.getD i default) && linB L n (orX d i) (applyS s (L.getD i default).c).1)
theorem linB_sound {L : List Ev} : ∀ (n : Nat) (d : Int) (s : List DV), linB L n d s = true → Lin L d s
  | 0, d, s, h => .done (by simpa [linB] using h)
  | n + 1, d, s, h => by
      rw [linB, Bool.or_eq_true] at h
      rcases h with h | h
      · exact .done (by simpa using h)
      · rw [List.any_eq_true] at h
        obtain ⟨i, hi, h⟩ := h
        simp only [Bool.and_eq_true] at h
        have hi2 := List.mem_range.1 hi
        exact .step (k := (i : Int)) (by omega) (by omega) h.1 h.2.1 (linB_sound n _ _ h.2.2)
theorem Lin.linB {L : List Ev} {d : Int} {s : List DV} (hL : L.length ≤ 12) (h : Lin L d s) : ∀ n0 : Nat, d = (n0 : Int) → n0 < 4096 → ∀ N, remN n0 ≤ N → linB L N d s = true := by
  induction h with
  | done h =>
    intro n0 _ _ N _
    cases N <;> simp [Go.Proofs.Ytadnpgkddgbhkaa.linB, h]
  | @step d s k k0 k1 hm hf _ ih =>
    intro n0 hd hn N hN
    have hb : n0.testBit k.toNat = false := by
      unfold mayL at hm
      rw [hd, bit_nat hn k0 (by omega)] at hm
      cases hb : n0.testBit k.toNat with
      | false => rfl
      | true => rw [hb] at hm; simp at hm
    have hlt := remN_or (n := n0) (k := k.toNat) (by omega) hb
    have ho := or_nat hn k0 (by omega : k < 12)
    obtain ⟨M, rfl⟩ : ∃ M, N = M + 1 := ⟨N - 1, by omega⟩
    have h2 := ih (n0 ||| 2 ^ k.toNat) (by rw [← ho, ← hd]) (or_lt hn (by omega)) M (by omega)
    rw [Go.Proofs.Ytadnpgkddgbhkaa.linB, Bool.or_eq_true, List.any_eq_true]
    have ek : ((k.toNat : Nat) : Int) = k := by omega
    refine .inr ⟨k.toNat, List.mem_range.2 (by omega), ?_⟩
    rw [ek, hm, hf, h2]
    rfl
theorem lin_iff {L : List Ev} {s : List DV} (hL : L.length ≤ 12) : Lin L 0 s ↔ linB L 12 0 s = true := ⟨fun h => h.linB hL 0 rfl (by decide) 12 (by decide), linB_sound 12 0 s⟩
/-- Are two replies the same? To be reckoned. -/
def repC (a b : Reply) : Bool := decide (a.why = b.why) && (decide (a.found = b.found) && (decide (a.value = b.value) && (decide (a.version = b.version) && decide (pairsOf a.pairs = pairsOf b.pairs))))
theorem rep_c {a b : Reply} (ha : isP a.pairs) (hb : isP b.pairs) : repliesX a b = repC a b := by
  obtain ⟨ps, hps, _⟩ := ha
  obtain ⟨qs, hqs, _⟩ := hb
  obtain ⟨w, f, v, r, xs⟩ := a
  obtain ⟨w2, f2, v2, r2, ys⟩ := b
  replace hps : xs = pairsX ps := hps
  replace hqs : ys = pairsX qs := hqs
  subst hps hqs
  rw [Bool.eq_iff_iff, repliesX_iff]
  simp only [repC, Bool.and_eq_true, decide_eq_true_eq, pairsOf_X, Reply.mk.injEq, pairsX_inj]
noncomputable def linC (L : List Ev) : Nat → Int → List DV → Bool
  | 0, d, s => !leftF d L 0
  | n + 1, d, s => !leftF d L 0 || (List.range L.length).any fun i => mayL L i d && ((decide ((L.getD i default).b < 0) || repC (applyS s (L.getD i default).c).2 (L.getD i default).r) && linC L n (orX d i) (applyS s (L.getD i default).c).1)
theorem linB_C {L : List Ev} (hev : ∀ e ∈ L, isP e.r.pairs) : ∀ (n : Nat) (d : Int) (s : List DV) (j : Int), stOk j s → 0 ≤ j → j + n ≤ 1000 → linB L n d s = linC L n d s
  | 0, d, s, j, _, _, _ => rfl
  | n + 1, d, s, j, hs, h0, h1 => by
      rw [linB, linC]
      congr 1
      rw [Bool.eq_iff_iff, List.any_eq_true, List.any_eq_true]
      have key : ∀ i ∈ List.range L.length, (mayL L i d && (fitR s (L.getD i default) && linB L n (orX d i) (applyS s (L.getD i default).c).1)) = (mayL L i d && ((decide ((L.getD i default).b < 0) || repC (applyS s (L.getD i default).c).2 (L.getD i default).r) && linC L n (orX d i) (applyS s (L.getD i default).c).1)) := by
        intro i hi
        have hi2 := List.mem_range.1 hi
        have hm : L.getD i default ∈ L := by rw [List.getD_eq_getElem?_getD, List.getElem?_eq_getElem hi2]; exact List.getElem_mem _
        rw [linB_C hev n _ _ (j + 1) (hs.app h0 (by omega) _) (by omega) (by omega)]
        unfold fitR
        rw [rep_c (hs.rep h0 (by omega) _) (hev _ hm)]
      constructor
      · rintro ⟨i, hi, h⟩
        exact ⟨i, hi, (key i hi) ▸ h⟩
      · rintro ⟨i, hi, h⟩
        exact ⟨i, hi, (key i hi) ▸ h⟩
noncomputable def zSt : List DV := cellsS [] (List.replicate 8 ⟨0, zeroRep⟩)
theorem zSt_ok : stOk 0 zSt := ⟨[], _, rfl, zero_st⟩
theorem lin_run {l o : List Ev} {b : Bool} (ho : opsM l = some o) (hl : o.length ≤ 12) (hev : ∀ e ∈ o, isP e.r.pairs) (hb : linC o 12 0 zSt = b) : linR (evsX l) = (b, true) := by
  unfold linR linM
  rw [evsOf_X, ho]
  have h2 : ¬ 12 < o.length := by omega
  simp only [h2, if_false]
  congr 1
  refine cdec _ _ ?_
  rw [show cellsS [] (List.replicate 8 ⟨0, zeroRep⟩) = zSt from rfl, lin_iff hl, linB_C hev 12 0 zSt 0 zSt_ok (Int.le_refl 0) (by decide), hb]
/-- Fits, to be reckoned. -/
noncomputable def ranC (o : List Ev) : List Int → Int → List Int → List DV → Option (List Int)
  | [], _, at_, _ => some at_
  | k :: r, i, at_, s => bif (decide (k < 0) || decide ((o.length : Int) ≤ k) || decide (at_.getD k.toNat 0 > 0)) then none
    else bif decide (0 ≤ (o.getD k.toNat default).b) && !repC (applyS s (o.getD k.toNat default).c).2 (o.getD k.toNat default).r then none
    else ranC o r (i + 1) (at_.set k.toNat (i + 1)) (applyS s (o.getD k.toNat default).c).1
theorem ranF_C {o : List Ev} (hev : ∀ e ∈ o, isP e.r.pairs) : ∀ (r : List Int) (i : Int) (at_ : List Int) (s : List DV) (j : Int), stOk j s → 0 ≤ j → j + r.length ≤ 1152921504606846976 → ranF o r i at_ s = ranC o r i at_ s
  | [], _, _, _, _, _, _, _ => rfl
  | k :: r, i, at_, s, j, hs, h0, h1 => by
      rw [List.length_cons] at h1
      rw [ranF, ranC]
      cases hb : (decide (k < 0) || decide ((o.length : Int) ≤ k) || decide (at_.getD k.toNat 0 > 0)) with
      | true => rfl
      | false =>
        simp only [Bool.or_eq_false_iff, decide_eq_false_iff_not] at hb
        have hm : o.getD k.toNat default ∈ o := by rw [List.getD_eq_getElem?_getD, List.getElem?_eq_getElem (by omega)]; exact List.getElem_mem _
        rw [cond_false, cond_false, rep_c (hs.rep h0 (by omega) _) (hev _ hm), ranF_C hev r (i + 1) _ _ (j + 1) (hs.app h0 (by omega) _) (by omega) (by omega)]
theorem fits_run {l o : List Ev} {r : List Int} {b : Bool} (ho : opsM l = some o) (hev : ∀ e ∈ o, isP e.r.pairs) (hr : r.length ≤ 1000) (hb : (match ranC o r 0 (List.replicate o.length 0) zSt with | none => false | some at_ => chkF o at_ o 0) = b) : fitsR (evsX l) (numsX r) = b := by
  unfold fitsR fitsM
  rw [evsOf_X, numsOf_X, ho]
  simp only []
  rw [show cellsS [] (List.replicate 8 ⟨0, zeroRep⟩) = zSt from rfl, ranF_C hev r 0 _ zSt 0 zSt_ok (Int.le_refl 0) (by omega)]
  exact hb
theorem noP {o : List Ev} (h : (o.all fun e => e.r.pairs.isEmpty) = true) : ∀ e ∈ o, isP e.r.pairs := fun e he => by
  rw [List.all_eq_true] at h
  rw [List.isEmpty_iff.1 (h e he)]
  exact isP.nil
def oA (l : List Ev) : List Ev := (opsM l).getD []
theorem run1 : linR (evsX hA1) = (true, true) := lin_run (o := oA hA1) (by rfl) (by decide) (noP (by kernel_rfl)) (by kernel_rfl)
theorem run2 : linR (evsX hA2) = (false, true) := lin_run (o := oA hA2) (by rfl) (by decide) (noP (by kernel_rfl)) (by kernel_rfl)
theorem run3 : linR (evsX hA3) = (true, true) := lin_run (o := oA hA3) (by rfl) (by decide) (noP (by kernel_rfl)) (by kernel_rfl)
theorem run4 : linR (evsX hA4) = (true, true) := lin_run (o := oA hA4) (by rfl) (by decide) (noP (by kernel_rfl)) (by kernel_rfl)
theorem run5 : fitsR (evsX hA4) (numsX [0, 1]) = true := fits_run (o := oA hA4) (by rfl) (noP (by kernel_rfl)) (by decide) (by kernel_rfl)
theorem run6 : fitsR (evsX hA4) (numsX [1, 0]) = false := fits_run (o := oA hA4) (by rfl) (noP (by kernel_rfl)) (by decide) (by kernel_rfl)
end Go.Proofs.Ytadnpgkddgbhkaa
namespace Go.Proofs.Ytadnpgkddgbhkaa
open Go.RowKit Go.Maps
set_option linter.all false
set_option maxHeartbeats 8000000
def lcallH (c : Cmd) : HOp := (evC c).op
def lbackH (c : Cmd) (r : Reply) : HOp := (evR c r).op
theorem v_lcallH (c : Cmd) : FnV Try.prog 20 [Cmd.D c] (HOp.D (lcallH c)) := v_lcall c
theorem v_lbackH (c : Cmd) (r : Reply) : FnV Try.prog 22 [Cmd.D c, Reply.D r] (HOp.D (lbackH c r)) := v_lback c r
structure FsHz where
  lput : Cmd
  lget : Cmd
  lcallH : Cmd → HOp
  lbackH : Cmd → Reply → HOp
  lis : Bool → List (List PD) → Bool
  isP : List (List PD) → Prop
  isEv : List (List PD) → Prop
noncomputable def FsHz0 : FsHz where
  lput := putC
  lget := getC
  lcallH := lcallH
  lbackH := lbackH
  lis := isR
  isP := isP
  isEv := isEv
def kn_lput (F : FsHz) : FuncId × (List DV → RV) := (21, fun args => match args with
  | [] => some ([], Cmd.D F.lput)
  | _ => none)
theorem ok_lput (args : List DV) (cs : List Prop) (r : DV) (h : (kn_lput FsHz0).2 args = some (cs, r)) (hc : allP cs True) : FnV Try.prog 21 args r ∧ closedL 0 args = true := by
  unfold kn_lput at h
  simp only at h
  split at h
  · cases h; exact ⟨v_lput, rfl⟩
  · cases h
def kn_lget (F : FsHz) : FuncId × (List DV → RV) := (23, fun args => match args with
  | [] => some ([], Cmd.D F.lget)
  | _ => none)
theorem ok_lget (args : List DV) (cs : List Prop) (r : DV) (h : (kn_lget FsHz0).2 args = some (cs, r)) (hc : allP cs True) : FnV Try.prog 23 args r ∧ closedL 0 args = true := by
  unfold kn_lget at h
  simp only at h
  split at h
  · cases h; exact ⟨v_lget, rfl⟩
  · cases h
def kn_lcallH (F : FsHz) : FuncId × (List DV → RV) := (20, fun args => match args with
  | [.agg [.d (.sc (.int .i64 c_kind)), .d (.sc (.int .i64 c_client)), .d (.sc (.int .i64 c_seq)), .d (.sc (.string c_key)), .d (.sc (.string c_fin)), .d (.sc (.string c_old)), .d (.sc (.string c_val))]] => some ([], HOp.D ((F.lcallH ⟨c_kind, c_client, c_seq, c_key, c_fin, c_old, c_val⟩)))
  | _ => none)
theorem ok_lcallH (args : List DV) (cs : List Prop) (r : DV) (h : (kn_lcallH FsHz0).2 args = some (cs, r)) (hc : allP cs True) : FnV Try.prog 20 args r ∧ closedL 0 args = true := by
  unfold kn_lcallH at h
  simp only at h
  split at h
  · cases h; exact ⟨v_lcallH ⟨_, _, _, _, _, _, _⟩, rfl⟩
  · cases h
def kn_lbackH (F : FsHz) : FuncId × (List DV → RV) := (22, fun args => match args with
  | [.agg [.d (.sc (.int .i64 c_kind)), .d (.sc (.int .i64 c_client)), .d (.sc (.int .i64 c_seq)), .d (.sc (.string c_key)), .d (.sc (.string c_fin)), .d (.sc (.string c_old)), .d (.sc (.string c_val))], .agg [.d (.sc (.int .i64 r_why)), .d (.sc (.bool r_found)), .d (.sc (.string r_value)), .d (.sc (.int .i64 r_version)), .d (.slc 3 r_pairs)]] => some ([], HOp.D ((F.lbackH ⟨c_kind, c_client, c_seq, c_key, c_fin, c_old, c_val⟩ ⟨r_why, r_found, r_value, r_version, r_pairs⟩)))
  | [.agg [.d (.sc (.int .i64 c_kind)), .d (.sc (.int .i64 c_client)), .d (.sc (.int .i64 c_seq)), .d (.sc (.string c_key)), .d (.sc (.string c_fin)), .d (.sc (.string c_old)), .d (.sc (.string c_val))], .agg [.d (.sc (.int .i64 r_why)), .d (.sc (.bool r_found)), .d (.sc (.string r_value)), .d (.sc (.int .i64 r_version)), .d (.sc (.slice none 0 0))]] => some ([], HOp.D ((F.lbackH ⟨c_kind, c_client, c_seq, c_key, c_fin, c_old, c_val⟩ ⟨r_why, r_found, r_value, r_version, []⟩)))
  | _ => none)
theorem ok_lbackH (args : List DV) (cs : List Prop) (r : DV) (h : (kn_lbackH FsHz0).2 args = some (cs, r)) (hc : allP cs True) : FnV Try.prog 22 args r ∧ closedL 0 args = true := by
  unfold kn_lbackH at h
  simp only at h
  split at h
  · cases h; exact ⟨v_lbackH ⟨_, _, _, _, _, _, _⟩ ⟨_, _, _, _, _⟩, rfl⟩
  · cases h; exact ⟨FnP.ups (v_lbackH ⟨_, _, _, _, _, _, _⟩ ⟨_, _, _, _, []⟩) (UpL.agg (UpL.keep (UpL.keep (UpL.keep (UpL.keep (UpL.keep (UpL.keep (UpL.keep UpL.done))))))) (UpL.agg (UpL.keep (UpL.keep (UpL.keep (UpL.keep (UpL.nil UpL.done))))) UpL.done)), rfl⟩
  · cases h
def kn_lis (F : FsHz) : FuncId × (List DV → RV) := (19, fun args => match args with
  | [.d (.sc (.bool w)), .d (.slc 14 xs)] => some ([F.isEv xs], boolD ((F.lis w xs)))
  | [.d (.sc (.bool w)), .d (.sc (.slice none 0 0))] => some ([F.isEv []], boolD ((F.lis w [])))
  | _ => none)
theorem ok_lis (args : List DV) (cs : List Prop) (r : DV) (h : (kn_lis FsHz0).2 args = some (cs, r)) (hc : allP cs True) : FnV Try.prog 19 args r ∧ closedL 0 args = true := by
  unfold kn_lis at h
  simp only at h
  split at h
  · cases h; exact ⟨v_lis _ _ hc.1, rfl⟩
  · cases h; exact ⟨FnP.nils (v_lis _ [] hc.1) ⟨.inl rfl, ⟨.inr ⟨rfl, _, rfl⟩, trivial⟩⟩, rfl⟩
  · cases h
end Go.Proofs.Ytadnpgkddgbhkaa
namespace Go.Proofs.Ytadnpgkddgbhkaa
open Go.RowKit Go.Maps
set_option linter.all false
set_option maxHeartbeats 8000000
theorem isA (l : List Ev) (h1 : l.length ≤ 1000) (h : (l.all fun e => decide (e.a = 1 ∨ e.a = 2) && (decide (e.b = 1 ∨ e.b = 2) && (decide (e.c.client = 1 ∨ e.c.client = 2) && e.r.pairs.isEmpty))) = true) : isEv (evsX l) := by
  refine ⟨l, rfl, by omega, fun e he => ?_⟩
  rw [List.all_eq_true] at h
  have := h e he
  simp only [Bool.and_eq_true, decide_eq_true_eq, List.isEmpty_iff] at this
  refine ⟨by unfold r64; omega, by unfold r64; omega, by unfold r64; omega, ?_⟩
  rw [this.2.2.2]
  exact isP.nil
theorem ie1 : isEv (evsX hA1) := isA _ (by decide) (by rfl)
theorem ie2 : isEv (evsX hA2) := isA _ (by decide) (by rfl)
theorem ie3 : isEv (evsX hA3) := isA _ (by decide) (by rfl)
theorem ie4 : isEv (evsX hA4) := isA _ (by decide) (by rfl)
theorem in1 : isNums (numsX [0, 1]) := ⟨[0, 1], rfl, by decide, fun n hn => by simp at hn; unfold r64; omega⟩
theorem in2 : isNums (numsX [1, 0]) := ⟨[1, 0], rfl, by decide, fun n hn => by simp at hn; unfold r64; omega⟩
theorem isR1 : isR true (evsX hA1) = true := by unfold isR; rw [run1]; rfl
theorem isR2 : isR false (evsX hA2) = true := by unfold isR; rw [run2]; rfl
theorem isR3 : isR true (evsX hA3) = true := by unfold isR; rw [run3]; rfl
theorem isR4 : isR true (evsX hA4) = true := by unfold isR; rw [run4]; rfl
def hrow (x : HOp) : List PD := [.sc (.int .i64 x.a), .sc (.int .i64 x.b), .sc (.int .i64 x.ck), .sc (.int .i64 x.cc), .sc (.int .i64 x.cq), .sc (.string x.ckey), .sc (.string x.cfin), .sc (.string x.cold), .sc (.string x.cval), .sc (.int .i64 x.w), .sc (.bool x.fd), .sc (.string x.vl), .sc (.int .i64 x.vr), .slc 3 x.pr]
def eta (c : Cmd) : Cmd := ⟨c.kind, c.client, c.seq, c.key, c.fin, c.old, c.val⟩
set_option maxRecDepth 100000 in
theorem v_hruns : FnV Try.prog 4 [] (.d (.sc (.bool true))) := by
  obtain ⟨GFsHz, hFsHz⟩ : ∃ F, F = FsHz0 := ⟨_, rfl⟩
  obtain ⟨GFsHf, hFsHf⟩ : ∃ F, F = FsHf0 := ⟨_, rfl⟩
  have hH : SoundK Try.prog [kn_lput GFsHz, kn_lget GFsHz, kn_lcallH GFsHz, kn_lbackH GFsHz, kn_lis GFsHz, kn_fits GFsHf] := by subst hFsHz hFsHf; exact orK_ok ok_lput (orK_ok ok_lget (orK_ok ok_lcallH (orK_ok ok_lbackH (orK_ok ok_lis (orK_ok ok_fits noK_ok)))))
  have hB : SoundB Try.prog [] := by subst hFsHz hFsHf; exact noB_ok
  refine FnD_cbv (T := fun _ => tabY [] [2, 3, 4]) (H := fun _ => [kn_lput GFsHz, kn_lget GFsHz, kn_lcallH GFsHz, kn_lbackH GFsHz, kn_lis GFsHz, kn_fits GFsHf]) (tabY_ok _ _) hH follows_mixed Try.func4 rfl Try.ntmps4 (by simp) fun A X W hA hX hW => ?_
  cbv
  have q000 : A.cond false false false = false := by subst hA; rfl
  have q001 : A.cond false false true = true := by subst hA; rfl
  have q010 : A.cond false true false = false := by subst hA; rfl
  have q011 : A.cond false true true = true := by subst hA; rfl
  have q100 : A.cond true false false = false := by subst hA; rfl
  have q101 : A.cond true false true = false := by subst hA; rfl
  have q110 : A.cond true true false = true := by subst hA; rfl
  have q111 : A.cond true true true = true := by subst hA; rfl
  have f3 : A.not true = false := by subst hA; rfl
  have f4 : A.not false = true := by subst hA; rfl
  cbv at f3 f4 q000 q001 q010 q011 q100 q101 q110 q111
  have c1 : GFsHz.isEv [hrow (GFsHz.lcallH (eta GFsHz.lput)), hrow (GFsHz.lbackH (eta GFsHz.lput) ⟨0, false, none8, 1, []⟩), hrow (GFsHz.lcallH (eta GFsHz.lget)), hrow (GFsHz.lbackH (eta GFsHz.lget) ⟨0, true, oneB2, 1, []⟩)] := by subst hFsHz; exact ie1
  have e1 : GFsHz.lis true [hrow (GFsHz.lcallH (eta GFsHz.lput)), hrow (GFsHz.lbackH (eta GFsHz.lput) ⟨0, false, none8, 1, []⟩), hrow (GFsHz.lcallH (eta GFsHz.lget)), hrow (GFsHz.lbackH (eta GFsHz.lget) ⟨0, true, oneB2, 1, []⟩)] = true := by subst hFsHz; exact isR1
  have c2 : GFsHz.isEv [hrow (GFsHz.lcallH (eta GFsHz.lput)), hrow (GFsHz.lbackH (eta GFsHz.lput) ⟨0, false, none8, 1, []⟩), hrow (GFsHz.lcallH (eta GFsHz.lget)), hrow (GFsHz.lbackH (eta GFsHz.lget) ⟨0, false, none8, 0, []⟩)] := by subst hFsHz; exact ie2
  have e2 : GFsHz.lis false [hrow (GFsHz.lcallH (eta GFsHz.lput)), hrow (GFsHz.lbackH (eta GFsHz.lput) ⟨0, false, none8, 1, []⟩), hrow (GFsHz.lcallH (eta GFsHz.lget)), hrow (GFsHz.lbackH (eta GFsHz.lget) ⟨0, false, none8, 0, []⟩)] = true := by subst hFsHz; exact isR2
  have c3 : GFsHz.isEv [hrow (GFsHz.lcallH (eta GFsHz.lput)), hrow (GFsHz.lcallH (eta GFsHz.lget)), hrow (GFsHz.lbackH (eta GFsHz.lget) ⟨0, false, none8, 0, []⟩)] := by subst hFsHz; exact ie3
  have e3 : GFsHz.lis true [hrow (GFsHz.lcallH (eta GFsHz.lput)), hrow (GFsHz.lcallH (eta GFsHz.lget)), hrow (GFsHz.lbackH (eta GFsHz.lget) ⟨0, false, none8, 0, []⟩)] = true := by subst hFsHz; exact isR3
  have c4 : GFsHz.isEv [hrow (GFsHz.lcallH (eta GFsHz.lput)), hrow (GFsHz.lcallH (eta GFsHz.lget)), hrow (GFsHz.lbackH (eta GFsHz.lget) ⟨0, true, oneB2, 1, []⟩)] := by subst hFsHz; exact ie4
  have e4 : GFsHz.lis true [hrow (GFsHz.lcallH (eta GFsHz.lput)), hrow (GFsHz.lcallH (eta GFsHz.lget)), hrow (GFsHz.lbackH (eta GFsHz.lget) ⟨0, true, oneB2, 1, []⟩)] = true := by subst hFsHz; exact isR4
  have c5 : GFsHf.isEv [hrow (GFsHz.lcallH (eta GFsHz.lput)), hrow (GFsHz.lcallH (eta GFsHz.lget)), hrow (GFsHz.lbackH (eta GFsHz.lget) ⟨0, true, oneB2, 1, []⟩)] := by subst hFsHz hFsHf; exact ie4
  have c6 : GFsHf.isNums [[.sc (.int .i64 0)], [.sc (.int .i64 1)]] := by subst hFsHf; exact in1
  have c7 : GFsHf.isNums [[.sc (.int .i64 1)], [.sc (.int .i64 0)]] := by subst hFsHf; exact in2
  have e5 : GFsHf.fits [hrow (GFsHz.lcallH (eta GFsHz.lput)), hrow (GFsHz.lcallH (eta GFsHz.lget)), hrow (GFsHz.lbackH (eta GFsHz.lget) ⟨0, true, oneB2, 1, []⟩)] [[.sc (.int .i64 0)], [.sc (.int .i64 1)]] = true := by subst hFsHz hFsHf; exact run5
  have e6 : GFsHf.fits [hrow (GFsHz.lcallH (eta GFsHz.lput)), hrow (GFsHz.lcallH (eta GFsHz.lget)), hrow (GFsHz.lbackH (eta GFsHz.lget) ⟨0, true, oneB2, 1, []⟩)] [[.sc (.int .i64 1)], [.sc (.int .i64 0)]] = false := by subst hFsHz hFsHf; exact run6
  have n1 : A.not false = true := by subst hA; rfl
  cbv at c1 c2 c3 c4 c5 c6 c7 e1 e2 e3 e4 e5 e6 n1
  repeat first
    | refine And.intro (by
         subst hA hX hFsHz hFsHf
         clear hH hB
         first
           | exact trivial
           | exact rfl
           | (simp [A0]; done)
           | (intro q; exact q)
           | (intro q; simpa [A0] using q)
           | (intro _; trivial)
           | (show Region.lexB _ _ = true; kernel_rfl)
           | (show turnsB _ = true; kernel_rfl)
           | assumption) ?_
    | (refine pickL hX (t := true) (by rfl) rfl ?_; cbv)
    | (refine pickL hX (t := false) (by rfl) rfl ?_; cbv)
    | ((with_reducible refine callB hX hB ?_); cbv; fail_if_success show False)
  with_reducible refine regionL [1000004, 1000003, 1000002] [] (T := fun _ => tabY [] []) (H := fun _ => [kn_lput GFsHz, kn_lget GFsHz, kn_lcallH GFsHz, kn_lbackH GFsHz, kn_lis GFsHz, kn_fits GFsHf]) (B := fun _ => []) (R := fun _ => []) (A := A) (tabY_ok _ _) hH noB_ok noR_ok follows_mixed hA hX (by kernel_rfl) (by kernel_rfl) (by kernel_rfl) ?_
  cbv
  simp only [c1, e1, true_and]
  cbv
  simp only [c2, e2, true_and]
  cbv
  with_reducible refine regionL [1000004, 1000003, 1000002] [] (T := fun _ => tabY [] []) (H := fun _ => [kn_lput GFsHz, kn_lget GFsHz, kn_lcallH GFsHz, kn_lbackH GFsHz, kn_lis GFsHz, kn_fits GFsHf]) (B := fun _ => []) (R := fun _ => []) (A := A) (tabY_ok _ _) hH noB_ok noR_ok follows_mixed hA hX (by kernel_rfl) (by kernel_rfl) (by kernel_rfl) ?_
  cbv
  simp only [c3, e3, true_and]
  cbv
  simp only [c4, e4, true_and]
  cbv
  with_reducible refine regionL [1000004, 1000003, 1000002] [] (T := fun _ => tabY [] []) (H := fun _ => [kn_lput GFsHz, kn_lget GFsHz, kn_lcallH GFsHz, kn_lbackH GFsHz, kn_lis GFsHz, kn_fits GFsHf]) (B := fun _ => []) (R := fun _ => []) (A := A) (tabY_ok _ _) hH noB_ok noR_ok follows_mixed hA hX (by kernel_rfl) (by kernel_rfl) (by kernel_rfl) ?_
  cbv
  repeat (simp only [c5, c6, e5, c7, e6, n1, true_and, q000, q001, q010, q011, q100, q101, q110, q111, f3, f4]; cbv)
  subst hA hX hW
  exact ret_v rfl rfl
structure FsHr where
  hruns : Bool
end Go.Proofs.Ytadnpgkddgbhkaa
