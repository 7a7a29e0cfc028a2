/- Histories: the law's small functions. No condition. -/
import Derived.Test.YtadnpgkddgbhkaaZX27
namespace Go.Proofs.Ytadnpgkddgbhkaa
open Go.RowKit Go.Maps
set_option linter.all false
set_option maxHeartbeats 8000000
abbrev aB : ByteArray := { data := #[97] }
abbrev oneB2 : ByteArray := { data := #[49] }
def putC : Cmd := ⟨2, 1, 1, aB, none8, none8, oneB2⟩
def getC : Cmd := ⟨1, 2, 1, aB, none8, none8, none8⟩
def evC (c : Cmd) : Ev := ⟨1, c.client, c, zeroRep⟩
def evR (c : Cmd) (r : Reply) : Ev := ⟨2, c.client, c, r⟩
set_option maxRecDepth 100000 in
theorem v_lput  : FnV Try.prog 21 [] (Cmd.D putC) := by
 have hH : SoundK Try.prog [] := by exact noK_ok
 have hB : SoundB Try.prog [] := by exact noB_ok
 refine FnD_cbv (T := fun _ => tabY [] []) (H := fun _ => []) (tabY_ok _ _) hH follows_mixed Try.func21 rfl Try.ntmps21 (by simp) fun A X W hA hX hW => ?_
 cbv
 repeat first
  | refine And.intro (by subst hA hX ; clear hH hB; first | exact trivial | exact rfl | (simp [A0]; done) | (intro q; exact q) | (intro q; simpa [A0] using q) | (intro _; trivial) | (show Region.lexB _ _ = true; kernel_rfl) | (show turnsB _ = true; kernel_rfl) | assumption | (intro _; assumption) | (intro _; rfl)) ?_
  | (refine pickL hX (t := true) (by rfl) rfl ?_; cbv)
  | (refine pickL hX (t := false) (by rfl) rfl ?_; cbv)
  | ((with_reducible refine callB hX hB ?_); cbv; fail_if_success show False)
 subst hA hX hW
 exact ret_v rfl rfl
set_option maxRecDepth 100000 in
theorem v_lget  : FnV Try.prog 23 [] (Cmd.D getC) := by
 have hH : SoundK Try.prog [] := by exact noK_ok
 have hB : SoundB Try.prog [] := by exact noB_ok
 refine FnD_cbv (T := fun _ => tabY [] []) (H := fun _ => []) (tabY_ok _ _) hH follows_mixed Try.func23 rfl Try.ntmps23 (by simp) fun A X W hA hX hW => ?_
 cbv
 repeat first
  | refine And.intro (by subst hA hX ; clear hH hB; first | exact trivial | exact rfl | (simp [A0]; done) | (intro q; exact q) | (intro q; simpa [A0] using q) | (intro _; trivial) | (show Region.lexB _ _ = true; kernel_rfl) | (show turnsB _ = true; kernel_rfl) | assumption | (intro _; assumption) | (intro _; rfl)) ?_
  | (refine pickL hX (t := true) (by rfl) rfl ?_; cbv)
  | (refine pickL hX (t := false) (by rfl) rfl ?_; cbv)
  | ((with_reducible refine callB hX hB ?_); cbv; fail_if_success show False)
 subst hA hX hW
 exact ret_v rfl rfl
set_option maxRecDepth 100000 in
theorem v_lcall (c : Cmd) : FnV Try.prog 20 [Cmd.D c] (.agg (evC c).cells) := by
 have hH : SoundK Try.prog [] := by exact noK_ok
 have hB : SoundB Try.prog [] := by exact noB_ok
 refine FnD_cbv (T := fun _ => tabY [] []) (H := fun _ => []) (tabY_ok _ _) hH follows_mixed Try.func20 rfl Try.ntmps20 (by simp) fun A X W hA hX hW => ?_
 cbv
 repeat first
  | refine And.intro (by subst hA hX ; clear hH hB; first | exact trivial | exact rfl | (simp [A0]; done) | (intro q; exact q) | (intro q; simpa [A0] using q) | (intro _; trivial) | (show Region.lexB _ _ = true; kernel_rfl) | (show turnsB _ = true; kernel_rfl) | assumption | (intro _; assumption) | (intro _; rfl)) ?_
  | (refine pickL hX (t := true) (by rfl) rfl ?_; cbv)
  | (refine pickL hX (t := false) (by rfl) rfl ?_; cbv)
  | ((with_reducible refine callB hX hB ?_); cbv; fail_if_success show False)
 subst hA hX hW
 exact ret_up ⟨_, rfl, _, _, rfl, .inl rfl, _, _, rfl, .inl rfl, _, _, rfl, .inl rfl, _, _, rfl, .inl rfl, _, _, rfl, .inl rfl, _, _, rfl, .inl rfl, _, _, rfl, .inl rfl, _, _, rfl, .inl rfl, _, _, rfl, .inl rfl, _, _, rfl, .inl rfl, _, _, rfl, .inl rfl, _, _, rfl, .inl rfl, _, _, rfl, .inl rfl, _, _, rfl, .inr ⟨rfl, 3, rfl⟩, rfl⟩ rfl
set_option maxRecDepth 100000 in
theorem v_lback (c : Cmd) (r : Reply) : FnV Try.prog 22 [Cmd.D c, Reply.D r] (.agg (evR c r).cells) := by
 have hH : SoundK Try.prog [] := by exact noK_ok
 have hB : SoundB Try.prog [] := by exact noB_ok
 refine FnD_cbv (T := fun _ => tabY [] []) (H := fun _ => []) (tabY_ok _ _) hH follows_mixed Try.func22 rfl Try.ntmps22 (by simp) fun A X W hA hX hW => ?_
 cbv
 repeat first
  | refine And.intro (by subst hA hX ; clear hH hB; first | exact trivial | exact rfl | (simp [A0]; done) | (intro q; exact q) | (intro q; simpa [A0] using q) | (intro _; trivial) | (show Region.lexB _ _ = true; kernel_rfl) | (show turnsB _ = true; kernel_rfl) | assumption | (intro _; assumption) | (intro _; rfl)) ?_
  | (refine pickL hX (t := true) (by rfl) rfl ?_; cbv)
  | (refine pickL hX (t := false) (by rfl) rfl ?_; cbv)
  | ((with_reducible refine callB hX hB ?_); cbv; fail_if_success show False)
 subst hA hX hW
 exact ret_v rfl rfl
noncomputable def isR (want : Bool) (xs : List (List PD)) : Bool := decide ((linR xs).1 = want) && (linR xs).2
set_option maxRecDepth 100000 in
theorem v_lis (want : Bool) (xs : List (List PD)) (hev : isEv xs) : FnV Try.prog 19 [.d (.sc (.bool want)), .d (.slc 14 xs)] (.d (.sc (.bool (isR want xs)))) := by
 obtain ⟨GFsHl, hFsHl⟩ : ∃ F, F = FsHl0 := ⟨_, rfl⟩
 have hH : SoundK Try.prog [kn_linear GFsHl] := by subst hFsHl; exact orK_ok ok_linear noK_ok
 have hB : SoundB Try.prog [] := by subst hFsHl; exact noB_ok
 refine FnD_cbv (T := fun _ => tabY [] []) (H := fun _ => [kn_linear GFsHl]) (tabY_ok _ _) hH follows_mixed Try.func19 rfl Try.ntmps19 (by simp) fun A X W hA hX hW => ?_
 cbv
 have hop : GFsHl.linear xs = linR xs := by subst hFsHl; rfl
 have hE : GFsHl.isEv xs := by subst hFsHl; exact hev
 obtain ⟨a, b, hab⟩ : ∃ a b, linR xs = (a, b) := ⟨_, _, rfl⟩
 rw [hab] at hop
 obtain ⟨eb, t2⟩ : ∃ t, A.beq a want = t := ⟨_, rfl⟩
 have heb : eb = decide (a = want) := by rw [← t2]; subst hA; rfl
 have hr : isR want xs = (eb && b) := by unfold isR; rw [hab, heb]
 cbv at hop hE t2
 repeat first
  | (simp only [hop, t2]; cbv)
  | refine And.intro (by subst hA hX hFsHl; clear hH hB; first | exact trivial | exact rfl | (simp [A0]; done) | (intro q; exact q) | (intro q; simpa [A0] using q) | (intro _; trivial) | (show Region.lexB _ _ = true; kernel_rfl) | (show turnsB _ = true; kernel_rfl) | assumption | (intro _; assumption) | (intro _; rfl)) ?_
  | (refine pickL hX (t := true) (by rfl) rfl ?_; cbv)
  | (refine pickL hX (t := false) (by rfl) rfl ?_; cbv)
  | ((with_reducible refine callB hX hB ?_); cbv; fail_if_success show False)
 cases eb
 all_goals cbv
 all_goals
  repeat first
   | (simp only [hop, t2]; cbv)
   | refine And.intro (by subst hA hX hFsHl; clear hH hB; first | exact trivial | exact rfl | (simp [A0]; done) | (intro q; exact q) | (intro q; simpa [A0] using q) | (intro _; trivial) | (show Region.lexB _ _ = true; kernel_rfl) | (show turnsB _ = true; kernel_rfl) | assumption | (intro _; assumption) | (intro _; rfl)) ?_
   | (refine pickL hX (t := true) (by rfl) rfl ?_; cbv)
   | (refine pickL hX (t := false) (by rfl) rfl ?_; cbv)
   | ((with_reducible refine callB hX hB ?_); cbv; fail_if_success show False)
 all_goals subst hA hX hW
 all_goals rw [hr]
 all_goals exact ret_v (by cases b <;> rfl) rfl
def hA1 : List Ev := [evC putC, evR putC ⟨0, false, none8, 1, []⟩, evC getC, evR getC ⟨0, true, oneB2, 1, []⟩]
def hA2 : List Ev := [evC putC, evR putC ⟨0, false, none8, 1, []⟩, evC getC, evR getC zeroRep]
def hA3 : List Ev := [evC putC, evC getC, evR getC zeroRep]
def hA4 : List Ev := [evC putC, evC getC, evR getC ⟨0, true, oneB2, 1, []⟩]
end Go.Proofs.Ytadnpgkddgbhkaa
namespace Go.Proofs.Ytadnpgkddgbhkaa
open Go.RowKit Go.Maps
set_option linter.all false
noncomputable def linB (L : List Ev) : Nat → Int → List DV → Bool
 | 0, d, s => !leftF d L 0
 | n + 1, d, s => !leftF d L 0 || (List.range L.length).any fun i => mayL L i d && (fitR s (L.getD i default) && linB L n (orX d i) (applyS s (L.getD i default).c).1)
theorem linB_sound {L : List Ev} : ∀ (n : Nat) (d : Int) (s : List DV), linB L n d s = true → Lin L d s
 | 0, d, s, h => .done (by simpa [linB] using h)
 | n + 1, d, s, h => by
     rw [linB, Bool.or_eq_true] at h
     rcases h with h | h
     · exact .done (by simpa using h)
     · rw [List.any_eq_true] at h
       obtain ⟨i, hi, h⟩ := h
       simp only [Bool.and_eq_true] at h
       have hi2 := List.mem_range.1 hi
       exact .step (k := (i : Int)) (by omega) (by omega) h.1 h.2.1 (linB_sound n _ _ h.2.2)
theorem Lin.linB {L : List Ev} {d : Int} {s : List DV} (hL : L.length ≤ 12) (h : Lin L d s) : ∀ n0 : Nat, d = (n0 : Int) → n0 < 4096 → ∀ N, remN n0 ≤ N → linB L N d s = true := by
 induction h with
 | done h =>
   intro n0 _ _ N _
   cases N <;> simp [Go.Proofs.Ytadnpgkddgbhkaa.linB, h]
 | @step d s k k0 k1 hm hf _ ih =>
   intro n0 hd hn N hN
   have hb : n0.testBit k.toNat = false := by
    unfold mayL at hm
    rw [hd, bit_nat hn k0 (by omega)] at hm
    cases hb : n0.testBit k.toNat with
    | false => rfl
    | true => rw [hb] at hm; simp at hm
   have hlt := remN_or (n := n0) (k := k.toNat) (by omega) hb
   have ho := or_nat hn k0 (by omega : k < 12)
   obtain ⟨M, rfl⟩ : ∃ M, N = M + 1 := ⟨N - 1, by omega⟩
   have h2 := ih (n0 ||| 2 ^ k.toNat) (by rw [← ho, ← hd]) (or_lt hn (by omega)) M (by omega)
   rw [Go.Proofs.Ytadnpgkddgbhkaa.linB, Bool.or_eq_true, List.any_eq_true]
   have ek : ((k.toNat : Nat) : Int) = k := by omega
   refine .inr ⟨k.toNat, List.mem_range.2 (by omega), ?_⟩
   rw [ek, hm, hf, h2]
   rfl
theorem lin_iff {L : List Ev} {s : List DV} (hL : L.length ≤ 12) : Lin L 0 s ↔ linB L 12 0 s = true := ⟨fun h => h.linB hL 0 rfl (by decide) 12 (by decide), linB_sound 12 0 s⟩
def repC (a b : Reply) : Bool := decide (a.why = b.why) && (decide (a.found = b.found) && (decide (a.value = b.value) && (decide (a.version = b.version) && decide (pairsOf a.pairs = pairsOf b.pairs))))
theorem rep_c {a b : Reply} (ha : isP a.pairs) (hb : isP b.pairs) : repliesX a b = repC a b := by
 obtain ⟨ps, hps, _⟩ := ha
 obtain ⟨qs, hqs, _⟩ := hb
 obtain ⟨w, f, v, r, xs⟩ := a
 obtain ⟨w2, f2, v2, r2, ys⟩ := b
 replace hps : xs = pairsX ps := hps
 replace hqs : ys = pairsX qs := hqs
 subst hps hqs
 rw [Bool.eq_iff_iff, repliesX_iff]
 simp only [repC, Bool.and_eq_true, decide_eq_true_eq, pairsOf_X, Reply.mk.injEq, pairsX_inj]
noncomputable def linC (L : List Ev) : Nat → Int → List DV → Bool
 | 0, d, s => !leftF d L 0
 | n + 1, d, s => !leftF d L 0 || (List.range L.length).any fun i => mayL L i d && ((decide ((L.getD i default).b < 0) || repC (applyS s (L.getD i default).c).2 (L.getD i default).r) && linC L n (orX d i) (applyS s (L.getD i default).c).1)
theorem linB_C {L : List Ev} (hev : ∀ e ∈ L, isP e.r.pairs) : ∀ (n : Nat) (d : Int) (s : List DV) (j : Int), stOk j s → 0 ≤ j → j + n ≤ 1000 → linB L n d s = linC L n d s
 | 0, d, s, j, _, _, _ => rfl
 | n + 1, d, s, j, hs, h0, h1 => by
     rw [linB, linC]
     congr 1
     rw [Bool.eq_iff_iff, List.any_eq_true, List.any_eq_true]
     have key : ∀ i ∈ List.range L.length, (mayL L i d && (fitR s (L.getD i default) && linB L n (orX d i) (applyS s (L.getD i default).c).1)) = (mayL L i d && ((decide ((L.getD i default).b < 0) || repC (applyS s (L.getD i default).c).2 (L.getD i default).r) && linC L n (orX d i) (applyS s (L.getD i default).c).1)) := by
      intro i hi
      have hi2 := List.mem_range.1 hi
      have hm : L.getD i default ∈ L := by rw [List.getD_eq_getElem?_getD, List.getElem?_eq_getElem hi2]; exact List.getElem_mem _
      rw [linB_C hev n _ _ (j + 1) (hs.app h0 (by omega) _) (by omega) (by omega)]
      unfold fitR
      rw [rep_c (hs.rep h0 (by omega) _) (hev _ hm)]
     constructor
     · rintro ⟨i, hi, h⟩
       exact ⟨i, hi, (key i hi) ▸ h⟩
     · rintro ⟨i, hi, h⟩
       exact ⟨i, hi, (key i hi) ▸ h⟩
noncomputable def zSt : List DV := cellsS [] (List.replicate 8 ⟨0, zeroRep⟩)
theorem zSt_ok : stOk 0 zSt := ⟨[], _, rfl, zero_st⟩
theorem lin_run {l o : List Ev} {b : Bool} (ho : opsM l = some o) (hl : o.length ≤ 12) (hev : ∀ e ∈ o, isP e.r.pairs) (hb : linC o 12 0 zSt = b) : linR (evsX l) = (b, true) := by
 unfold linR linM
 rw [evsOf_X, ho]
 have h2 : ¬ 12 < o.length := by omega
 simp only [h2, if_false]
 congr 1
 refine cdec _ _ ?_
 rw [show cellsS [] (List.replicate 8 ⟨0, zeroRep⟩) = zSt from rfl, lin_iff hl, linB_C hev 12 0 zSt 0 zSt_ok (Int.le_refl 0) (by decide), hb]
noncomputable def ranC (o : List Ev) : List Int → Int → List Int → List DV → Option (List Int)
 | [], _, at_, _ => some at_
 | k :: r, i, at_, s => bif (decide (k < 0) || decide ((o.length : Int) ≤ k) || decide (at_.getD k.toNat 0 > 0)) then none
   else bif decide (0 ≤ (o.getD k.toNat default).b) && !repC (applyS s (o.getD k.toNat default).c).2 (o.getD k.toNat default).r then none
   else ranC o r (i + 1) (at_.set k.toNat (i + 1)) (applyS s (o.getD k.toNat default).c).1
theorem ranF_C {o : List Ev} (hev : ∀ e ∈ o, isP e.r.pairs) : ∀ (r : List Int) (i : Int) (at_ : List Int) (s : List DV) (j : Int), stOk j s → 0 ≤ j → j + r.length ≤ 1152921504606846976 → ranF o r i at_ s = ranC o r i at_ s
 | [], _, _, _, _, _, _, _ => rfl
 | k :: r, i, at_, s, j, hs, h0, h1 => by
     rw [List.length_cons] at h1
     rw [ranF, ranC]
     cases hb : (decide (k < 0) || decide ((o.length : Int) ≤ k) || decide (at_.getD k.toNat 0 > 0)) with
     | true => rfl
     | false =>
       simp only [Bool.or_eq_false_iff, decide_eq_false_iff_not] at hb
       have hm : o.getD k.toNat default ∈ o := by rw [List.getD_eq_getElem?_getD, List.getElem?_eq_getElem (by omega)]; exact List.getElem_mem _
       rw [cond_false, cond_false, rep_c (hs.rep h0 (by omega) _) (hev _ hm), ranF_C hev r (i + 1) _ _ (j + 1) (hs.app h0 (by omega) _) (by omega) (by omega)]
theorem fits_run {l o : List Ev} {r : List Int} {b : Bool} (ho : opsM l = some o) (hev : ∀ e ∈ o, isP e.r.pairs) (hr : r.length ≤ 1000) (hb : (match ranC o r 0 (List.replicate o.length 0) zSt with | none => false | some at_ => chkF o at_ o 0) = b) : fitsR (evsX l) (numsX r) = b := by
 unfold fitsR fitsM
 rw [evsOf_X, numsOf_X, ho]
 simp only []
 rw [show cellsS [] (List.replicate 8 ⟨0, zeroRep⟩) = zSt from rfl, ranF_C hev r 0 _ zSt 0 zSt_ok (Int.le_refl 0) (by omega)]
 exact hb
theorem noP {o : List Ev} (h : (o.all fun e => e.r.pairs.isEmpty) = true) : ∀ e ∈ o, isP e.r.pairs := fun e he => by
 rw [List.all_eq_true] at h
 rw [List.isEmpty_iff.1 (h e he)]
 exact isP.nil
def oA (l : List Ev) : List Ev := (opsM l).getD []
theorem run1 : linR (evsX hA1) = (true, true) := lin_run (o := oA hA1) (by rfl) (by decide) (noP (by kernel_rfl)) (by kernel_rfl)
theorem run2 : linR (evsX hA2) = (false, true) := lin_run (o := oA hA2) (by rfl) (by decide) (noP (by kernel_rfl)) (by kernel_rfl)
theorem run3 : linR (evsX hA3) = (true, true) := lin_run (o := oA hA3) (by rfl) (by decide) (noP (by kernel_rfl)) (by kernel_rfl)
theorem run4 : linR (evsX hA4) = (true, true) := lin_run (o := oA hA4) (by rfl) (by decide) (noP (by kernel_rfl)) (by kernel_rfl)
theorem run5 : fitsR (evsX hA4) (numsX [0, 1]) = true := fits_run (o := oA hA4) (by rfl) (noP (by kernel_rfl)) (by decide) (by kernel_rfl)
theorem run6 : fitsR (evsX hA4) (numsX [1, 0]) = false := fits_run (o := oA hA4) (by rfl) (noP (by kernel_rfl)) (by decide) (by kernel_rfl)
end Go.Proofs.Ytadnpgkddgbhkaa
namespace Go.Proofs.Ytadnpgkddgbhkaa
open Go.RowKit Go.Maps
set_option linter.all false
set_option maxHeartbeats 4000000
theorem opsF_lt : ∀ (l : List Ev) (i : Int) (out o : List Ev), OpsOk i out → 0 ≤ i → (∀ e ∈ l, isP e.r.pairs) → (∀ e ∈ out, e.b < 0 ∨ e.a < e.b) → opsF l i out = some o → ∀ e ∈ o, e.b < 0 ∨ e.a < e.b
 | [], i, out, o, _, _, _, h, hs => by
     simp only [opsF, Option.some.injEq] at hs
     subst hs
     exact h
 | x :: l, i, out, o, hok, h0, hp, h, hs => by
     rw [opsF] at hs
     cases h1 : evStep i out x with
     | none => rw [h1] at hs; cases hs
     | some o1 =>
       rw [h1] at hs
       refine opsF_lt l (i + 1) o1 o (hok.step h0 (hp x (by simp)) h1) (by omega) (fun y hy => hp y (by simp [hy])) (fun e he => ?_) hs
       rcases evStep_cases h1 with ⟨_, _, _, _, _, rfl⟩ | ⟨_, _, y, h3, _, _, rfl⟩
       · rcases List.mem_append.1 he with he | he
         · exact h e he
         · rw [List.mem_singleton] at he
           subst he
           exact .inl (by show (-1 : Int) < 0; omega)
       · rcases List.mem_or_eq_of_mem_set he with he | rfl
         · exact h e he
         · have := hok.ev y (List.mem_of_getElem? h3)
           exact .inr (by show y.a < i; omega)
theorem opsM_lt {l o : List Ev} (hp : ∀ e ∈ l, isP e.r.pairs) (h : opsM l = some o) : ∀ e ∈ o, e.b < 0 ∨ e.a < e.b := opsF_lt l 0 [] o OpsOk.nil (Int.le_refl 0) hp (fun e he => by cases he) h
theorem getDs {l : List Int} {j k : Nat} {v : Int} (h : k < l.length) : (l.set k v).getD j 0 = if j = k then v else l.getD j 0 := by
 simp only [List.getD_eq_getElem?_getD, List.getElem?_set]
 by_cases hj : k = j
 · subst hj; simp [h]
 · rw [if_neg hj, if_neg (fun e => hj e.symm)]
theorem ran_spec {o : List Ev} : ∀ (r : List Int) (i : Int) (at_ aF : List Int) (s : List DV), at_.length = o.length → 0 ≤ i → (∀ j, 0 ≤ at_.getD j 0) → ranF o r i at_ s = some aF → aF.length = o.length ∧ (∀ j, 0 < at_.getD j 0 → aF.getD j 0 = at_.getD j 0) ∧ (∀ j, at_.getD j 0 = 0 → aF.getD j 0 = 0 ∨ i < aF.getD j 0)
 | [], i, at_, aF, s, hl, _, _, h => by
     simp only [ranF, Option.some.injEq] at h
     subst h
     exact ⟨hl, fun _ _ => rfl, fun _ h => .inl h⟩
 | k :: r, i, at_, aF, s, hl, hi, hn, h => by
     rw [ranF] at h
     cases hb : (decide (k < 0) || decide ((o.length : Int) ≤ k) || decide (at_.getD k.toNat 0 > 0)) with
     | true => rw [hb] at h; cases h
     | false =>
       rw [hb, cond_false] at h
       simp only [Bool.or_eq_false_iff, decide_eq_false_iff_not] at hb
       cases hc : (decide (0 ≤ (o.getD k.toNat default).b) && !repliesX (applyS s (o.getD k.toNat default).c).2 (o.getD k.toNat default).r) with
       | true => rw [hc] at h; cases h
       | false =>
         rw [hc, cond_false] at h
         have hk : k.toNat < at_.length := by omega
         have hg := fun j => getDs (l := at_) (j := j) (v := i + 1) hk
         obtain ⟨h1, h2, h3⟩ := ran_spec r (i + 1) (at_.set k.toNat (i + 1)) aF _ (by rw [List.length_set]; exact hl) (by omega) (fun j => by rw [hg]; split; exact (by omega); exact hn j) h
         refine ⟨h1, fun j hj => ?_, fun j hj => ?_⟩
         · have hne : j ≠ k.toNat := by rintro rfl; exact hb.2 hj
           have e := hg j
           rw [if_neg hne] at e
           rw [h2 j (by rw [e]; exact hj), e]
         · have e := hg j
           by_cases hne : j = k.toNat
           · rw [if_pos hne] at e
             have := h2 j (by rw [e]; omega)
             rw [this, e]
             exact .inr (by omega)
           · rw [if_neg hne] at e
             rcases h3 j (by rw [e]; exact hj) with h4 | h4
             · exact .inl h4
             · exact .inr (by omega)
theorem chk1_iff {o : List Ev} {at_ : List Int} {ak : Int} {e : Ev} : ∀ (l : List Ev) (m : Nat), chk1 o at_ ak e l m = true ↔ ∀ (j : Nat) (b : Ev), l[j]? = some b → clB ak e b (at_.getD (m + j) 0) = false
 | [], m => by simp [chk1]
 | x :: l, m => by
     have ih := chk1_iff (o := o) (at_ := at_) (ak := ak) (e := e) l (m + 1)
     rw [chk1, Bool.and_eq_true, show ((m : Int) + 1) = ((m + 1 : Nat) : Int) by omega, ih, Int.toNat_natCast, Bool.not_eq_true']
     constructor
     · rintro ⟨h1, h2⟩ j b hj
       cases j with
       | zero => simp at hj; subst hj; exact h1
       | succ j => rw [show m + (j + 1) = m + 1 + j by omega]; exact h2 j b (by simpa using hj)
     · intro h
       refine ⟨h 0 x rfl, fun j b hj => ?_⟩
       rw [show m + 1 + j = m + (j + 1) by omega]
       exact h (j + 1) b (by simpa using hj)
theorem chkF_iff {o : List Ev} {at_ : List Int} : ∀ (l : List Ev) (m : Nat), chkF o at_ l m = true ↔ ∀ (j : Nat) (e : Ev), l[j]? = some e → ¬ (0 ≤ e.b ∧ at_.getD (m + j) 0 = 0) ∧ ∀ (q : Nat) (b : Ev), o[q]? = some b → clB (at_.getD (m + j) 0) e b (at_.getD q 0) = false
 | [], m => by simp [chkF]
 | x :: l, m => by
     have ih := chkF_iff (o := o) (at_ := at_) l (m + 1)
     have h1 : chk1 o at_ (at_.getD m 0) x o 0 = true ↔ ∀ (j : Nat) (b : Ev), o[j]? = some b → clB (at_.getD m 0) x b (at_.getD (0 + j) 0) = false := chk1_iff (o := o) (at_ := at_) (ak := at_.getD m 0) (e := x) o 0
     rw [chkF, Bool.and_eq_true, Bool.and_eq_true, show ((m : Int) + 1) = ((m + 1 : Nat) : Int) by omega, ih, Int.toNat_natCast, h1]
     simp only [Nat.zero_add]
     constructor
     · rintro ⟨a1, a2, a3⟩ j b hj
       cases j with
       | zero =>
         simp only [List.getElem?_cons_zero, Option.some.injEq] at hj
         subst hj
         refine ⟨fun hh => ?_, a2⟩
         simp [hh] at a1
         exact absurd hh.2 a1
       | succ j => rw [show m + (j + 1) = m + 1 + j by omega]; exact a3 j b (by simpa using hj)
     · intro h
       refine ⟨?_, (h 0 x rfl).2, fun j b hj => ?_⟩
       · have := (h 0 x rfl).1
         rw [Bool.not_eq_true', ← Bool.not_eq_true, Bool.and_eq_true, decide_eq_true_eq, decide_eq_true_eq]
         exact this
       · rw [show m + 1 + j = m + (j + 1) by omega]
         exact h (j + 1) b (by simpa using hj)
theorem clB_false {ak am : Int} {e b : Ev} : clB ak e b am = false ↔ ¬ (0 < ak ∧ 0 ≤ b.b ∧ b.b < e.a ∧ ak < am) := by
 rw [← Bool.not_eq_true]
 unfold clB
 simp only [Bool.and_eq_true, decide_eq_true_eq, gt_iff_lt, and_assoc]
theorem leftF_false {d : Int} : ∀ (l : List Ev) (k : Nat), (∀ (j : Nat) (e : Ev), l[j]? = some e → 0 ≤ e.b → bitX d ((k + j : Nat) : Int) ≠ 0) → leftF d l k = false
 | [], _, _ => rfl
 | x :: l, k, h => by
     have ih := leftF_false (d := d) l (k + 1) (fun j e hj hb => by
      have := h (j + 1) e (by simpa using hj) hb
      rwa [show k + 1 + j = k + (j + 1) by omega])
     rw [leftF, show ((k : Int) + 1) = ((k + 1 : Nat) : Int) by omega, ih, Bool.or_false, ← Bool.not_eq_true, Bool.and_eq_true, decide_eq_true_eq, decide_eq_true_eq]
     rintro ⟨h1, h2⟩
     exact h 0 x rfl h1 (by simpa using h2)
theorem mayF_true {e : Ev} {d : Int} : ∀ (l : List Ev) (k : Nat), (∀ (j : Nat) (b : Ev), l[j]? = some b → bitX d ((k + j : Nat) : Int) = 0 → ¬ (0 ≤ b.b ∧ b.b < e.a)) → mayF e d l k = true
 | [], _, _ => rfl
 | x :: l, k, h => by
     have ih := mayF_true (e := e) (d := d) l (k + 1) (fun j b hj hb => by
      refine h (j + 1) b (by simpa using hj) ?_
      rwa [show k + (j + 1) = k + 1 + j by omega])
     rw [mayF, show ((k : Int) + 1) = ((k + 1 : Nat) : Int) by omega, ih, if_neg]
     rw [Bool.and_eq_true, decide_eq_true_eq]
     rintro ⟨h1, h2⟩
     refine h 0 x rfl (by simpa using h1) ?_
     unfold aheadE at h2
     cases hb : decide (0 ≤ x.b) with
     | false => rw [hb] at h2; cases h2
     | true =>
       rw [hb, cond_true, decide_eq_true_eq] at h2
       exact ⟨of_decide_eq_true hb, h2⟩
theorem lin_of_ran {o : List Ev} (hL : o.length ≤ 12) (hlt : ∀ e ∈ o, e.b < 0 ∨ e.a < e.b) {aF : List Int} (hck : chkF o aF o 0 = true) : ∀ (r : List Int) (i : Int) (at_ : List Int) (s : List DV) (n : Nat), n < 4096 → (∀ j, j < 12 → (n.testBit j = true ↔ 0 < at_.getD j 0)) → (∀ j, 0 ≤ at_.getD j 0) → 0 ≤ i → at_.length = o.length → ranF o r i at_ s = some aF → Lin o (n : Int) s
 | [], i, at_, s, n, hn, hb, hp, hi, hl, h => by
     simp only [ranF, Option.some.injEq] at h
     subst h
     refine .done (leftF_false o 0 fun j e hj he => ?_)
     have hj2 := (List.getElem?_eq_some_iff.1 hj).1
     have h1 := ((chkF_iff o 0).1 hck j e hj).1
     rw [Nat.zero_add] at h1 ⊢
     have h2 : 0 < at_.getD j 0 := by
      have := hp j
      rcases Int.lt_or_eq_of_le this with h3 | h3
      · exact h3
      · exact absurd ⟨he, h3.symm⟩ h1
     rw [bit_nat hn (by omega) (by omega), Int.toNat_natCast, (hb j (by omega)).2 h2]
     decide
 | k :: r, i, at_, s, n, hn, hb, hp, hi, hl, h => by
     have h0 := h
     rw [ranF] at h
     cases hbb : (decide (k < 0) || decide ((o.length : Int) ≤ k) || decide (at_.getD k.toNat 0 > 0)) with
     | true => rw [hbb] at h; cases h
     | false =>
       rw [hbb, cond_false] at h
       simp only [Bool.or_eq_false_iff, decide_eq_false_iff_not] at hbb
       cases hc : (decide (0 ≤ (o.getD k.toNat default).b) && !repliesX (applyS s (o.getD k.toNat default).c).2 (o.getD k.toNat default).r) with
       | true => rw [hc] at h; cases h
       | false =>
         rw [hc, cond_false] at h
         have hk : k.toNat < at_.length := by omega
         have hko : k.toNat < o.length := by omega
         have hg := fun j => getDs (l := at_) (j := j) (v := i + 1) hk
         obtain ⟨e, he⟩ : ∃ e, o[k.toNat]? = some e := ⟨_, List.getElem?_eq_getElem hko⟩
         have hed : o.getD k.toNat default = e := by rw [List.getD_eq_getElem?_getD, he]; rfl
         have hpn : ∀ j, 0 ≤ (at_.set k.toNat (i + 1)).getD j 0 := fun j => by rw [hg]; split; exact (by omega); exact hp j
         obtain ⟨_, g2, g3⟩ := ran_spec r (i + 1) _ aF _ (by rw [List.length_set]; exact hl) (by omega) hpn h
         have hfk : aF.getD k.toNat 0 = i + 1 := by
          have e1 := hg k.toNat
          rw [if_pos rfl] at e1
          rw [g2 _ (by rw [e1]; omega), e1]
         have hbk : n.testBit k.toNat = false := by
          rw [← Bool.not_eq_true, hb _ (by omega)]
          exact hbb.2
         obtain ⟨hc1, hc2⟩ := (chkF_iff o 0).1 hck k.toNat e he
         rw [Nat.zero_add, hfk] at hc2
         have hmay : mayL o k n = true := by
          unfold mayL
          rw [bit_nat hn (by omega) (by omega), hbk, if_neg (by decide), hed]
          refine mayF_true o 0 fun j b hj h5 => ?_
          have hj2 := (List.getElem?_eq_some_iff.1 hj).1
          rw [Nat.zero_add, bit_nat hn (by omega) (by omega), Int.toNat_natCast] at h5
          have h6 : n.testBit j = false := by
           cases hx : n.testBit j with
           | false => rfl
           | true => rw [hx] at h5; simp at h5
          rintro ⟨h7, h8⟩
          have hjk : j ≠ k.toNat := by
           rintro rfl
           rw [he, Option.some.injEq] at hj
           subst hj
           rcases hlt e (List.mem_of_getElem? he) with h9 | h9 <;> omega
          have hz : at_.getD j 0 = 0 := by
           have := hp j
           have h10 : ¬ 0 < at_.getD j 0 := fun q => by rw [(hb j (by omega)).2 q] at h6; cases h6
           omega
          have hz2 := hg j
          rw [if_neg hjk, hz] at hz2
          have h11 := ((chkF_iff o 0).1 hck j b hj).1
          rw [Nat.zero_add] at h11
          have h12 := clB_false.1 (hc2 j b hj)
          rcases g3 j hz2 with h13 | h13
          · exact h11 ⟨h7, h13⟩
          · exact h12 ⟨by omega, h7, h8, by omega⟩
         have hfit : fitR s (o.getD k.toNat default) = true := by
          unfold fitR
          rw [Bool.and_eq_false_iff] at hc
          rcases hc with hc | hc
          · have := of_decide_eq_false hc
            rw [decide_eq_true (by omega)]
            rfl
          · rw [Bool.not_eq_false'] at hc
            rw [hc, Bool.or_true]
         refine .step (k := k) (by omega) (by omega) hmay hfit ?_
         rw [or_nat hn (by omega) (by omega)]
         refine lin_of_ran hL hlt hck r (i + 1) _ _ _ (or_lt hn (by omega)) (fun j hj => ?_) hpn (by omega) (by rw [List.length_set]; exact hl) h
         rw [Nat.testBit_or, Nat.testBit_two_pow, Bool.or_eq_true, decide_eq_true_eq, hb j hj, hg j]
         by_cases hjk : j = k.toNat
         · rw [if_pos hjk]
           exact ⟨fun _ => by omega, fun _ => .inr hjk.symm⟩
         · rw [if_neg hjk]
           exact ⟨fun hh => hh.resolve_right (fun q => hjk q.symm), .inl⟩
theorem zeros_getD (n j : Nat) : (List.replicate n (0 : Int)).getD j 0 = 0 := by
 rw [List.getD_eq_getElem?_getD, List.getElem?_replicate]
 split <;> rfl
theorem lin_of_fits {l o : List Ev} {r : List Int} (hp : ∀ e ∈ l, isP e.r.pairs) (ho : opsM l = some o) (hL : o.length ≤ 12) (hf : fitsM l r = true) : Lin o 0 zSt := by
 unfold fitsM at hf
 rw [ho] at hf
 simp only [] at hf
 cases hr : ranF o r 0 (List.replicate o.length 0) (cellsS [] (List.replicate 8 ⟨0, zeroRep⟩)) with
 | none => rw [hr] at hf; cases hf
 | some aF =>
   rw [hr] at hf
   exact lin_of_ran hL (opsM_lt hp ho) hf r 0 _ _ 0 (by decide) (fun j _ => by rw [zeros_getD]; simp) (fun j => by rw [zeros_getD]; exact Int.le_refl 0) (Int.le_refl 0) (by simp) hr
theorem linM_of {l o : List Ev} (ho : opsM l = some o) (hL : o.length ≤ 12) (h : Lin o 0 zSt) : linM l = (true, true) := by
 unfold linM
 rw [ho]
 have h2 : ¬ 12 < o.length := by omega
 simp only [h2, if_false]
 congr 1
 exact cdec _ _ ⟨fun _ => h, fun _ => rfl⟩
end Go.Proofs.Ytadnpgkddgbhkaa
namespace Go.Proofs.Ytadnpgkddgbhkaa
open Go.RowKit Go.Maps
set_option linter.all false
set_option maxHeartbeats 4000000
structure MOp where
 cl : Int
 wait : Int
 c : Cmd
 ret : Bool
 lie : Bool
structure MSt where
 s : List DV
 n : Int
 opn : List Int
 seq : List Int
 cmds : List Cmd
 told : List Reply
 out : List Ev
 ord : List Int
def mK (x : MOp) : Nat := (x.cl % 8).toNat
theorem mK_lt (x : MOp) : mK x < 8 := by unfold mK; omega
def mCmd (st : MSt) (x : MOp) : Cmd := ⟨x.c.kind, (mK x : Int) + 1, st.seq.getD (mK x) 0 + 1, x.c.key, x.c.fin, x.c.old, x.c.val⟩
def lieV (x : MOp) (v : Int) : Int := bif x.lie then IntKind.wrap .i64 (IntKind.wrap .i64 (v + 1) + bitsV IntKind.i64 (· &&& ·) x.wait 1) else v
def mRep (st : MSt) (x : MOp) : Reply := ⟨(st.told.getD (mK x) zeroRep).why, (st.told.getD (mK x) zeroRep).found, (st.told.getD (mK x) zeroRep).value, lieV x (st.told.getD (mK x) zeroRep).version, (st.told.getD (mK x) zeroRep).pairs⟩
noncomputable def mCall (st : MSt) (x : MOp) : MSt := { st with n := st.n + 1, opn := st.opn.set (mK x) (st.n + 1), seq := st.seq.set (mK x) (st.seq.getD (mK x) 0 + 1), cmds := st.cmds.set (mK x) (mCmd st x), out := st.out ++ [evC (mCmd st x)] }
noncomputable def mDo (st : MSt) (x : MOp) : MSt := { st with s := (applyS st.s (st.cmds.getD (mK x) .zero)).1, told := st.told.set (mK x) (applyS st.s (st.cmds.getD (mK x) .zero)).2, ord := st.ord ++ [st.opn.getD (mK x) 0 - 1], opn := st.opn.set (mK x) (-1) }
noncomputable def mRet (st : MSt) (x : MOp) : MSt := { st with out := st.out ++ [evR (st.cmds.getD (mK x) .zero) (mRep st x)], opn := st.opn.set (mK x) 0 }
noncomputable def mstep (st : MSt) (x : MOp) : MSt :=
 bif decide (st.opn.getD (mK x) 0 = 0) then (bif rightC (mCmd st x) && !decide (x.c.kind = 0) then mCall st x else st)
 else bif decide (0 < st.opn.getD (mK x) 0) then mDo st x
 else bif x.ret then mRet st x else st
noncomputable def madeF : List MOp → MSt → MSt
 | [], st => st
 | x :: l, st => bif decide (st.n < 12) then madeF l (mstep st x) else st
noncomputable def mZero : MSt := ⟨zSt, 0, List.replicate 8 0, List.replicate 8 0, List.replicate 8 .zero, List.replicate 8 zeroRep, [], []⟩
theorem getD_set' {α : Type} {l : List α} {k j : Nat} {v d : α} (h : k < l.length) : (l.set k v).getD j d = if j = k then v else l.getD j d := by
 simp only [List.getD_eq_getElem?_getD, List.getElem?_set]
 by_cases hj : k = j
 · subst hj; simp [h]
 · rw [if_neg hj, if_neg (fun e => hj e.symm)]
structure MB (i : Int) (st : MSt) : Prop where
 lo : st.opn.length = 8
 ls : st.seq.length = 8
 lc : st.cmds.length = 8
 lt : st.told.length = 8
 n0 : 0 ≤ st.n
 n12 : st.n ≤ 12
 ob : ∀ k, -1 ≤ st.opn.getD k 0 ∧ st.opn.getD k 0 ≤ st.n
 sb : ∀ k, 0 ≤ st.seq.getD k 0 ∧ st.seq.getD k 0 ≤ st.n
 ok : ∃ j, 0 ≤ j ∧ j ≤ i ∧ stOk j st.s
 ev : ∀ e ∈ st.out, (e.a = 1 ∨ e.a = 2) ∧ (1 ≤ e.b ∧ e.b ≤ 8) ∧ (1 ≤ e.c.client ∧ e.c.client ≤ 8) ∧ isP e.r.pairs
 len : (st.out.length : Int) ≤ i
 told : ∀ k, isP (st.told.getD k zeroRep).pairs
 cli : ∀ k, k < 8 → st.opn.getD k 0 ≠ 0 → (st.cmds.getD k .zero).client = (k : Int) + 1
 cnt : ((st.out.filter fun e => decide (e.a = 1)).length : Int) = st.n
 oln : (st.ord.length : Int) ≤ i
 obd : ∀ p ∈ st.ord, 0 ≤ p ∧ p < st.n
theorem repl_getD {α : Type} (n k : Nat) (d : α) : (List.replicate n d).getD k d = d := by
 rw [List.getD_eq_getElem?_getD, List.getElem?_replicate]
 split <;> rfl
theorem mZ1 {a : Int} (h : a = 0) : -1 ≤ a ∧ a ≤ 0 := by omega
theorem mZ2 {a : Int} (h : a = 0) : 0 ≤ a ∧ a ≤ 0 := by omega
theorem mZero_ok : MB 0 mZero := ⟨rfl, rfl, rfl, rfl, Int.le_refl 0, by show (0 : Int) ≤ 12; omega, fun k => mZ1 (repl_getD 8 k 0), fun k => mZ2 (repl_getD 8 k 0), ⟨0, Int.le_refl 0, Int.le_refl 0, zSt_ok⟩, fun e he => (by cases he), Int.le_refl 0, fun k => (congrArg (fun r : Reply => isP r.pairs) (repl_getD 8 k zeroRep)).mpr isP.nil, fun k _ h => absurd (repl_getD 8 k 0) h, rfl, Int.le_refl 0, fun p hp => by cases hp⟩
theorem MB.more {i : Int} {st : MSt} (h : MB i st) : MB (i + 1) st := by
 obtain ⟨j, j0, j1, j2⟩ := h.ok
 exact ⟨h.lo, h.ls, h.lc, h.lt, h.n0, h.n12, h.ob, h.sb, ⟨j, j0, by omega, j2⟩, h.ev, by have := h.len; omega, h.told, h.cli, h.cnt, by have := h.oln; omega, h.obd⟩
theorem MB.call {i : Int} {st : MSt} (h : MB i st) {x : MOp} (hn : st.n < 12) : MB (i + 1) (mCall st x) := by
 obtain ⟨j, j0, j1, j2⟩ := h.ok
 have hk := mK_lt x
 have ho : ∀ q, (mCall st x).opn.getD q 0 = if q = mK x then st.n + 1 else st.opn.getD q 0 := fun q => getD_set' (by rw [h.lo]; exact hk)
 have hs : ∀ q, (mCall st x).seq.getD q 0 = if q = mK x then st.seq.getD (mK x) 0 + 1 else st.seq.getD q 0 := fun q => getD_set' (by rw [h.ls]; exact hk)
 have hc : ∀ q, (mCall st x).cmds.getD q .zero = if q = mK x then mCmd st x else st.cmds.getD q .zero := fun q => getD_set' (by rw [h.lc]; exact hk)
 have h0 := h.n0
 refine ⟨(List.length_set ..).trans h.lo, (List.length_set ..).trans h.ls, (List.length_set ..).trans h.lc, h.lt, by show 0 ≤ st.n + 1; omega, by show st.n + 1 ≤ 12; omega, fun q => ?_, fun q => ?_, ⟨j, j0, by omega, j2⟩, fun e he => ?_, ?_, h.told, fun q hq hne => ?_, ?_, by have := h.oln; show (st.ord.length : Int) ≤ i + 1; omega, fun p hp => ?_⟩
 · rw [ho]
   have := h.ob q
   show _ ∧ _ ≤ st.n + 1
   split <;> omega
 · rw [hs]
   have := h.sb q
   have := h.sb (mK x)
   show _ ∧ _ ≤ st.n + 1
   split <;> omega
 · rcases List.mem_append.1 he with he | he
   · exact h.ev e he
   · rw [List.mem_singleton] at he
     subst he
     exact ⟨.inl rfl, ⟨by show 1 ≤ (mK x : Int) + 1; omega, by show (mK x : Int) + 1 ≤ 8; omega⟩, ⟨by show 1 ≤ (mK x : Int) + 1; omega, by show (mK x : Int) + 1 ≤ 8; omega⟩, isP.nil⟩
 · have := h.len
   show ((st.out ++ [_]).length : Int) ≤ _
   rw [List.length_append, List.length_singleton]
   omega
 · rw [hc]
   rw [ho] at hne
   by_cases hq2 : q = mK x
   · rw [if_pos hq2, hq2]; rfl
   · rw [if_neg hq2] at hne ⊢
     exact h.cli q hq hne
 · have := h.cnt
   show (((st.out ++ [_]).filter _).length : Int) = st.n + 1
   rw [List.filter_append, List.length_append]
   show ((_ + 1 : Nat) : Int) = _
   omega
 · have := h.obd p hp
   exact ⟨this.1, by show p < st.n + 1; omega⟩
theorem MB.do {i : Int} {st : MSt} (h : MB i st) (hi : i ≤ 1048576) {x : MOp} (hpos : 0 < st.opn.getD (mK x) 0) : MB (i + 1) (mDo st x) := by
 obtain ⟨j, j0, j1, j2⟩ := h.ok
 have hk := mK_lt x
 have ho : ∀ q, (mDo st x).opn.getD q 0 = if q = mK x then -1 else st.opn.getD q 0 := fun q => getD_set' (by rw [h.lo]; exact hk)
 have ht : ∀ q, (mDo st x).told.getD q zeroRep = if q = mK x then (applyS st.s (st.cmds.getD (mK x) .zero)).2 else st.told.getD q zeroRep := fun q => getD_set' (by rw [h.lt]; exact hk)
 have h0 := h.n0
 refine ⟨(List.length_set ..).trans h.lo, h.ls, h.lc, (List.length_set ..).trans h.lt, h.n0, h.n12, fun q => ?_, h.sb, ⟨j + 1, by omega, by omega, j2.app j0 (by omega) _⟩, h.ev, by have := h.len; show (st.out.length : Int) ≤ i + 1; omega, fun q => ?_, fun q hq hne => ?_, h.cnt, ?_, fun p hp => ?_⟩
 · rw [ho]
   have := h.ob q
   show _ ∧ _ ≤ st.n
   split <;> omega
 · rw [ht]
   split
   · exact j2.rep j0 (by omega) _
   · exact h.told q
 · rw [ho] at hne
   by_cases hq2 : q = mK x
   · rw [hq2]
     exact h.cli (mK x) hk (by omega)
   · rw [if_neg hq2] at hne
     exact h.cli q hq hne
 · have := h.oln
   show ((st.ord ++ [_]).length : Int) ≤ _
   rw [List.length_append, List.length_singleton]
   omega
 · rcases List.mem_append.1 hp with hp | hp
   · exact h.obd p hp
   · rw [List.mem_singleton] at hp
     subst hp
     have := h.ob (mK x)
     exact ⟨by omega, by show _ < st.n; omega⟩
theorem MB.ret {i : Int} {st : MSt} (h : MB i st) {x : MOp} (hne0 : st.opn.getD (mK x) 0 ≠ 0) : MB (i + 1) (mRet st x) := by
 obtain ⟨j, j0, j1, j2⟩ := h.ok
 have hk := mK_lt x
 have ho : ∀ q, (mRet st x).opn.getD q 0 = if q = mK x then 0 else st.opn.getD q 0 := fun q => getD_set' (by rw [h.lo]; exact hk)
 have h0 := h.n0
 have hcl := h.cli (mK x) hk hne0
 refine ⟨(List.length_set ..).trans h.lo, h.ls, h.lc, h.lt, h.n0, h.n12, fun q => ?_, h.sb, ⟨j, j0, by omega, j2⟩, fun e he => ?_, ?_, h.told, fun q hq hne => ?_, ?_, by have := h.oln; show (st.ord.length : Int) ≤ i + 1; omega, h.obd⟩
 · rw [ho]
   have := h.ob q
   show _ ∧ _ ≤ st.n
   split <;> omega
 · rcases List.mem_append.1 he with he | he
   · exact h.ev e he
   · rw [List.mem_singleton] at he
     subst he
     refine ⟨.inr rfl, ?_, ?_, h.told _⟩
     · show 1 ≤ (st.cmds.getD (mK x) .zero).client ∧ (st.cmds.getD (mK x) .zero).client ≤ 8
       omega
     · show 1 ≤ (st.cmds.getD (mK x) .zero).client ∧ (st.cmds.getD (mK x) .zero).client ≤ 8
       omega
 · have := h.len
   show ((st.out ++ [_]).length : Int) ≤ _
   rw [List.length_append, List.length_singleton]
   omega
 · rw [ho] at hne
   by_cases hq2 : q = mK x
   · rw [if_pos hq2] at hne
     exact absurd rfl hne
   · rw [if_neg hq2] at hne
     exact h.cli q hq hne
 · have := h.cnt
   show (((st.out ++ [_]).filter _).length : Int) = st.n
   rw [List.filter_append, List.length_append]
   show ((_ + 0 : Nat) : Int) = _
   omega
theorem MB.step {i : Int} {st : MSt} (h : MB i st) (hi : i ≤ 1048576) {x : MOp} (hn : st.n < 12) : MB (i + 1) (mstep st x) := by
 unfold mstep
 cases h1 : decide (st.opn.getD (mK x) 0 = 0) with
 | true =>
   rw [cond_true]
   cases h2 : rightC (mCmd st x) && !decide (x.c.kind = 0) with
   | true => exact h.call hn
   | false => exact h.more
 | false =>
   have h1 := of_decide_eq_false h1
   rw [cond_false]
   cases h2 : decide (0 < st.opn.getD (mK x) 0) with
   | true => exact h.do hi (of_decide_eq_true h2)
   | false =>
     rw [cond_false]
     cases h3 : x.ret with
     | true => exact h.ret h1
     | false => exact h.more
theorem MB.made : ∀ (l : List MOp) (i : Int) (st : MSt), MB i st → 0 ≤ i → i + l.length ≤ 1048576 → MB (i + l.length) (madeF l st)
 | [], i, st, h, h0, hi => by rw [madeF]; simpa using h
 | x :: l, i, st, h, h0, hi => by
     rw [List.length_cons] at hi ⊢
     rw [madeF, show i + ((l.length + 1 : Nat) : Int) = i + 1 + (l.length : Int) by omega]
     cases hn : decide (st.n < 12) with
     | true => exact MB.made l (i + 1) _ (h.step (by omega) (of_decide_eq_true hn)) (by omega) (by omega)
     | false =>
       rw [cond_false]
       have key : ∀ (m : Nat) (i : Int), MB i st → MB (i + m) st := by
        intro m
        induction m with
        | zero => intro i h; simpa using h
        | succ m ih => intro i h; have := ih (i + 1) h.more; rwa [show i + 1 + (m : Int) = i + ((m + 1 : Nat) : Int) by omega] at this
       exact key _ _ h.more
theorem opsF_len : ∀ (l : List Ev) (i : Int) (out o : List Ev), opsF l i out = some o → o.length = out.length + (l.filter fun e => decide (e.a = 1)).length
 | [], i, out, o, h => by
     simp only [opsF, Option.some.injEq] at h
     subst h; rfl
 | e :: l, i, out, o, h => by
     rw [opsF] at h
     cases h1 : evStep i out e with
     | none => rw [h1] at h; cases h
     | some o1 =>
       rw [h1] at h
       rw [opsF_len l _ _ _ h]
       rcases evStep_cases h1 with ⟨_, ha, _, _, _, rfl⟩ | ⟨_, ha, y, _, _, _, rfl⟩
       · simp [List.filter_cons, ha]; omega
       · simp [List.filter_cons, ha]
theorem MB.o12 {i : Int} {st : MSt} (h : MB i st) {o : List Ev} (ho : opsM st.out = some o) : (o.length : Int) = st.n := by
 have := opsF_len _ _ _ _ ho
 have h2 := h.cnt
 rw [this, List.length_nil, Nat.zero_add]
 exact h2
theorem MB.pairs {i : Int} {st : MSt} (h : MB i st) : ∀ e ∈ st.out, isP e.r.pairs := fun e he => (h.ev e he).2.2.2
theorem MB.isEv {i : Int} {st : MSt} (h : MB i st) (hi : i ≤ 1048576) : isEv (evsX st.out) := ⟨st.out, rfl, by have := h.len; omega, fun e he => by
 have := h.ev e he
 exact ⟨by unfold r64; omega, by unfold r64; omega, by unfold r64; omega, this.2.2.2⟩⟩
theorem MB.fits {i : Int} {st : MSt} (h : MB i st) {r : List Int} (hf : fitsM st.out r = true) : linM st.out = (true, true) := by
 cases ho : opsM st.out with
 | none => unfold fitsM at hf; rw [ho] at hf; cases hf
 | some o =>
   have hl : o.length ≤ 12 := by have := h.o12 ho; have := h.n12; omega
   exact linM_of ho hl (lin_of_fits h.pairs ho hl hf)
end Go.Proofs.Ytadnpgkddgbhkaa
namespace Go.Proofs.Ytadnpgkddgbhkaa
open Go.RowKit Go.Maps
set_option linter.all false
set_option maxHeartbeats 4000000
noncomputable def runO (o : List Ev) : List Int → List DV → List DV × List Reply
 | [], s => (s, [])
 | p :: l, s => ((runO o l (applyS s (o.getD p.toNat default).c).1).1, (applyS s (o.getD p.toNat default).c).2 :: (runO o l (applyS s (o.getD p.toNat default).c).1).2)
def MC (st : MSt) (o : List Ev) (rs : List Reply) (k : Nat) : Prop :=
 (st.opn.getD k 0 = 0 → openX ((k : Int) + 1) o = -1) ∧
 (0 < st.opn.getD k 0 → ∃ e, o[(st.opn.getD k 0 - 1).toNat]? = some e ∧ openX ((k : Int) + 1) o = st.opn.getD k 0 - 1 ∧ e.c = st.cmds.getD k .zero ∧ st.opn.getD k 0 - 1 ∉ st.ord) ∧
 (st.opn.getD k 0 < 0 → ∃ (q : Nat) (p : Int) (e : Ev), st.ord[q]? = some p ∧ o[p.toNat]? = some e ∧ openX ((k : Int) + 1) o = p ∧ e.c = st.cmds.getD k .zero ∧ rs[q]? = some (st.told.getD k zeroRep))
structure MI (st : MSt) (o : List Ev) (rs : List Reply) : Prop where
 ops : opsM st.out = some o
 nd : st.ord.Nodup
 rg : ∀ p ∈ st.ord, 0 ≤ p ∧ p < o.length
 run : runO o st.ord zSt = (st.s, rs)
 rep : ∀ (q : Nat) (p : Int) (e : Ev), st.ord[q]? = some p → o[p.toNat]? = some e → 0 ≤ e.b → rs[q]? = some e.r
 ret : ∀ (j : Nat) (e : Ev), o[j]? = some e → 0 ≤ e.b → (j : Int) ∈ st.ord
 ah : ∀ (q : Nat) (p : Int) (e : Ev) (j : Nat) (b : Ev), st.ord[q]? = some p → o[p.toNat]? = some e → o[j]? = some b → 0 ≤ b.b → b.b < e.a → ∃ q' : Nat, q' < q ∧ st.ord[q']? = some (j : Int)
 cl : ∀ k, k < 8 → MC st o rs k
end Go.Proofs.Ytadnpgkddgbhkaa
namespace Go.Proofs.Ytadnpgkddgbhkaa
open Go.RowKit Go.Maps
set_option linter.all false
set_option maxHeartbeats 4000000
def MOp.row (x : MOp) : List PD := [.sc (.int .i64 x.cl), .sc (.int .i64 x.wait)] ++ x.c.row ++ [.sc (.bool x.ret), .sc (.bool x.lie)]
def mopsX (l : List MOp) : List (List PD) := l.map MOp.row
def isMops (xs : List (List PD)) : Prop := ∃ l, xs = mopsX l ∧ l.length ≤ 1048575 ∧ ∀ x ∈ l, r64 x.cl
theorem mopsX_len (l : List MOp) : (mopsX l).length = l.length := by simp [mopsX]
theorem mrow {xs : List (List PD)} {l : List MOp} (hxs : xs = mopsX l) {i : Int} (h0 : 0 ≤ i) (h1 : i < l.length) : xs.getD i.toNat [] = (l[i.toNat]'(by omega)).row := by
 subst hxs
 have : i.toNat < l.length := by omega
 simp [mopsX, List.getD_eq_getElem?_getD, this]
def flatC {α : Type} (f : α → List DV) (l : List α) : List DV := (l.map f).flatten
theorem flatC_len {α : Type} {f : α → List DV} {sz : Nat} (hf : ∀ a, (f a).length = sz) : ∀ l : List α, (flatC f l).length = l.length * sz
 | [] => by simp [flatC]
 | a :: l => by
     show (f a ++ flatC f l).length = _
     rw [List.length_append, hf, flatC_len hf l, List.length_cons, Nat.add_mul]
     omega
theorem flatC_row {α : Type} {f : α → List DV} {sz : Nat} (hf : ∀ a, (f a).length = sz) : ∀ (l : List α) (j : Nat) (h : j < l.length), (flatC f l).drop (j * sz) = f l[j] ++ flatC f (l.drop (j + 1))
 | [], j, h => by cases h
 | a :: l, 0, h => by rw [Nat.zero_mul]; rfl
 | a :: l, j + 1, h => by
     have h2 : j < l.length := by simpa using h
     show (f a ++ flatC f l).drop ((j + 1) * sz) = _
     rw [show (j + 1) * sz = (f a).length + j * sz by rw [hf, Nat.add_mul]; omega, ← List.drop_drop, List.drop_left]
     exact flatC_row hf l j h2
theorem flatC_take {α : Type} {f : α → List DV} {sz : Nat} (hf : ∀ a, (f a).length = sz) {l : List α} {j : Nat} (h : j < l.length) : ((flatC f l).drop (j * sz)).take sz = f l[j] := by
 rw [flatC_row hf l j h, List.take_append_of_le_length (by rw [hf]; exact Nat.le_refl _), List.take_of_length_le (by rw [hf]; exact Nat.le_refl _)]
theorem flatC_get {α : Type} {f : α → List DV} {sz : Nat} (hf : ∀ a, (f a).length = sz) {l : List α} {j : Nat} (h : j < l.length) {m : Nat} (hm : m < sz) : (flatC f l)[j * sz + m]? = (f l[j])[m]? := by
 rw [← List.getElem?_drop, flatC_row hf l j h, List.getElem?_append_left (by rw [hf]; exact hm)]
theorem flatC_app {α : Type} (f : α → List DV) (a b : List α) : flatC f (a ++ b) = flatC f a ++ flatC f b := by simp [flatC]
theorem flatC_spl {α : Type} {f : α → List DV} {sz : Nat} (hf : ∀ a, (f a).length = sz) {l : List α} {j : Nat} (h : j < l.length) (a : α) : splice (flatC f l) (j * sz) (f a) = flatC f (l.set j a) := by
 have e1 : flatC f l = flatC f (l.take j) ++ (f l[j] ++ flatC f (l.drop (j + 1))) := by
  have e : l = l.take j ++ (l[j] :: l.drop (j + 1)) := by rw [← List.drop_eq_getElem_cons, List.take_append_drop]
  conv => lhs; rw [e, flatC_app]
  rfl
 have e2 : flatC f (l.set j a) = flatC f (l.take j) ++ (f a ++ flatC f (l.drop (j + 1))) := by
  rw [List.set_eq_take_append_cons_drop, if_pos h, flatC_app]
  rfl
 have e3 : j * sz = (flatC f (l.take j)).length + 0 := by rw [flatC_len hf, List.length_take, Nat.min_eq_left (by omega)]; rfl
 rw [e1, e2, e3, splice_mid _ _ _ _ _ (by rw [hf, hf]; omega)]
 congr 2
 simp [splice, hf]
theorem flatC_closed {α : Type} {f : α → List DV} (hf : ∀ a, closedL 0 (f a) = true) (κ : List Nat) (hp : ∀ a, pullL κ (f a) = f a) : ∀ l : List α, pullL κ (flatC f l) = flatC f l := by
 intro l
 rw [pullL_eq]
 induction l with
 | nil => rfl
 | cons a l ih =>
   show (f a ++ flatC f l).map _ = _
   rw [List.map_append, ih, ← pullL_eq, hp]
   rfl
def cmdC (c : Cmd) : List DV := [.d (.sc (.int .i64 c.kind)), .d (.sc (.int .i64 c.client)), .d (.sc (.int .i64 c.seq)), .d (.sc (.string c.key)), .d (.sc (.string c.fin)), .d (.sc (.string c.old)), .d (.sc (.string c.val))]
def repC5 (r : Reply) : List DV := [.d (.sc (.int .i64 r.why)), .d (.sc (.bool r.found)), .d (.sc (.string r.value)), .d (.sc (.int .i64 r.version)), .d (.slc 3 r.pairs)]
theorem cmdC_len (c : Cmd) : (cmdC c).length = 7 := rfl
theorem repC5_len (c : Reply) : (repC5 c).length = 5 := rfl
theorem cmdsC_pull (κ : List Nat) (l : List Cmd) : pullL κ (flatC cmdC l) = flatC cmdC l := flatC_closed (fun _ => rfl) κ (fun _ => rfl) l
theorem repsC_pull (κ : List Nat) (l : List Reply) : pullL κ (flatC repC5 l) = flatC repC5 l := flatC_closed (fun _ => rfl) κ (fun _ => rfl) l
def ordV : Nat → Nat → Nat → DV
 | 0, _, _ => .d (.sc (.slice none 0 0))
 | n + 1, b, v => .view 1 b v 0 (n + 1)
def ordB : Nat → List DV → Nat → Store
 | 0, _, _ => []
 | n + 1, dc, v => [⟨3, dc, true, v, true⟩]
def outB2 : Nat → List DV → Nat → Store
 | 0, _, _ => []
 | n + 1, dc, v => [⟨50, dc, true, v, true⟩]
noncomputable def madeM (l : List MOp) : List Ev × List Int := ((madeF l mZero).out, (madeF l mZero).ord)
def mopOf (r : List PD) : MOp := match r with
 | [.sc (.int _ a), .sc (.int _ w), .sc (.int _ k), .sc (.int _ c), .sc (.int _ q), .sc (.string x1), .sc (.string x2), .sc (.string x3), .sc (.string x4), .sc (.bool r), .sc (.bool l)] => ⟨a, w, ⟨k, c, q, x1, x2, x3, x4⟩, r, l⟩
 | _ => ⟨0, 0, .zero, false, false⟩
def mopsOf (xs : List (List PD)) : List MOp := xs.map mopOf
theorem mopsOf_X : ∀ l : List MOp, mopsOf (mopsX l) = l
 | [] => rfl
 | x :: l => by show mopOf x.row :: mopsOf (mopsX l) = _; rw [mopsOf_X l]; rfl
noncomputable def madeR (xs : List (List PD)) : List (List PD) × List (List PD) := (evsX (madeM (mopsOf xs)).1, numsX (madeM (mopsOf xs)).2)
end Go.Proofs.Ytadnpgkddgbhkaa
namespace Go.Proofs.Ytadnpgkddgbhkaa
open Go.RowKit Go.Maps
set_option linter.all false
set_option maxHeartbeats 4000000
theorem ran_mem {o : List Ev} : ∀ (r : List Int) (i : Int) (at_ aF : List Int) (s : List DV), at_.length = o.length → 0 ≤ i → (∀ j, 0 ≤ at_.getD j 0) → ranF o r i at_ s = some aF → (∀ p ∈ r, 0 ≤ p ∧ p < o.length ∧ at_.getD p.toNat 0 = 0) ∧ r.Nodup ∧ (∀ j : Nat, aF.getD j 0 ≠ 0 → at_.getD j 0 ≠ 0 ∨ (j : Int) ∈ r)
 | [], i, at_, aF, s, hl, _, _, h => by
     simp only [ranF, Option.some.injEq] at h
     subst h
     exact ⟨fun p hp => (by cases hp), List.nodup_nil, fun j h => .inl h⟩
 | k :: r, i, at_, aF, s, hl, hi, hn, h => by
     rw [ranF] at h
     cases hb : (decide (k < 0) || decide ((o.length : Int) ≤ k) || decide (at_.getD k.toNat 0 > 0)) with
     | true => rw [hb] at h; cases h
     | false =>
       rw [hb, cond_false] at h
       simp only [Bool.or_eq_false_iff, decide_eq_false_iff_not] at hb
       cases hc : (decide (0 ≤ (o.getD k.toNat default).b) && !repliesX (applyS s (o.getD k.toNat default).c).2 (o.getD k.toNat default).r) with
       | true => rw [hc] at h; cases h
       | false =>
         rw [hc, cond_false] at h
         have hk : k.toNat < at_.length := by omega
         have hg := fun j => getDs (l := at_) (j := j) (v := i + 1) hk
         have hnk := hn k.toNat
         obtain ⟨h1, h2, h3⟩ := ran_mem r (i + 1) (at_.set k.toNat (i + 1)) aF _ (by rw [List.length_set]; exact hl) (by omega) (fun j => by rw [hg]; split; exact (by omega); exact hn j) h
         refine ⟨fun p hp => ?_, ?_, fun j hj => ?_⟩
         · rcases List.mem_cons.1 hp with rfl | hp
           · exact ⟨by omega, by omega, by omega⟩
           · obtain ⟨a1, a2, a3⟩ := h1 p hp
             rw [hg] at a3
             split at a3
             · omega
             · exact ⟨a1, a2, a3⟩
         · rw [List.nodup_cons]
           refine ⟨fun hm => ?_, h2⟩
           have a3 := (h1 k hm).2.2
           rw [hg, if_pos rfl] at a3
           omega
         · rcases h3 j hj with h4 | h4
           · rw [hg] at h4
             by_cases hjk : j = k.toNat
             · exact .inr (by rw [show (j : Int) = k by omega]; simp)
             · rw [if_neg hjk] at h4
               exact .inl h4
           · exact .inr (by simp [h4])
theorem fits_like {l : List Ev} {r : List Int} (h : fitsM l r = true) : ∃ o, opsM l = some o ∧ r.Nodup ∧ (∀ p ∈ r, 0 ≤ p ∧ p < o.length) ∧ ∀ (j : Nat) (e : Ev), o[j]? = some e → 0 ≤ e.b → (j : Int) ∈ r := by
 unfold fitsM at h
 cases ho : opsM l with
 | none => rw [ho] at h; cases h
 | some o =>
   rw [ho] at h
   simp only [] at h
   cases hr : ranF o r 0 (List.replicate o.length 0) (cellsS [] (List.replicate 8 ⟨0, zeroRep⟩)) with
   | none => rw [hr] at h; cases h
   | some aF =>
     rw [hr] at h
     obtain ⟨h1, h2, h3⟩ := ran_mem r 0 _ aF _ (by simp) (Int.le_refl 0) (fun j => by rw [zeros_getD]; exact Int.le_refl 0) hr
     refine ⟨o, rfl, h2, fun p hp => ⟨(h1 p hp).1, (h1 p hp).2.1⟩, fun j e he hb => ?_⟩
     have h4 := ((chkF_iff o 0).1 h j e he).1
     rw [Nat.zero_add] at h4
     rcases h3 j (fun q => h4 ⟨hb, q⟩) with h5 | h5
     · exact absurd (zeros_getD _ _) h5
     · exact h5
theorem nodup_at {r : List Int} (h : r.Nodup) {i k : Nat} (hi : i < r.length) (hk : k < r.length) (e : r[i] = r[k]) : i = k := (List.getElem_inj h).1 e
end Go.Proofs.Ytadnpgkddgbhkaa
namespace Go.Proofs.Ytadnpgkddgbhkaa
open Go.RowKit Go.Maps
set_option linter.all false
set_option maxHeartbeats 8000000
def lcallH (c : Cmd) : HOp := (evC c).op
def lbackH (c : Cmd) (r : Reply) : HOp := (evR c r).op
theorem v_lcallH (c : Cmd) : FnV Try.prog 20 [Cmd.D c] (HOp.D (lcallH c)) := v_lcall c
theorem v_lbackH (c : Cmd) (r : Reply) : FnV Try.prog 22 [Cmd.D c, Reply.D r] (HOp.D (lbackH c r)) := v_lback c r
structure FsHz where
 lput : Cmd
 lget : Cmd
 lcallH : Cmd → HOp
 lbackH : Cmd → Reply → HOp
 lis : Bool → List (List PD) → Bool
 isP : List (List PD) → Prop
 isEv : List (List PD) → Prop
noncomputable def FsHz0 : FsHz where
 lput := putC
 lget := getC
 lcallH := lcallH
 lbackH := lbackH
 lis := isR
 isP := isP
 isEv := isEv
def kn_lput (F : FsHz) : FuncId × (List DV → RV) := (21, fun args => match args with
 | [] => some ([], Cmd.D F.lput)
 | _ => none)
theorem ok_lput (args : List DV) (cs : List Prop) (r : DV) (h : (kn_lput FsHz0).2 args = some (cs, r)) (hc : allP cs True) : FnV Try.prog 21 args r ∧ closedL 0 args = true := by
 unfold kn_lput at h
 simp only at h
 split at h
 · cases h; exact ⟨v_lput, rfl⟩
 · cases h
def kn_lget (F : FsHz) : FuncId × (List DV → RV) := (23, fun args => match args with
 | [] => some ([], Cmd.D F.lget)
 | _ => none)
theorem ok_lget (args : List DV) (cs : List Prop) (r : DV) (h : (kn_lget FsHz0).2 args = some (cs, r)) (hc : allP cs True) : FnV Try.prog 23 args r ∧ closedL 0 args = true := by
 unfold kn_lget at h
 simp only at h
 split at h
 · cases h; exact ⟨v_lget, rfl⟩
 · cases h
def kn_lcallH (F : FsHz) : FuncId × (List DV → RV) := (20, fun args => match args with
 | [.agg [.d (.sc (.int .i64 c_kind)), .d (.sc (.int .i64 c_client)), .d (.sc (.int .i64 c_seq)), .d (.sc (.string c_key)), .d (.sc (.string c_fin)), .d (.sc (.string c_old)), .d (.sc (.string c_val))]] => some ([], HOp.D ((F.lcallH ⟨c_kind, c_client, c_seq, c_key, c_fin, c_old, c_val⟩)))
 | _ => none)
theorem ok_lcallH (args : List DV) (cs : List Prop) (r : DV) (h : (kn_lcallH FsHz0).2 args = some (cs, r)) (hc : allP cs True) : FnV Try.prog 20 args r ∧ closedL 0 args = true := by
 unfold kn_lcallH at h
 simp only at h
 split at h
 · cases h; exact ⟨v_lcallH ⟨_, _, _, _, _, _, _⟩, rfl⟩
 · cases h
def kn_lbackH (F : FsHz) : FuncId × (List DV → RV) := (22, fun args => match args with
 | [.agg [.d (.sc (.int .i64 c_kind)), .d (.sc (.int .i64 c_client)), .d (.sc (.int .i64 c_seq)), .d (.sc (.string c_key)), .d (.sc (.string c_fin)), .d (.sc (.string c_old)), .d (.sc (.string c_val))], .agg [.d (.sc (.int .i64 r_why)), .d (.sc (.bool r_found)), .d (.sc (.string r_value)), .d (.sc (.int .i64 r_version)), .d (.slc 3 r_pairs)]] => some ([], HOp.D ((F.lbackH ⟨c_kind, c_client, c_seq, c_key, c_fin, c_old, c_val⟩ ⟨r_why, r_found, r_value, r_version, r_pairs⟩)))
 | [.agg [.d (.sc (.int .i64 c_kind)), .d (.sc (.int .i64 c_client)), .d (.sc (.int .i64 c_seq)), .d (.sc (.string c_key)), .d (.sc (.string c_fin)), .d (.sc (.string c_old)), .d (.sc (.string c_val))], .agg [.d (.sc (.int .i64 r_why)), .d (.sc (.bool r_found)), .d (.sc (.string r_value)), .d (.sc (.int .i64 r_version)), .d (.sc (.slice none 0 0))]] => some ([], HOp.D ((F.lbackH ⟨c_kind, c_client, c_seq, c_key, c_fin, c_old, c_val⟩ ⟨r_why, r_found, r_value, r_version, []⟩)))
 | _ => none)
theorem ok_lbackH (args : List DV) (cs : List Prop) (r : DV) (h : (kn_lbackH FsHz0).2 args = some (cs, r)) (hc : allP cs True) : FnV Try.prog 22 args r ∧ closedL 0 args = true := by
 unfold kn_lbackH at h
 simp only at h
 split at h
 · cases h; exact ⟨v_lbackH ⟨_, _, _, _, _, _, _⟩ ⟨_, _, _, _, _⟩, rfl⟩
 · cases h; exact ⟨FnP.ups (v_lbackH ⟨_, _, _, _, _, _, _⟩ ⟨_, _, _, _, []⟩) (UpL.agg (UpL.keep (UpL.keep (UpL.keep (UpL.keep (UpL.keep (UpL.keep (UpL.keep UpL.done))))))) (UpL.agg (UpL.keep (UpL.keep (UpL.keep (UpL.keep (UpL.nil UpL.done))))) UpL.done)), rfl⟩
 · cases h
def kn_lis (F : FsHz) : FuncId × (List DV → RV) := (19, fun args => match args with
 | [.d (.sc (.bool w)), .d (.slc 14 xs)] => some ([F.isEv xs], boolD ((F.lis w xs)))
 | [.d (.sc (.bool w)), .d (.sc (.slice none 0 0))] => some ([F.isEv []], boolD ((F.lis w [])))
 | _ => none)
theorem ok_lis (args : List DV) (cs : List Prop) (r : DV) (h : (kn_lis FsHz0).2 args = some (cs, r)) (hc : allP cs True) : FnV Try.prog 19 args r ∧ closedL 0 args = true := by
 unfold kn_lis at h
 simp only at h
 split at h
 · cases h; exact ⟨v_lis _ _ hc.1, rfl⟩
 · cases h; exact ⟨FnP.nils (v_lis _ [] hc.1) ⟨.inl rfl, ⟨.inr ⟨rfl, _, rfl⟩, trivial⟩⟩, rfl⟩
 · cases h
end Go.Proofs.Ytadnpgkddgbhkaa
