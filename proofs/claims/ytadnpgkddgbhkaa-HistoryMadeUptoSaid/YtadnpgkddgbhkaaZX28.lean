/- Histories: the law's small functions. No condition. -/
import Derived.Test.YtadnpgkddgbhkaaZX27
import Derived.Test.YtadnpgkddgbhkaaZX17
namespace Go.Proofs.Ytadnpgkddgbhkaa
open Go.RowKit Go.Maps
set_option linter.all false
set_option maxHeartbeats 8000000
abbrev aB : ByteArray := { data := #[97] }
abbrev oneB2 : ByteArray := { data := #[49] }
def putC : Cmd := ⟨2, 1, 1, aB, none8, none8, oneB2⟩
def getC : Cmd := ⟨1, 2, 1, aB, none8, none8, none8⟩
def evC (c : Cmd) : Ev := ⟨1, c.client, c, zeroRep⟩
def evR (c : Cmd) (r : Reply) : Ev := ⟨2, c.client, c, r⟩
set_option maxRecDepth 100000 in
theorem v_lput  : FnV Try.prog 21 [] (Cmd.D putC) := by
 have hH : SoundK Try.prog [] := by exact noK_ok
 have hB : SoundB Try.prog [] := by exact noB_ok
 refine FnD_cbv (T := fun _ => tabY [] []) (H := fun _ => []) (tabY_ok _ _) hH follows_mixed Try.func21 rfl Try.ntmps21 (by simp) fun A X W hA hX hW => ?_
 cbv
 repeat first
  | refine And.intro (by subst hA hX ; clear hH hB; first | exact trivial | exact rfl | (simp [A0]; done) | (intro q; exact q) | (intro q; simpa [A0] using q) | (intro _; trivial) | (show Region.lexB _ _ = true; kernel_rfl) | (show turnsB _ = true; kernel_rfl) | assumption | (intro _; assumption) | (intro _; rfl)) ?_
  | (refine pickL hX (t := true) (by rfl) rfl ?_; cbv)
  | (refine pickL hX (t := false) (by rfl) rfl ?_; cbv)
  | ((with_reducible refine callB hX hB ?_); cbv; fail_if_success show False)
 subst hA hX hW
 exact ret_v rfl rfl
set_option maxRecDepth 100000 in
theorem v_lget  : FnV Try.prog 23 [] (Cmd.D getC) := by
 have hH : SoundK Try.prog [] := by exact noK_ok
 have hB : SoundB Try.prog [] := by exact noB_ok
 refine FnD_cbv (T := fun _ => tabY [] []) (H := fun _ => []) (tabY_ok _ _) hH follows_mixed Try.func23 rfl Try.ntmps23 (by simp) fun A X W hA hX hW => ?_
 cbv
 repeat first
  | refine And.intro (by subst hA hX ; clear hH hB; first | exact trivial | exact rfl | (simp [A0]; done) | (intro q; exact q) | (intro q; simpa [A0] using q) | (intro _; trivial) | (show Region.lexB _ _ = true; kernel_rfl) | (show turnsB _ = true; kernel_rfl) | assumption | (intro _; assumption) | (intro _; rfl)) ?_
  | (refine pickL hX (t := true) (by rfl) rfl ?_; cbv)
  | (refine pickL hX (t := false) (by rfl) rfl ?_; cbv)
  | ((with_reducible refine callB hX hB ?_); cbv; fail_if_success show False)
 subst hA hX hW
 exact ret_v rfl rfl
set_option maxRecDepth 100000 in
theorem v_lcall (c : Cmd) : FnV Try.prog 20 [Cmd.D c] (.agg (evC c).cells) := by
 have hH : SoundK Try.prog [] := by exact noK_ok
 have hB : SoundB Try.prog [] := by exact noB_ok
 refine FnD_cbv (T := fun _ => tabY [] []) (H := fun _ => []) (tabY_ok _ _) hH follows_mixed Try.func20 rfl Try.ntmps20 (by simp) fun A X W hA hX hW => ?_
 cbv
 repeat first
  | refine And.intro (by subst hA hX ; clear hH hB; first | exact trivial | exact rfl | (simp [A0]; done) | (intro q; exact q) | (intro q; simpa [A0] using q) | (intro _; trivial) | (show Region.lexB _ _ = true; kernel_rfl) | (show turnsB _ = true; kernel_rfl) | assumption | (intro _; assumption) | (intro _; rfl)) ?_
  | (refine pickL hX (t := true) (by rfl) rfl ?_; cbv)
  | (refine pickL hX (t := false) (by rfl) rfl ?_; cbv)
  | ((with_reducible refine callB hX hB ?_); cbv; fail_if_success show False)
 subst hA hX hW
 exact ret_up ⟨_, rfl, _, _, rfl, .inl rfl, _, _, rfl, .inl rfl, _, _, rfl, .inl rfl, _, _, rfl, .inl rfl, _, _, rfl, .inl rfl, _, _, rfl, .inl rfl, _, _, rfl, .inl rfl, _, _, rfl, .inl rfl, _, _, rfl, .inl rfl, _, _, rfl, .inl rfl, _, _, rfl, .inl rfl, _, _, rfl, .inl rfl, _, _, rfl, .inl rfl, _, _, rfl, .inr ⟨rfl, 3, rfl⟩, rfl⟩ rfl
set_option maxRecDepth 100000 in
theorem v_lback (c : Cmd) (r : Reply) : FnV Try.prog 22 [Cmd.D c, Reply.D r] (.agg (evR c r).cells) := by
 have hH : SoundK Try.prog [] := by exact noK_ok
 have hB : SoundB Try.prog [] := by exact noB_ok
 refine FnD_cbv (T := fun _ => tabY [] []) (H := fun _ => []) (tabY_ok _ _) hH follows_mixed Try.func22 rfl Try.ntmps22 (by simp) fun A X W hA hX hW => ?_
 cbv
 repeat first
  | refine And.intro (by subst hA hX ; clear hH hB; first | exact trivial | exact rfl | (simp [A0]; done) | (intro q; exact q) | (intro q; simpa [A0] using q) | (intro _; trivial) | (show Region.lexB _ _ = true; kernel_rfl) | (show turnsB _ = true; kernel_rfl) | assumption | (intro _; assumption) | (intro _; rfl)) ?_
  | (refine pickL hX (t := true) (by rfl) rfl ?_; cbv)
  | (refine pickL hX (t := false) (by rfl) rfl ?_; cbv)
  | ((with_reducible refine callB hX hB ?_); cbv; fail_if_success show False)
 subst hA hX hW
 exact ret_v rfl rfl
noncomputable def isR (want : Bool) (xs : List (List PD)) : Bool := decide ((linR xs).1 = want) && (linR xs).2
set_option maxRecDepth 100000 in
theorem v_lis (want : Bool) (xs : List (List PD)) (hev : isEv xs) : FnV Try.prog 19 [.d (.sc (.bool want)), .d (.slc 14 xs)] (.d (.sc (.bool (isR want xs)))) := by
 obtain ⟨GFsHl, hFsHl⟩ : ∃ F, F = FsHl0 := ⟨_, rfl⟩
 have hH : SoundK Try.prog [kn_linear GFsHl] := by subst hFsHl; exact orK_ok ok_linear noK_ok
 have hB : SoundB Try.prog [] := by subst hFsHl; exact noB_ok
 refine FnD_cbv (T := fun _ => tabY [] []) (H := fun _ => [kn_linear GFsHl]) (tabY_ok _ _) hH follows_mixed Try.func19 rfl Try.ntmps19 (by simp) fun A X W hA hX hW => ?_
 cbv
 have hop : GFsHl.linear xs = linR xs := by subst hFsHl; rfl
 have hE : GFsHl.isEv xs := by subst hFsHl; exact hev
 obtain ⟨a, b, hab⟩ : ∃ a b, linR xs = (a, b) := ⟨_, _, rfl⟩
 rw [hab] at hop
 obtain ⟨eb, t2⟩ : ∃ t, A.beq a want = t := ⟨_, rfl⟩
 have heb : eb = decide (a = want) := by rw [← t2]; subst hA; rfl
 have hr : isR want xs = (eb && b) := by unfold isR; rw [hab, heb]
 cbv at hop hE t2
 repeat first
  | (simp only [hop, t2]; cbv)
  | refine And.intro (by subst hA hX hFsHl; clear hH hB; first | exact trivial | exact rfl | (simp [A0]; done) | (intro q; exact q) | (intro q; simpa [A0] using q) | (intro _; trivial) | (show Region.lexB _ _ = true; kernel_rfl) | (show turnsB _ = true; kernel_rfl) | assumption | (intro _; assumption) | (intro _; rfl)) ?_
  | (refine pickL hX (t := true) (by rfl) rfl ?_; cbv)
  | (refine pickL hX (t := false) (by rfl) rfl ?_; cbv)
  | ((with_reducible refine callB hX hB ?_); cbv; fail_if_success show False)
 cases eb
 all_goals cbv
 all_goals
  repeat first
   | (simp only [hop, t2]; cbv)
   | refine And.intro (by subst hA hX hFsHl; clear hH hB; first | exact trivial | exact rfl | (simp [A0]; done) | (intro q; exact q) | (intro q; simpa [A0] using q) | (intro _; trivial) | (show Region.lexB _ _ = true; kernel_rfl) | (show turnsB _ = true; kernel_rfl) | assumption | (intro _; assumption) | (intro _; rfl)) ?_
   | (refine pickL hX (t := true) (by rfl) rfl ?_; cbv)
   | (refine pickL hX (t := false) (by rfl) rfl ?_; cbv)
   | ((with_reducible refine callB hX hB ?_); cbv; fail_if_success show False)
 all_goals subst hA hX hW
 all_goals rw [hr]
 all_goals exact ret_v (by cases b <;> rfl) rfl
def hA1 : List Ev := [evC putC, evR putC ⟨0, false, none8, 1, []⟩, evC getC, evR getC ⟨0, true, oneB2, 1, []⟩]
def hA2 : List Ev := [evC putC, evR putC ⟨0, false, none8, 1, []⟩, evC getC, evR getC zeroRep]
def hA3 : List Ev := [evC putC, evC getC, evR getC zeroRep]
def hA4 : List Ev := [evC putC, evC getC, evR getC ⟨0, true, oneB2, 1, []⟩]
end Go.Proofs.Ytadnpgkddgbhkaa
namespace Go.Proofs.Ytadnpgkddgbhkaa
open Go.RowKit Go.Maps
set_option linter.all false
noncomputable def linB (L : List Ev) : Nat → Int → List DV → Bool
 | 0, d, s => !leftF d L 0
 | n + 1, d, s => !leftF d L 0 || (List.range L.length).any fun i => mayL L i d && (fitR s (L.getD i default) && linB L n (orX d i) (applyS s (L.getD i default).c).1)
theorem linB_sound {L : List Ev} : ∀ (n : Nat) (d : Int) (s : List DV), linB L n d s = true → Lin L d s
 | 0, d, s, h => .done (by simpa [linB] using h)
 | n + 1, d, s, h => by
     rw [linB, Bool.or_eq_true] at h
     rcases h with h | h
     · exact .done (by simpa using h)
     · rw [List.any_eq_true] at h
       obtain ⟨i, hi, h⟩ := h
       simp only [Bool.and_eq_true] at h
       have hi2 := List.mem_range.1 hi
       exact .step (k := (i : Int)) (by omega) (by omega) h.1 h.2.1 (linB_sound n _ _ h.2.2)
theorem Lin.linB {L : List Ev} {d : Int} {s : List DV} (hL : L.length ≤ 12) (h : Lin L d s) : ∀ n0 : Nat, d = (n0 : Int) → n0 < 4096 → ∀ N, remN n0 ≤ N → linB L N d s = true := by
 induction h with
 | done h =>
   intro n0 _ _ N _
   cases N <;> simp [Go.Proofs.Ytadnpgkddgbhkaa.linB, h]
 | @step d s k k0 k1 hm hf _ ih =>
   intro n0 hd hn N hN
   have hb : n0.testBit k.toNat = false := by
    unfold mayL at hm
    rw [hd, bit_nat hn k0 (by omega)] at hm
    cases hb : n0.testBit k.toNat with
    | false => rfl
    | true => rw [hb] at hm; simp at hm
   have hlt := remN_or (n := n0) (k := k.toNat) (by omega) hb
   have ho := or_nat hn k0 (by omega : k < 12)
   obtain ⟨M, rfl⟩ : ∃ M, N = M + 1 := ⟨N - 1, by omega⟩
   have h2 := ih (n0 ||| 2 ^ k.toNat) (by rw [← ho, ← hd]) (or_lt hn (by omega)) M (by omega)
   rw [Go.Proofs.Ytadnpgkddgbhkaa.linB, Bool.or_eq_true, List.any_eq_true]
   have ek : ((k.toNat : Nat) : Int) = k := by omega
   refine .inr ⟨k.toNat, List.mem_range.2 (by omega), ?_⟩
   rw [ek, hm, hf, h2]
   rfl
theorem lin_iff {L : List Ev} {s : List DV} (hL : L.length ≤ 12) : Lin L 0 s ↔ linB L 12 0 s = true := ⟨fun h => h.linB hL 0 rfl (by decide) 12 (by decide), linB_sound 12 0 s⟩
def repC (a b : Reply) : Bool := decide (a.why = b.why) && (decide (a.found = b.found) && (decide (a.value = b.value) && (decide (a.version = b.version) && decide (pairsOf a.pairs = pairsOf b.pairs))))
theorem rep_c {a b : Reply} (ha : isP a.pairs) (hb : isP b.pairs) : repliesX a b = repC a b := by
 obtain ⟨ps, hps, _⟩ := ha
 obtain ⟨qs, hqs, _⟩ := hb
 obtain ⟨w, f, v, r, xs⟩ := a
 obtain ⟨w2, f2, v2, r2, ys⟩ := b
 replace hps : xs = pairsX ps := hps
 replace hqs : ys = pairsX qs := hqs
 subst hps hqs
 rw [Bool.eq_iff_iff, repliesX_iff]
 simp only [repC, Bool.and_eq_true, decide_eq_true_eq, pairsOf_X, Reply.mk.injEq, pairsX_inj]
noncomputable def linC (L : List Ev) : Nat → Int → List DV → Bool
 | 0, d, s => !leftF d L 0
 | n + 1, d, s => !leftF d L 0 || (List.range L.length).any fun i => mayL L i d && ((decide ((L.getD i default).b < 0) || repC (applyS s (L.getD i default).c).2 (L.getD i default).r) && linC L n (orX d i) (applyS s (L.getD i default).c).1)
theorem linB_C {L : List Ev} (hev : ∀ e ∈ L, isP e.r.pairs) : ∀ (n : Nat) (d : Int) (s : List DV) (j : Int), stOk j s → 0 ≤ j → j + n ≤ 1000 → linB L n d s = linC L n d s
 | 0, d, s, j, _, _, _ => rfl
 | n + 1, d, s, j, hs, h0, h1 => by
     rw [linB, linC]
     congr 1
     rw [Bool.eq_iff_iff, List.any_eq_true, List.any_eq_true]
     have key : ∀ i ∈ List.range L.length, (mayL L i d && (fitR s (L.getD i default) && linB L n (orX d i) (applyS s (L.getD i default).c).1)) = (mayL L i d && ((decide ((L.getD i default).b < 0) || repC (applyS s (L.getD i default).c).2 (L.getD i default).r) && linC L n (orX d i) (applyS s (L.getD i default).c).1)) := by
      intro i hi
      have hi2 := List.mem_range.1 hi
      have hm : L.getD i default ∈ L := by rw [List.getD_eq_getElem?_getD, List.getElem?_eq_getElem hi2]; exact List.getElem_mem _
      rw [linB_C hev n _ _ (j + 1) (hs.app h0 (by omega) _) (by omega) (by omega)]
      unfold fitR
      rw [rep_c (hs.rep h0 (by omega) _) (hev _ hm)]
     constructor
     · rintro ⟨i, hi, h⟩
       exact ⟨i, hi, (key i hi) ▸ h⟩
     · rintro ⟨i, hi, h⟩
       exact ⟨i, hi, (key i hi) ▸ h⟩
noncomputable def zSt : List DV := cellsS [] (List.replicate 8 ⟨0, zeroRep⟩)
theorem zSt_ok : stOk 0 zSt := ⟨[], _, rfl, zero_st⟩
theorem lin_run {l o : List Ev} {b : Bool} (ho : opsM l = some o) (hl : o.length ≤ 12) (hev : ∀ e ∈ o, isP e.r.pairs) (hb : linC o 12 0 zSt = b) : linR (evsX l) = (b, true) := by
 unfold linR linM
 rw [evsOf_X, ho]
 have h2 : ¬ 12 < o.length := by omega
 simp only [h2, if_false]
 congr 1
 refine cdec _ _ ?_
 rw [show cellsS [] (List.replicate 8 ⟨0, zeroRep⟩) = zSt from rfl, lin_iff hl, linB_C hev 12 0 zSt 0 zSt_ok (Int.le_refl 0) (by decide), hb]
noncomputable def ranC (o : List Ev) : List Int → Int → List Int → List DV → Option (List Int)
 | [], _, at_, _ => some at_
 | k :: r, i, at_, s => bif (decide (k < 0) || decide ((o.length : Int) ≤ k) || decide (at_.getD k.toNat 0 > 0)) then none
   else bif decide (0 ≤ (o.getD k.toNat default).b) && !repC (applyS s (o.getD k.toNat default).c).2 (o.getD k.toNat default).r then none
   else ranC o r (i + 1) (at_.set k.toNat (i + 1)) (applyS s (o.getD k.toNat default).c).1
theorem ranF_C {o : List Ev} (hev : ∀ e ∈ o, isP e.r.pairs) : ∀ (r : List Int) (i : Int) (at_ : List Int) (s : List DV) (j : Int), stOk j s → 0 ≤ j → j + r.length ≤ 1152921504606846976 → ranF o r i at_ s = ranC o r i at_ s
 | [], _, _, _, _, _, _, _ => rfl
 | k :: r, i, at_, s, j, hs, h0, h1 => by
     rw [List.length_cons] at h1
     rw [ranF, ranC]
     cases hb : (decide (k < 0) || decide ((o.length : Int) ≤ k) || decide (at_.getD k.toNat 0 > 0)) with
     | true => rfl
     | false =>
       simp only [Bool.or_eq_false_iff, decide_eq_false_iff_not] at hb
       have hm : o.getD k.toNat default ∈ o := by rw [List.getD_eq_getElem?_getD, List.getElem?_eq_getElem (by omega)]; exact List.getElem_mem _
       rw [cond_false, cond_false, rep_c (hs.rep h0 (by omega) _) (hev _ hm), ranF_C hev r (i + 1) _ _ (j + 1) (hs.app h0 (by omega) _) (by omega) (by omega)]
theorem fits_run {l o : List Ev} {r : List Int} {b : Bool} (ho : opsM l = some o) (hev : ∀ e ∈ o, isP e.r.pairs) (hr : r.length ≤ 1000) (hb : (match ranC o r 0 (List.replicate o.length 0) zSt with | none => false | some at_ => chkF o at_ o 0) = b) : fitsR (evsX l) (numsX r) = b := by
 unfold fitsR fitsM
 rw [evsOf_X, numsOf_X, ho]
 simp only []
 rw [show cellsS [] (List.replicate 8 ⟨0, zeroRep⟩) = zSt from rfl, ranF_C hev r 0 _ zSt 0 zSt_ok (Int.le_refl 0) (by omega)]
 exact hb
theorem noP {o : List Ev} (h : (o.all fun e => e.r.pairs.isEmpty) = true) : ∀ e ∈ o, isP e.r.pairs := fun e he => by
 rw [List.all_eq_true] at h
 rw [List.isEmpty_iff.1 (h e he)]
 exact isP.nil
def oA (l : List Ev) : List Ev := (opsM l).getD []
theorem run1 : linR (evsX hA1) = (true, true) := lin_run (o := oA hA1) (by rfl) (by decide) (noP (by kernel_rfl)) (by kernel_rfl)
theorem run2 : linR (evsX hA2) = (false, true) := lin_run (o := oA hA2) (by rfl) (by decide) (noP (by kernel_rfl)) (by kernel_rfl)
theorem run3 : linR (evsX hA3) = (true, true) := lin_run (o := oA hA3) (by rfl) (by decide) (noP (by kernel_rfl)) (by kernel_rfl)
theorem run4 : linR (evsX hA4) = (true, true) := lin_run (o := oA hA4) (by rfl) (by decide) (noP (by kernel_rfl)) (by kernel_rfl)
theorem run5 : fitsR (evsX hA4) (numsX [0, 1]) = true := fits_run (o := oA hA4) (by rfl) (noP (by kernel_rfl)) (by decide) (by kernel_rfl)
theorem run6 : fitsR (evsX hA4) (numsX [1, 0]) = false := fits_run (o := oA hA4) (by rfl) (noP (by kernel_rfl)) (by decide) (by kernel_rfl)
end Go.Proofs.Ytadnpgkddgbhkaa
namespace Go.Proofs.Ytadnpgkddgbhkaa
open Go.RowKit Go.Maps
set_option linter.all false
set_option maxHeartbeats 4000000
theorem opsF_lt : ∀ (l : List Ev) (i : Int) (out o : List Ev), OpsOk i out → 0 ≤ i → (∀ e ∈ l, isP e.r.pairs) → (∀ e ∈ out, e.b < 0 ∨ e.a < e.b) → opsF l i out = some o → ∀ e ∈ o, e.b < 0 ∨ e.a < e.b
 | [], i, out, o, _, _, _, h, hs => by
     simp only [opsF, Option.some.injEq] at hs
     subst hs
     exact h
 | x :: l, i, out, o, hok, h0, hp, h, hs => by
     rw [opsF] at hs
     cases h1 : evStep i out x with
     | none => rw [h1] at hs; cases hs
     | some o1 =>
       rw [h1] at hs
       refine opsF_lt l (i + 1) o1 o (hok.step h0 (hp x (by simp)) h1) (by omega) (fun y hy => hp y (by simp [hy])) (fun e he => ?_) hs
       rcases evStep_cases h1 with ⟨_, _, _, _, _, rfl⟩ | ⟨_, _, y, h3, _, _, rfl⟩
       · rcases List.mem_append.1 he with he | he
         · exact h e he
         · rw [List.mem_singleton] at he
           subst he
           exact .inl (by show (-1 : Int) < 0; omega)
       · rcases List.mem_or_eq_of_mem_set he with he | rfl
         · exact h e he
         · have := hok.ev y (List.mem_of_getElem? h3)
           exact .inr (by show y.a < i; omega)
theorem opsM_lt {l o : List Ev} (hp : ∀ e ∈ l, isP e.r.pairs) (h : opsM l = some o) : ∀ e ∈ o, e.b < 0 ∨ e.a < e.b := opsF_lt l 0 [] o OpsOk.nil (Int.le_refl 0) hp (fun e he => by cases he) h
theorem getDs {l : List Int} {j k : Nat} {v : Int} (h : k < l.length) : (l.set k v).getD j 0 = if j = k then v else l.getD j 0 := by
 simp only [List.getD_eq_getElem?_getD, List.getElem?_set]
 by_cases hj : k = j
 · subst hj; simp [h]
 · rw [if_neg hj, if_neg (fun e => hj e.symm)]
theorem ran_spec {o : List Ev} : ∀ (r : List Int) (i : Int) (at_ aF : List Int) (s : List DV), at_.length = o.length → 0 ≤ i → (∀ j, 0 ≤ at_.getD j 0) → ranF o r i at_ s = some aF → aF.length = o.length ∧ (∀ j, 0 < at_.getD j 0 → aF.getD j 0 = at_.getD j 0) ∧ (∀ j, at_.getD j 0 = 0 → aF.getD j 0 = 0 ∨ i < aF.getD j 0)
 | [], i, at_, aF, s, hl, _, _, h => by
     simp only [ranF, Option.some.injEq] at h
     subst h
     exact ⟨hl, fun _ _ => rfl, fun _ h => .inl h⟩
 | k :: r, i, at_, aF, s, hl, hi, hn, h => by
     rw [ranF] at h
     cases hb : (decide (k < 0) || decide ((o.length : Int) ≤ k) || decide (at_.getD k.toNat 0 > 0)) with
     | true => rw [hb] at h; cases h
     | false =>
       rw [hb, cond_false] at h
       simp only [Bool.or_eq_false_iff, decide_eq_false_iff_not] at hb
       cases hc : (decide (0 ≤ (o.getD k.toNat default).b) && !repliesX (applyS s (o.getD k.toNat default).c).2 (o.getD k.toNat default).r) with
       | true => rw [hc] at h; cases h
       | false =>
         rw [hc, cond_false] at h
         have hk : k.toNat < at_.length := by omega
         have hg := fun j => getDs (l := at_) (j := j) (v := i + 1) hk
         obtain ⟨h1, h2, h3⟩ := ran_spec r (i + 1) (at_.set k.toNat (i + 1)) aF _ (by rw [List.length_set]; exact hl) (by omega) (fun j => by rw [hg]; split; exact (by omega); exact hn j) h
         refine ⟨h1, fun j hj => ?_, fun j hj => ?_⟩
         · have hne : j ≠ k.toNat := by rintro rfl; exact hb.2 hj
           have e := hg j
           rw [if_neg hne] at e
           rw [h2 j (by rw [e]; exact hj), e]
         · have e := hg j
           by_cases hne : j = k.toNat
           · rw [if_pos hne] at e
             have := h2 j (by rw [e]; omega)
             rw [this, e]
             exact .inr (by omega)
           · rw [if_neg hne] at e
             rcases h3 j (by rw [e]; exact hj) with h4 | h4
             · exact .inl h4
             · exact .inr (by omega)
theorem chk1_iff {o : List Ev} {at_ : List Int} {ak : Int} {e : Ev} : ∀ (l : List Ev) (m : Nat), chk1 o at_ ak e l m = true ↔ ∀ (j : Nat) (b : Ev), l[j]? = some b → clB ak e b (at_.getD (m + j) 0) = false
 | [], m => by simp [chk1]
 | x :: l, m => by
     have ih := chk1_iff (o := o) (at_ := at_) (ak := ak) (e := e) l (m + 1)
     rw [chk1, Bool.and_eq_true, show ((m : Int) + 1) = ((m + 1 : Nat) : Int) by omega, ih, Int.toNat_natCast, Bool.not_eq_true']
     constructor
     · rintro ⟨h1, h2⟩ j b hj
       cases j with
       | zero => simp at hj; subst hj; exact h1
       | succ j => rw [show m + (j + 1) = m + 1 + j by omega]; exact h2 j b (by simpa using hj)
     · intro h
       refine ⟨h 0 x rfl, fun j b hj => ?_⟩
       rw [show m + 1 + j = m + (j + 1) by omega]
       exact h (j + 1) b (by simpa using hj)
theorem chkF_iff {o : List Ev} {at_ : List Int} : ∀ (l : List Ev) (m : Nat), chkF o at_ l m = true ↔ ∀ (j : Nat) (e : Ev), l[j]? = some e → ¬ (0 ≤ e.b ∧ at_.getD (m + j) 0 = 0) ∧ ∀ (q : Nat) (b : Ev), o[q]? = some b → clB (at_.getD (m + j) 0) e b (at_.getD q 0) = false
 | [], m => by simp [chkF]
 | x :: l, m => by
     have ih := chkF_iff (o := o) (at_ := at_) l (m + 1)
     have h1 : chk1 o at_ (at_.getD m 0) x o 0 = true ↔ ∀ (j : Nat) (b : Ev), o[j]? = some b → clB (at_.getD m 0) x b (at_.getD (0 + j) 0) = false := chk1_iff (o := o) (at_ := at_) (ak := at_.getD m 0) (e := x) o 0
     rw [chkF, Bool.and_eq_true, Bool.and_eq_true, show ((m : Int) + 1) = ((m + 1 : Nat) : Int) by omega, ih, Int.toNat_natCast, h1]
     simp only [Nat.zero_add]
     constructor
     · rintro ⟨a1, a2, a3⟩ j b hj
       cases j with
       | zero =>
         simp only [List.getElem?_cons_zero, Option.some.injEq] at hj
         subst hj
         refine ⟨fun hh => ?_, a2⟩
         simp [hh] at a1
         exact absurd hh.2 a1
       | succ j => rw [show m + (j + 1) = m + 1 + j by omega]; exact a3 j b (by simpa using hj)
     · intro h
       refine ⟨?_, (h 0 x rfl).2, fun j b hj => ?_⟩
       · have := (h 0 x rfl).1
         rw [Bool.not_eq_true', ← Bool.not_eq_true, Bool.and_eq_true, decide_eq_true_eq, decide_eq_true_eq]
         exact this
       · rw [show m + 1 + j = m + (j + 1) by omega]
         exact h (j + 1) b (by simpa using hj)
theorem clB_false {ak am : Int} {e b : Ev} : clB ak e b am = false ↔ ¬ (0 < ak ∧ 0 ≤ b.b ∧ b.b < e.a ∧ ak < am) := by
 rw [← Bool.not_eq_true]
 unfold clB
 simp only [Bool.and_eq_true, decide_eq_true_eq, gt_iff_lt, and_assoc]
theorem leftF_false {d : Int} : ∀ (l : List Ev) (k : Nat), (∀ (j : Nat) (e : Ev), l[j]? = some e → 0 ≤ e.b → bitX d ((k + j : Nat) : Int) ≠ 0) → leftF d l k = false
 | [], _, _ => rfl
 | x :: l, k, h => by
     have ih := leftF_false (d := d) l (k + 1) (fun j e hj hb => by
      have := h (j + 1) e (by simpa using hj) hb
      rwa [show k + 1 + j = k + (j + 1) by omega])
     rw [leftF, show ((k : Int) + 1) = ((k + 1 : Nat) : Int) by omega, ih, Bool.or_false, ← Bool.not_eq_true, Bool.and_eq_true, decide_eq_true_eq, decide_eq_true_eq]
     rintro ⟨h1, h2⟩
     exact h 0 x rfl h1 (by simpa using h2)
theorem mayF_true {e : Ev} {d : Int} : ∀ (l : List Ev) (k : Nat), (∀ (j : Nat) (b : Ev), l[j]? = some b → bitX d ((k + j : Nat) : Int) = 0 → ¬ (0 ≤ b.b ∧ b.b < e.a)) → mayF e d l k = true
 | [], _, _ => rfl
 | x :: l, k, h => by
     have ih := mayF_true (e := e) (d := d) l (k + 1) (fun j b hj hb => by
      refine h (j + 1) b (by simpa using hj) ?_
      rwa [show k + (j + 1) = k + 1 + j by omega])
     rw [mayF, show ((k : Int) + 1) = ((k + 1 : Nat) : Int) by omega, ih, if_neg]
     rw [Bool.and_eq_true, decide_eq_true_eq]
     rintro ⟨h1, h2⟩
     refine h 0 x rfl (by simpa using h1) ?_
     unfold aheadE at h2
     cases hb : decide (0 ≤ x.b) with
     | false => rw [hb] at h2; cases h2
     | true =>
       rw [hb, cond_true, decide_eq_true_eq] at h2
       exact ⟨of_decide_eq_true hb, h2⟩
theorem lin_of_ran {o : List Ev} (hL : o.length ≤ 12) (hlt : ∀ e ∈ o, e.b < 0 ∨ e.a < e.b) {aF : List Int} (hck : chkF o aF o 0 = true) : ∀ (r : List Int) (i : Int) (at_ : List Int) (s : List DV) (n : Nat), n < 4096 → (∀ j, j < 12 → (n.testBit j = true ↔ 0 < at_.getD j 0)) → (∀ j, 0 ≤ at_.getD j 0) → 0 ≤ i → at_.length = o.length → ranF o r i at_ s = some aF → Lin o (n : Int) s
 | [], i, at_, s, n, hn, hb, hp, hi, hl, h => by
     simp only [ranF, Option.some.injEq] at h
     subst h
     refine .done (leftF_false o 0 fun j e hj he => ?_)
     have hj2 := (List.getElem?_eq_some_iff.1 hj).1
     have h1 := ((chkF_iff o 0).1 hck j e hj).1
     rw [Nat.zero_add] at h1 ⊢
     have h2 : 0 < at_.getD j 0 := by
      have := hp j
      rcases Int.lt_or_eq_of_le this with h3 | h3
      · exact h3
      · exact absurd ⟨he, h3.symm⟩ h1
     rw [bit_nat hn (by omega) (by omega), Int.toNat_natCast, (hb j (by omega)).2 h2]
     decide
 | k :: r, i, at_, s, n, hn, hb, hp, hi, hl, h => by
     have h0 := h
     rw [ranF] at h
     cases hbb : (decide (k < 0) || decide ((o.length : Int) ≤ k) || decide (at_.getD k.toNat 0 > 0)) with
     | true => rw [hbb] at h; cases h
     | false =>
       rw [hbb, cond_false] at h
       simp only [Bool.or_eq_false_iff, decide_eq_false_iff_not] at hbb
       cases hc : (decide (0 ≤ (o.getD k.toNat default).b) && !repliesX (applyS s (o.getD k.toNat default).c).2 (o.getD k.toNat default).r) with
       | true => rw [hc] at h; cases h
       | false =>
         rw [hc, cond_false] at h
         have hk : k.toNat < at_.length := by omega
         have hko : k.toNat < o.length := by omega
         have hg := fun j => getDs (l := at_) (j := j) (v := i + 1) hk
         obtain ⟨e, he⟩ : ∃ e, o[k.toNat]? = some e := ⟨_, List.getElem?_eq_getElem hko⟩
         have hed : o.getD k.toNat default = e := by rw [List.getD_eq_getElem?_getD, he]; rfl
         have hpn : ∀ j, 0 ≤ (at_.set k.toNat (i + 1)).getD j 0 := fun j => by rw [hg]; split; exact (by omega); exact hp j
         obtain ⟨_, g2, g3⟩ := ran_spec r (i + 1) _ aF _ (by rw [List.length_set]; exact hl) (by omega) hpn h
         have hfk : aF.getD k.toNat 0 = i + 1 := by
          have e1 := hg k.toNat
          rw [if_pos rfl] at e1
          rw [g2 _ (by rw [e1]; omega), e1]
         have hbk : n.testBit k.toNat = false := by
          rw [← Bool.not_eq_true, hb _ (by omega)]
          exact hbb.2
         obtain ⟨hc1, hc2⟩ := (chkF_iff o 0).1 hck k.toNat e he
         rw [Nat.zero_add, hfk] at hc2
         have hmay : mayL o k n = true := by
          unfold mayL
          rw [bit_nat hn (by omega) (by omega), hbk, if_neg (by decide), hed]
          refine mayF_true o 0 fun j b hj h5 => ?_
          have hj2 := (List.getElem?_eq_some_iff.1 hj).1
          rw [Nat.zero_add, bit_nat hn (by omega) (by omega), Int.toNat_natCast] at h5
          have h6 : n.testBit j = false := by
           cases hx : n.testBit j with
           | false => rfl
           | true => rw [hx] at h5; simp at h5
          rintro ⟨h7, h8⟩
          have hjk : j ≠ k.toNat := by
           rintro rfl
           rw [he, Option.some.injEq] at hj
           subst hj
           rcases hlt e (List.mem_of_getElem? he) with h9 | h9 <;> omega
          have hz : at_.getD j 0 = 0 := by
           have := hp j
           have h10 : ¬ 0 < at_.getD j 0 := fun q => by rw [(hb j (by omega)).2 q] at h6; cases h6
           omega
          have hz2 := hg j
          rw [if_neg hjk, hz] at hz2
          have h11 := ((chkF_iff o 0).1 hck j b hj).1
          rw [Nat.zero_add] at h11
          have h12 := clB_false.1 (hc2 j b hj)
          rcases g3 j hz2 with h13 | h13
          · exact h11 ⟨h7, h13⟩
          · exact h12 ⟨by omega, h7, h8, by omega⟩
         have hfit : fitR s (o.getD k.toNat default) = true := by
          unfold fitR
          rw [Bool.and_eq_false_iff] at hc
          rcases hc with hc | hc
          · have := of_decide_eq_false hc
            rw [decide_eq_true (by omega)]
            rfl
          · rw [Bool.not_eq_false'] at hc
            rw [hc, Bool.or_true]
         refine .step (k := k) (by omega) (by omega) hmay hfit ?_
         rw [or_nat hn (by omega) (by omega)]
         refine lin_of_ran hL hlt hck r (i + 1) _ _ _ (or_lt hn (by omega)) (fun j hj => ?_) hpn (by omega) (by rw [List.length_set]; exact hl) h
         rw [Nat.testBit_or, Nat.testBit_two_pow, Bool.or_eq_true, decide_eq_true_eq, hb j hj, hg j]
         by_cases hjk : j = k.toNat
         · rw [if_pos hjk]
           exact ⟨fun _ => by omega, fun _ => .inr hjk.symm⟩
         · rw [if_neg hjk]
           exact ⟨fun hh => hh.resolve_right (fun q => hjk q.symm), .inl⟩
theorem zeros_getD (n j : Nat) : (List.replicate n (0 : Int)).getD j 0 = 0 := by
 rw [List.getD_eq_getElem?_getD, List.getElem?_replicate]
 split <;> rfl
theorem lin_of_fits {l o : List Ev} {r : List Int} (hp : ∀ e ∈ l, isP e.r.pairs) (ho : opsM l = some o) (hL : o.length ≤ 12) (hf : fitsM l r = true) : Lin o 0 zSt := by
 unfold fitsM at hf
 rw [ho] at hf
 simp only [] at hf
 cases hr : ranF o r 0 (List.replicate o.length 0) (cellsS [] (List.replicate 8 ⟨0, zeroRep⟩)) with
 | none => rw [hr] at hf; cases hf
 | some aF =>
   rw [hr] at hf
   exact lin_of_ran hL (opsM_lt hp ho) hf r 0 _ _ 0 (by decide) (fun j _ => by rw [zeros_getD]; simp) (fun j => by rw [zeros_getD]; exact Int.le_refl 0) (Int.le_refl 0) (by simp) hr
theorem linM_of {l o : List Ev} (ho : opsM l = some o) (hL : o.length ≤ 12) (h : Lin o 0 zSt) : linM l = (true, true) := by
 unfold linM
 rw [ho]
 have h2 : ¬ 12 < o.length := by omega
 simp only [h2, if_false]
 congr 1
 exact cdec _ _ ⟨fun _ => h, fun _ => rfl⟩
end Go.Proofs.Ytadnpgkddgbhkaa
namespace Go.Proofs.Ytadnpgkddgbhkaa
open Go.RowKit Go.Maps
set_option linter.all false
set_option maxHeartbeats 4000000
structure MOp where
 cl : Int
 wait : Int
 c : Cmd
 ret : Bool
 lie : Bool
structure MSt where
 s : List DV
 n : Int
 opn : List Int
 seq : List Int
 cmds : List Cmd
 told : List Reply
 out : List Ev
 ord : List Int
def mK (x : MOp) : Nat := (x.cl % 8).toNat
theorem mK_lt (x : MOp) : mK x < 8 := by unfold mK; omega
def mCmd (st : MSt) (x : MOp) : Cmd := ⟨x.c.kind, (mK x : Int) + 1, st.seq.getD (mK x) 0 + 1, x.c.key, x.c.fin, x.c.old, x.c.val⟩
def lieV (x : MOp) (v : Int) : Int := bif x.lie then IntKind.wrap .i64 (IntKind.wrap .i64 (v + 1) + bitsV IntKind.i64 (· &&& ·) x.wait 1) else v
def mRep (st : MSt) (x : MOp) : Reply := ⟨(st.told.getD (mK x) zeroRep).why, (st.told.getD (mK x) zeroRep).found, (st.told.getD (mK x) zeroRep).value, lieV x (st.told.getD (mK x) zeroRep).version, (st.told.getD (mK x) zeroRep).pairs⟩
noncomputable def mCall (st : MSt) (x : MOp) : MSt := { st with n := st.n + 1, opn := st.opn.set (mK x) (st.n + 1), seq := st.seq.set (mK x) (st.seq.getD (mK x) 0 + 1), cmds := st.cmds.set (mK x) (mCmd st x), out := st.out ++ [evC (mCmd st x)] }
noncomputable def mDo (st : MSt) (x : MOp) : MSt := { st with s := (applyS st.s (st.cmds.getD (mK x) .zero)).1, told := st.told.set (mK x) (applyS st.s (st.cmds.getD (mK x) .zero)).2, ord := st.ord ++ [st.opn.getD (mK x) 0 - 1], opn := st.opn.set (mK x) (-1) }
noncomputable def mRet (st : MSt) (x : MOp) : MSt := { st with out := st.out ++ [evR (st.cmds.getD (mK x) .zero) (mRep st x)], opn := st.opn.set (mK x) 0 }
noncomputable def mstep (st : MSt) (x : MOp) : MSt :=
 bif decide (st.opn.getD (mK x) 0 = 0) then (bif rightC (mCmd st x) && !decide (x.c.kind = 0) then mCall st x else st)
 else bif decide (0 < st.opn.getD (mK x) 0) then mDo st x
 else bif x.ret then mRet st x else st
noncomputable def madeF : List MOp → MSt → MSt
 | [], st => st
 | x :: l, st => bif decide (st.n < 12) then madeF l (mstep st x) else st
noncomputable def mZero : MSt := ⟨zSt, 0, List.replicate 8 0, List.replicate 8 0, List.replicate 8 .zero, List.replicate 8 zeroRep, [], []⟩
theorem getD_set' {α : Type} {l : List α} {k j : Nat} {v d : α} (h : k < l.length) : (l.set k v).getD j d = if j = k then v else l.getD j d := by
 simp only [List.getD_eq_getElem?_getD, List.getElem?_set]
 by_cases hj : k = j
 · subst hj; simp [h]
 · rw [if_neg hj, if_neg (fun e => hj e.symm)]
structure MB (i : Int) (st : MSt) : Prop where
 lo : st.opn.length = 8
 ls : st.seq.length = 8
 lc : st.cmds.length = 8
 lt : st.told.length = 8
 n0 : 0 ≤ st.n
 n12 : st.n ≤ 12
 ob : ∀ k, -1 ≤ st.opn.getD k 0 ∧ st.opn.getD k 0 ≤ st.n
 sb : ∀ k, 0 ≤ st.seq.getD k 0 ∧ st.seq.getD k 0 ≤ st.n
 ok : ∃ j, 0 ≤ j ∧ j ≤ i ∧ stOk j st.s
 ev : ∀ e ∈ st.out, (e.a = 1 ∨ e.a = 2) ∧ (1 ≤ e.b ∧ e.b ≤ 8) ∧ (1 ≤ e.c.client ∧ e.c.client ≤ 8) ∧ isP e.r.pairs
 len : (st.out.length : Int) ≤ i
 told : ∀ k, isP (st.told.getD k zeroRep).pairs
 cli : ∀ k, k < 8 → st.opn.getD k 0 ≠ 0 → (st.cmds.getD k .zero).client = (k : Int) + 1
 cnt : ((st.out.filter fun e => decide (e.a = 1)).length : Int) = st.n
 oln : (st.ord.length : Int) ≤ i
 obd : ∀ p ∈ st.ord, 0 ≤ p ∧ p < st.n
theorem repl_getD {α : Type} (n k : Nat) (d : α) : (List.replicate n d).getD k d = d := by
 rw [List.getD_eq_getElem?_getD, List.getElem?_replicate]
 split <;> rfl
theorem mZ1 {a : Int} (h : a = 0) : -1 ≤ a ∧ a ≤ 0 := by omega
theorem mZ2 {a : Int} (h : a = 0) : 0 ≤ a ∧ a ≤ 0 := by omega
theorem mZero_ok : MB 0 mZero := ⟨rfl, rfl, rfl, rfl, Int.le_refl 0, by show (0 : Int) ≤ 12; omega, fun k => mZ1 (repl_getD 8 k 0), fun k => mZ2 (repl_getD 8 k 0), ⟨0, Int.le_refl 0, Int.le_refl 0, zSt_ok⟩, fun e he => (by cases he), Int.le_refl 0, fun k => (congrArg (fun r : Reply => isP r.pairs) (repl_getD 8 k zeroRep)).mpr isP.nil, fun k _ h => absurd (repl_getD 8 k 0) h, rfl, Int.le_refl 0, fun p hp => by cases hp⟩
theorem MB.more {i : Int} {st : MSt} (h : MB i st) : MB (i + 1) st := by
 obtain ⟨j, j0, j1, j2⟩ := h.ok
 exact ⟨h.lo, h.ls, h.lc, h.lt, h.n0, h.n12, h.ob, h.sb, ⟨j, j0, by omega, j2⟩, h.ev, by have := h.len; omega, h.told, h.cli, h.cnt, by have := h.oln; omega, h.obd⟩
theorem MB.call {i : Int} {st : MSt} (h : MB i st) {x : MOp} (hn : st.n < 12) : MB (i + 1) (mCall st x) := by
 obtain ⟨j, j0, j1, j2⟩ := h.ok
 have hk := mK_lt x
 have ho : ∀ q, (mCall st x).opn.getD q 0 = if q = mK x then st.n + 1 else st.opn.getD q 0 := fun q => getD_set' (by rw [h.lo]; exact hk)
 have hs : ∀ q, (mCall st x).seq.getD q 0 = if q = mK x then st.seq.getD (mK x) 0 + 1 else st.seq.getD q 0 := fun q => getD_set' (by rw [h.ls]; exact hk)
 have hc : ∀ q, (mCall st x).cmds.getD q .zero = if q = mK x then mCmd st x else st.cmds.getD q .zero := fun q => getD_set' (by rw [h.lc]; exact hk)
 have h0 := h.n0
 refine ⟨(List.length_set ..).trans h.lo, (List.length_set ..).trans h.ls, (List.length_set ..).trans h.lc, h.lt, by show 0 ≤ st.n + 1; omega, by show st.n + 1 ≤ 12; omega, fun q => ?_, fun q => ?_, ⟨j, j0, by omega, j2⟩, fun e he => ?_, ?_, h.told, fun q hq hne => ?_, ?_, by have := h.oln; show (st.ord.length : Int) ≤ i + 1; omega, fun p hp => ?_⟩
 · rw [ho]
   have := h.ob q
   show _ ∧ _ ≤ st.n + 1
   split <;> omega
 · rw [hs]
   have := h.sb q
   have := h.sb (mK x)
   show _ ∧ _ ≤ st.n + 1
   split <;> omega
 · rcases List.mem_append.1 he with he | he
   · exact h.ev e he
   · rw [List.mem_singleton] at he
     subst he
     exact ⟨.inl rfl, ⟨by show 1 ≤ (mK x : Int) + 1; omega, by show (mK x : Int) + 1 ≤ 8; omega⟩, ⟨by show 1 ≤ (mK x : Int) + 1; omega, by show (mK x : Int) + 1 ≤ 8; omega⟩, isP.nil⟩
 · have := h.len
   show ((st.out ++ [_]).length : Int) ≤ _
   rw [List.length_append, List.length_singleton]
   omega
 · rw [hc]
   rw [ho] at hne
   by_cases hq2 : q = mK x
   · rw [if_pos hq2, hq2]; rfl
   · rw [if_neg hq2] at hne ⊢
     exact h.cli q hq hne
 · have := h.cnt
   show (((st.out ++ [_]).filter _).length : Int) = st.n + 1
   rw [List.filter_append, List.length_append]
   show ((_ + 1 : Nat) : Int) = _
   omega
 · have := h.obd p hp
   exact ⟨this.1, by show p < st.n + 1; omega⟩
theorem MB.do {i : Int} {st : MSt} (h : MB i st) (hi : i ≤ 1048576) {x : MOp} (hpos : 0 < st.opn.getD (mK x) 0) : MB (i + 1) (mDo st x) := by
 obtain ⟨j, j0, j1, j2⟩ := h.ok
 have hk := mK_lt x
 have ho : ∀ q, (mDo st x).opn.getD q 0 = if q = mK x then -1 else st.opn.getD q 0 := fun q => getD_set' (by rw [h.lo]; exact hk)
 have ht : ∀ q, (mDo st x).told.getD q zeroRep = if q = mK x then (applyS st.s (st.cmds.getD (mK x) .zero)).2 else st.told.getD q zeroRep := fun q => getD_set' (by rw [h.lt]; exact hk)
 have h0 := h.n0
 refine ⟨(List.length_set ..).trans h.lo, h.ls, h.lc, (List.length_set ..).trans h.lt, h.n0, h.n12, fun q => ?_, h.sb, ⟨j + 1, by omega, by omega, j2.app j0 (by omega) _⟩, h.ev, by have := h.len; show (st.out.length : Int) ≤ i + 1; omega, fun q => ?_, fun q hq hne => ?_, h.cnt, ?_, fun p hp => ?_⟩
 · rw [ho]
   have := h.ob q
   show _ ∧ _ ≤ st.n
   split <;> omega
 · rw [ht]
   split
   · exact j2.rep j0 (by omega) _
   · exact h.told q
 · rw [ho] at hne
   by_cases hq2 : q = mK x
   · rw [hq2]
     exact h.cli (mK x) hk (by omega)
   · rw [if_neg hq2] at hne
     exact h.cli q hq hne
 · have := h.oln
   show ((st.ord ++ [_]).length : Int) ≤ _
   rw [List.length_append, List.length_singleton]
   omega
 · rcases List.mem_append.1 hp with hp | hp
   · exact h.obd p hp
   · rw [List.mem_singleton] at hp
     subst hp
     have := h.ob (mK x)
     exact ⟨by omega, by show _ < st.n; omega⟩
theorem MB.ret {i : Int} {st : MSt} (h : MB i st) {x : MOp} (hne0 : st.opn.getD (mK x) 0 ≠ 0) : MB (i + 1) (mRet st x) := by
 obtain ⟨j, j0, j1, j2⟩ := h.ok
 have hk := mK_lt x
 have ho : ∀ q, (mRet st x).opn.getD q 0 = if q = mK x then 0 else st.opn.getD q 0 := fun q => getD_set' (by rw [h.lo]; exact hk)
 have h0 := h.n0
 have hcl := h.cli (mK x) hk hne0
 refine ⟨(List.length_set ..).trans h.lo, h.ls, h.lc, h.lt, h.n0, h.n12, fun q => ?_, h.sb, ⟨j, j0, by omega, j2⟩, fun e he => ?_, ?_, h.told, fun q hq hne => ?_, ?_, by have := h.oln; show (st.ord.length : Int) ≤ i + 1; omega, h.obd⟩
 · rw [ho]
   have := h.ob q
   show _ ∧ _ ≤ st.n
   split <;> omega
 · rcases List.mem_append.1 he with he | he
   · exact h.ev e he
   · rw [List.mem_singleton] at he
     subst he
     refine ⟨.inr rfl, ?_, ?_, h.told _⟩
     · show 1 ≤ (st.cmds.getD (mK x) .zero).client ∧ (st.cmds.getD (mK x) .zero).client ≤ 8
       omega
     · show 1 ≤ (st.cmds.getD (mK x) .zero).client ∧ (st.cmds.getD (mK x) .zero).client ≤ 8
       omega
 · have := h.len
   show ((st.out ++ [_]).length : Int) ≤ _
   rw [List.length_append, List.length_singleton]
   omega
 · rw [ho] at hne
   by_cases hq2 : q = mK x
   · rw [if_pos hq2] at hne
     exact absurd rfl hne
   · rw [if_neg hq2] at hne
     exact h.cli q hq hne
 · have := h.cnt
   show (((st.out ++ [_]).filter _).length : Int) = st.n
   rw [List.filter_append, List.length_append]
   show ((_ + 0 : Nat) : Int) = _
   omega
theorem MB.step {i : Int} {st : MSt} (h : MB i st) (hi : i ≤ 1048576) {x : MOp} (hn : st.n < 12) : MB (i + 1) (mstep st x) := by
 unfold mstep
 cases h1 : decide (st.opn.getD (mK x) 0 = 0) with
 | true =>
   rw [cond_true]
   cases h2 : rightC (mCmd st x) && !decide (x.c.kind = 0) with
   | true => exact h.call hn
   | false => exact h.more
 | false =>
   have h1 := of_decide_eq_false h1
   rw [cond_false]
   cases h2 : decide (0 < st.opn.getD (mK x) 0) with
   | true => exact h.do hi (of_decide_eq_true h2)
   | false =>
     rw [cond_false]
     cases h3 : x.ret with
     | true => exact h.ret h1
     | false => exact h.more
theorem MB.made : ∀ (l : List MOp) (i : Int) (st : MSt), MB i st → 0 ≤ i → i + l.length ≤ 1048576 → MB (i + l.length) (madeF l st)
 | [], i, st, h, h0, hi => by rw [madeF]; simpa using h
 | x :: l, i, st, h, h0, hi => by
     rw [List.length_cons] at hi ⊢
     rw [madeF, show i + ((l.length + 1 : Nat) : Int) = i + 1 + (l.length : Int) by omega]
     cases hn : decide (st.n < 12) with
     | true => exact MB.made l (i + 1) _ (h.step (by omega) (of_decide_eq_true hn)) (by omega) (by omega)
     | false =>
       rw [cond_false]
       have key : ∀ (m : Nat) (i : Int), MB i st → MB (i + m) st := by
        intro m
        induction m with
        | zero => intro i h; simpa using h
        | succ m ih => intro i h; have := ih (i + 1) h.more; rwa [show i + 1 + (m : Int) = i + ((m + 1 : Nat) : Int) by omega] at this
       exact key _ _ h.more
theorem opsF_len : ∀ (l : List Ev) (i : Int) (out o : List Ev), opsF l i out = some o → o.length = out.length + (l.filter fun e => decide (e.a = 1)).length
 | [], i, out, o, h => by
     simp only [opsF, Option.some.injEq] at h
     subst h; rfl
 | e :: l, i, out, o, h => by
     rw [opsF] at h
     cases h1 : evStep i out e with
     | none => rw [h1] at h; cases h
     | some o1 =>
       rw [h1] at h
       rw [opsF_len l _ _ _ h]
       rcases evStep_cases h1 with ⟨_, ha, _, _, _, rfl⟩ | ⟨_, ha, y, _, _, _, rfl⟩
       · simp [List.filter_cons, ha]; omega
       · simp [List.filter_cons, ha]
theorem MB.o12 {i : Int} {st : MSt} (h : MB i st) {o : List Ev} (ho : opsM st.out = some o) : (o.length : Int) = st.n := by
 have := opsF_len _ _ _ _ ho
 have h2 := h.cnt
 rw [this, List.length_nil, Nat.zero_add]
 exact h2
theorem MB.pairs {i : Int} {st : MSt} (h : MB i st) : ∀ e ∈ st.out, isP e.r.pairs := fun e he => (h.ev e he).2.2.2
theorem MB.isEv {i : Int} {st : MSt} (h : MB i st) (hi : i ≤ 1048576) : isEv (evsX st.out) := ⟨st.out, rfl, by have := h.len; omega, fun e he => by
 have := h.ev e he
 exact ⟨by unfold r64; omega, by unfold r64; omega, by unfold r64; omega, this.2.2.2⟩⟩
theorem MB.fits {i : Int} {st : MSt} (h : MB i st) {r : List Int} (hf : fitsM st.out r = true) : linM st.out = (true, true) := by
 cases ho : opsM st.out with
 | none => unfold fitsM at hf; rw [ho] at hf; cases hf
 | some o =>
   have hl : o.length ≤ 12 := by have := h.o12 ho; have := h.n12; omega
   exact linM_of ho hl (lin_of_fits h.pairs ho hl hf)
end Go.Proofs.Ytadnpgkddgbhkaa
namespace Go.Proofs.Ytadnpgkddgbhkaa
open Go.RowKit Go.Maps
set_option linter.all false
set_option maxHeartbeats 4000000
def MOp.row (x : MOp) : List PD := [.sc (.int .i64 x.cl), .sc (.int .i64 x.wait)] ++ x.c.row ++ [.sc (.bool x.ret), .sc (.bool x.lie)]
def mopsX (l : List MOp) : List (List PD) := l.map MOp.row
def isMops (xs : List (List PD)) : Prop := ∃ l, xs = mopsX l ∧ l.length ≤ 1048575 ∧ ∀ x ∈ l, r64 x.cl
theorem mopsX_len (l : List MOp) : (mopsX l).length = l.length := by simp [mopsX]
theorem mrow {xs : List (List PD)} {l : List MOp} (hxs : xs = mopsX l) {i : Int} (h0 : 0 ≤ i) (h1 : i < l.length) : xs.getD i.toNat [] = (l[i.toNat]'(by omega)).row := by
 subst hxs
 have : i.toNat < l.length := by omega
 simp [mopsX, List.getD_eq_getElem?_getD, this]
def flatC {α : Type} (f : α → List DV) (l : List α) : List DV := (l.map f).flatten
theorem flatC_len {α : Type} {f : α → List DV} {sz : Nat} (hf : ∀ a, (f a).length = sz) : ∀ l : List α, (flatC f l).length = l.length * sz
 | [] => by simp [flatC]
 | a :: l => by
     show (f a ++ flatC f l).length = _
     rw [List.length_append, hf, flatC_len hf l, List.length_cons, Nat.add_mul]
     omega
theorem flatC_row {α : Type} {f : α → List DV} {sz : Nat} (hf : ∀ a, (f a).length = sz) : ∀ (l : List α) (j : Nat) (h : j < l.length), (flatC f l).drop (j * sz) = f l[j] ++ flatC f (l.drop (j + 1))
 | [], j, h => by cases h
 | a :: l, 0, h => by rw [Nat.zero_mul]; rfl
 | a :: l, j + 1, h => by
     have h2 : j < l.length := by simpa using h
     show (f a ++ flatC f l).drop ((j + 1) * sz) = _
     rw [show (j + 1) * sz = (f a).length + j * sz by rw [hf, Nat.add_mul]; omega, ← List.drop_drop, List.drop_left]
     exact flatC_row hf l j h2
theorem flatC_take {α : Type} {f : α → List DV} {sz : Nat} (hf : ∀ a, (f a).length = sz) {l : List α} {j : Nat} (h : j < l.length) : ((flatC f l).drop (j * sz)).take sz = f l[j] := by
 rw [flatC_row hf l j h, List.take_append_of_le_length (by rw [hf]; exact Nat.le_refl _), List.take_of_length_le (by rw [hf]; exact Nat.le_refl _)]
theorem flatC_get {α : Type} {f : α → List DV} {sz : Nat} (hf : ∀ a, (f a).length = sz) {l : List α} {j : Nat} (h : j < l.length) {m : Nat} (hm : m < sz) : (flatC f l)[j * sz + m]? = (f l[j])[m]? := by
 rw [← List.getElem?_drop, flatC_row hf l j h, List.getElem?_append_left (by rw [hf]; exact hm)]
theorem flatC_app {α : Type} (f : α → List DV) (a b : List α) : flatC f (a ++ b) = flatC f a ++ flatC f b := by simp [flatC]
theorem flatC_spl {α : Type} {f : α → List DV} {sz : Nat} (hf : ∀ a, (f a).length = sz) {l : List α} {j : Nat} (h : j < l.length) (a : α) : splice (flatC f l) (j * sz) (f a) = flatC f (l.set j a) := by
 have e1 : flatC f l = flatC f (l.take j) ++ (f l[j] ++ flatC f (l.drop (j + 1))) := by
  have e : l = l.take j ++ (l[j] :: l.drop (j + 1)) := by rw [← List.drop_eq_getElem_cons, List.take_append_drop]
  conv => lhs; rw [e, flatC_app]
  rfl
 have e2 : flatC f (l.set j a) = flatC f (l.take j) ++ (f a ++ flatC f (l.drop (j + 1))) := by
  rw [List.set_eq_take_append_cons_drop, if_pos h, flatC_app]
  rfl
 have e3 : j * sz = (flatC f (l.take j)).length + 0 := by rw [flatC_len hf, List.length_take, Nat.min_eq_left (by omega)]; rfl
 rw [e1, e2, e3, splice_mid _ _ _ _ _ (by rw [hf, hf]; omega)]
 congr 2
 simp [splice, hf]
theorem flatC_closed {α : Type} {f : α → List DV} (hf : ∀ a, closedL 0 (f a) = true) (κ : List Nat) (hp : ∀ a, pullL κ (f a) = f a) : ∀ l : List α, pullL κ (flatC f l) = flatC f l := by
 intro l
 rw [pullL_eq]
 induction l with
 | nil => rfl
 | cons a l ih =>
   show (f a ++ flatC f l).map _ = _
   rw [List.map_append, ih, ← pullL_eq, hp]
   rfl
def cmdC (c : Cmd) : List DV := [.d (.sc (.int .i64 c.kind)), .d (.sc (.int .i64 c.client)), .d (.sc (.int .i64 c.seq)), .d (.sc (.string c.key)), .d (.sc (.string c.fin)), .d (.sc (.string c.old)), .d (.sc (.string c.val))]
def repC5 (r : Reply) : List DV := [.d (.sc (.int .i64 r.why)), .d (.sc (.bool r.found)), .d (.sc (.string r.value)), .d (.sc (.int .i64 r.version)), .d (.slc 3 r.pairs)]
theorem cmdC_len (c : Cmd) : (cmdC c).length = 7 := rfl
theorem repC5_len (c : Reply) : (repC5 c).length = 5 := rfl
theorem cmdsC_pull (κ : List Nat) (l : List Cmd) : pullL κ (flatC cmdC l) = flatC cmdC l := flatC_closed (fun _ => rfl) κ (fun _ => rfl) l
theorem repsC_pull (κ : List Nat) (l : List Reply) : pullL κ (flatC repC5 l) = flatC repC5 l := flatC_closed (fun _ => rfl) κ (fun _ => rfl) l
def ordV : Nat → Nat → Nat → DV
 | 0, _, _ => .d (.sc (.slice none 0 0))
 | n + 1, b, v => .view 1 b v 0 (n + 1)
def ordB : Nat → List DV → Nat → Store
 | 0, _, _ => []
 | n + 1, dc, v => [⟨3, dc, true, v, true⟩]
def outB2 : Nat → List DV → Nat → Store
 | 0, _, _ => []
 | n + 1, dc, v => [⟨50, dc, true, v, true⟩]
noncomputable def madeM (l : List MOp) : List Ev × List Int := ((madeF l mZero).out, (madeF l mZero).ord)
def mopOf (r : List PD) : MOp := match r with
 | [.sc (.int _ a), .sc (.int _ w), .sc (.int _ k), .sc (.int _ c), .sc (.int _ q), .sc (.string x1), .sc (.string x2), .sc (.string x3), .sc (.string x4), .sc (.bool r), .sc (.bool l)] => ⟨a, w, ⟨k, c, q, x1, x2, x3, x4⟩, r, l⟩
 | _ => ⟨0, 0, .zero, false, false⟩
def mopsOf (xs : List (List PD)) : List MOp := xs.map mopOf
theorem mopsOf_X : ∀ l : List MOp, mopsOf (mopsX l) = l
 | [] => rfl
 | x :: l => by show mopOf x.row :: mopsOf (mopsX l) = _; rw [mopsOf_X l]; rfl
noncomputable def madeR (xs : List (List PD)) : List (List PD) × List (List PD) := (evsX (madeM (mopsOf xs)).1, numsX (madeM (mopsOf xs)).2)
end Go.Proofs.Ytadnpgkddgbhkaa
namespace Go.Proofs.Ytadnpgkddgbhkaa
open Go.RowKit Go.Maps
set_option linter.all false
set_option maxHeartbeats 8000000
def lcallH (c : Cmd) : HOp := (evC c).op
def lbackH (c : Cmd) (r : Reply) : HOp := (evR c r).op
theorem v_lcallH (c : Cmd) : FnV Try.prog 20 [Cmd.D c] (HOp.D (lcallH c)) := v_lcall c
theorem v_lbackH (c : Cmd) (r : Reply) : FnV Try.prog 22 [Cmd.D c, Reply.D r] (HOp.D (lbackH c r)) := v_lback c r
structure FsHz where
 lput : Cmd
 lget : Cmd
 lcallH : Cmd → HOp
 lbackH : Cmd → Reply → HOp
 lis : Bool → List (List PD) → Bool
 isP : List (List PD) → Prop
 isEv : List (List PD) → Prop
noncomputable def FsHz0 : FsHz where
 lput := putC
 lget := getC
 lcallH := lcallH
 lbackH := lbackH
 lis := isR
 isP := isP
 isEv := isEv
def kn_lput (F : FsHz) : FuncId × (List DV → RV) := (21, fun args => match args with
 | [] => some ([], Cmd.D F.lput)
 | _ => none)
theorem ok_lput (args : List DV) (cs : List Prop) (r : DV) (h : (kn_lput FsHz0).2 args = some (cs, r)) (hc : allP cs True) : FnV Try.prog 21 args r ∧ closedL 0 args = true := by
 unfold kn_lput at h
 simp only at h
 split at h
 · cases h; exact ⟨v_lput, rfl⟩
 · cases h
def kn_lget (F : FsHz) : FuncId × (List DV → RV) := (23, fun args => match args with
 | [] => some ([], Cmd.D F.lget)
 | _ => none)
theorem ok_lget (args : List DV) (cs : List Prop) (r : DV) (h : (kn_lget FsHz0).2 args = some (cs, r)) (hc : allP cs True) : FnV Try.prog 23 args r ∧ closedL 0 args = true := by
 unfold kn_lget at h
 simp only at h
 split at h
 · cases h; exact ⟨v_lget, rfl⟩
 · cases h
def kn_lcallH (F : FsHz) : FuncId × (List DV → RV) := (20, fun args => match args with
 | [.agg [.d (.sc (.int .i64 c_kind)), .d (.sc (.int .i64 c_client)), .d (.sc (.int .i64 c_seq)), .d (.sc (.string c_key)), .d (.sc (.string c_fin)), .d (.sc (.string c_old)), .d (.sc (.string c_val))]] => some ([], HOp.D ((F.lcallH ⟨c_kind, c_client, c_seq, c_key, c_fin, c_old, c_val⟩)))
 | _ => none)
theorem ok_lcallH (args : List DV) (cs : List Prop) (r : DV) (h : (kn_lcallH FsHz0).2 args = some (cs, r)) (hc : allP cs True) : FnV Try.prog 20 args r ∧ closedL 0 args = true := by
 unfold kn_lcallH at h
 simp only at h
 split at h
 · cases h; exact ⟨v_lcallH ⟨_, _, _, _, _, _, _⟩, rfl⟩
 · cases h
def kn_lbackH (F : FsHz) : FuncId × (List DV → RV) := (22, fun args => match args with
 | [.agg [.d (.sc (.int .i64 c_kind)), .d (.sc (.int .i64 c_client)), .d (.sc (.int .i64 c_seq)), .d (.sc (.string c_key)), .d (.sc (.string c_fin)), .d (.sc (.string c_old)), .d (.sc (.string c_val))], .agg [.d (.sc (.int .i64 r_why)), .d (.sc (.bool r_found)), .d (.sc (.string r_value)), .d (.sc (.int .i64 r_version)), .d (.slc 3 r_pairs)]] => some ([], HOp.D ((F.lbackH ⟨c_kind, c_client, c_seq, c_key, c_fin, c_old, c_val⟩ ⟨r_why, r_found, r_value, r_version, r_pairs⟩)))
 | [.agg [.d (.sc (.int .i64 c_kind)), .d (.sc (.int .i64 c_client)), .d (.sc (.int .i64 c_seq)), .d (.sc (.string c_key)), .d (.sc (.string c_fin)), .d (.sc (.string c_old)), .d (.sc (.string c_val))], .agg [.d (.sc (.int .i64 r_why)), .d (.sc (.bool r_found)), .d (.sc (.string r_value)), .d (.sc (.int .i64 r_version)), .d (.sc (.slice none 0 0))]] => some ([], HOp.D ((F.lbackH ⟨c_kind, c_client, c_seq, c_key, c_fin, c_old, c_val⟩ ⟨r_why, r_found, r_value, r_version, []⟩)))
 | _ => none)
theorem ok_lbackH (args : List DV) (cs : List Prop) (r : DV) (h : (kn_lbackH FsHz0).2 args = some (cs, r)) (hc : allP cs True) : FnV Try.prog 22 args r ∧ closedL 0 args = true := by
 unfold kn_lbackH at h
 simp only at h
 split at h
 · cases h; exact ⟨v_lbackH ⟨_, _, _, _, _, _, _⟩ ⟨_, _, _, _, _⟩, rfl⟩
 · cases h; exact ⟨FnP.ups (v_lbackH ⟨_, _, _, _, _, _, _⟩ ⟨_, _, _, _, []⟩) (UpL.agg (UpL.keep (UpL.keep (UpL.keep (UpL.keep (UpL.keep (UpL.keep (UpL.keep UpL.done))))))) (UpL.agg (UpL.keep (UpL.keep (UpL.keep (UpL.keep (UpL.nil UpL.done))))) UpL.done)), rfl⟩
 · cases h
def kn_lis (F : FsHz) : FuncId × (List DV → RV) := (19, fun args => match args with
 | [.d (.sc (.bool w)), .d (.slc 14 xs)] => some ([F.isEv xs], boolD ((F.lis w xs)))
 | [.d (.sc (.bool w)), .d (.sc (.slice none 0 0))] => some ([F.isEv []], boolD ((F.lis w [])))
 | _ => none)
theorem ok_lis (args : List DV) (cs : List Prop) (r : DV) (h : (kn_lis FsHz0).2 args = some (cs, r)) (hc : allP cs True) : FnV Try.prog 19 args r ∧ closedL 0 args = true := by
 unfold kn_lis at h
 simp only at h
 split at h
 · cases h; exact ⟨v_lis _ _ hc.1, rfl⟩
 · cases h; exact ⟨FnP.nils (v_lis _ [] hc.1) ⟨.inl rfl, ⟨.inr ⟨rfl, _, rfl⟩, trivial⟩⟩, rfl⟩
 · cases h
end Go.Proofs.Ytadnpgkddgbhkaa
namespace Go.Proofs.Ytadnpgkddgbhkaa
open Go.RowKit Go.Maps
set_option linter.all false
set_option maxHeartbeats 4000000
noncomputable def runO (o : List Ev) : List Int → List DV → List DV × List Reply
 | [], s => (s, [])
 | p :: l, s => ((runO o l (applyS s (o.getD p.toNat default).c).1).1, (applyS s (o.getD p.toNat default).c).2 :: (runO o l (applyS s (o.getD p.toNat default).c).1).2)
theorem runO_len (o : List Ev) : ∀ (l : List Int) (s : List DV), (runO o l s).2.length = l.length
 | [], s => rfl
 | p :: l, s => by rw [runO]; show ((runO o l _).2.length + 1) = _; rw [runO_len o l]; rfl
theorem runO_app (o : List Ev) (p : Int) : ∀ (l : List Int) (s : List DV), runO o (l ++ [p]) s = ((applyS (runO o l s).1 (o.getD p.toNat default).c).1, (runO o l s).2 ++ [(applyS (runO o l s).1 (o.getD p.toNat default).c).2])
 | [], s => rfl
 | q :: l, s => by rw [List.cons_append, runO, runO_app o p l]; rfl
theorem runO_congr {o o2 : List Ev} : ∀ (l : List Int) (s : List DV), (∀ p ∈ l, (o2.getD p.toNat default).c = (o.getD p.toNat default).c) → runO o2 l s = runO o l s
 | [], s, _ => rfl
 | p :: l, s, h => by rw [runO, runO, h p (by simp), runO_congr l _ (fun q hq => h q (by simp [hq]))]
theorem runO_at (o : List Ev) (k : Int) (r : List Int) : ∀ (pre : List Int) (s : List DV), (runO o (pre ++ k :: r) s).2[pre.length]? = some (applyS (runO o pre s).1 (o.getD k.toNat default).c).2
 | [], s => rfl
 | p :: pre, s => by
     rw [List.cons_append, runO, List.length_cons, runO]
     exact runO_at o k r pre _
theorem opsF_app (e : Ev) : ∀ (l : List Ev) (i : Int) (out : List Ev), opsF (l ++ [e]) i out = (opsF l i out).bind fun o => evStep (i + l.length) o e
 | [], i, out => by
     show (evStep i out e).bind _ = _
     simp only [opsF, List.length_nil]
     show (evStep i out e).bind (fun o => some o) = evStep (i + 0) out e
     rw [Int.add_zero]
     cases evStep i out e <;> rfl
 | x :: l, i, out => by
     rw [List.cons_append, opsF, opsF]
     cases h : evStep i out x with
     | none => rfl
     | some o1 =>
       show opsF (l ++ [e]) (i + 1) o1 = (opsF l (i + 1) o1).bind _
       rw [opsF_app e l (i + 1) o1, List.length_cons, show i + 1 + (l.length : Int) = i + ((l.length + 1 : Nat) : Int) by omega]
theorem opsM_app {l o o2 : List Ev} {e : Ev} (h : opsM l = some o) (hs : evStep l.length o e = some o2) : opsM (l ++ [e]) = some o2 := by
 unfold opsM at h ⊢
 rw [opsF_app, h, Int.zero_add]
 exact hs
def MC (st : MSt) (o : List Ev) (rs : List Reply) (k : Nat) : Prop :=
 (st.opn.getD k 0 = 0 → openX ((k : Int) + 1) o = -1) ∧
 (0 < st.opn.getD k 0 → ∃ e, o[(st.opn.getD k 0 - 1).toNat]? = some e ∧ openX ((k : Int) + 1) o = st.opn.getD k 0 - 1 ∧ e.c = st.cmds.getD k .zero ∧ st.opn.getD k 0 - 1 ∉ st.ord) ∧
 (st.opn.getD k 0 < 0 → ∃ (q : Nat) (p : Int) (e : Ev), st.ord[q]? = some p ∧ o[p.toNat]? = some e ∧ openX ((k : Int) + 1) o = p ∧ e.c = st.cmds.getD k .zero ∧ rs[q]? = some (st.told.getD k zeroRep))
structure MI (st : MSt) (o : List Ev) (rs : List Reply) : Prop where
 ops : opsM st.out = some o
 nd : st.ord.Nodup
 rg : ∀ p ∈ st.ord, 0 ≤ p ∧ p < o.length
 run : runO o st.ord zSt = (st.s, rs)
 rep : ∀ (q : Nat) (p : Int) (e : Ev), st.ord[q]? = some p → o[p.toNat]? = some e → 0 ≤ e.b → rs[q]? = some e.r
 ret : ∀ (j : Nat) (e : Ev), o[j]? = some e → 0 ≤ e.b → (j : Int) ∈ st.ord
 ah : ∀ (q : Nat) (p : Int) (e : Ev) (j : Nat) (b : Ev), st.ord[q]? = some p → o[p.toNat]? = some e → o[j]? = some b → 0 ≤ b.b → b.b < e.a → ∃ q' : Nat, q' < q ∧ st.ord[q']? = some (j : Int)
 cl : ∀ k, k < 8 → MC st o rs k
theorem get_app {l : List Ev} {y e : Ev} {j : Nat} (h : l[j]? = some e) : (l ++ [y])[j]? = some e := by
 have := (List.getElem?_eq_some_iff.1 h).1
 rw [List.getElem?_append_left this]; exact h
theorem get_app_lt {l : List Ev} {y : Ev} {j : Nat} (h : j < l.length) : (l ++ [y])[j]? = l[j]? := List.getElem?_append_left h
theorem get_app_cases {l : List Ev} {y e : Ev} {j : Nat} (h : (l ++ [y])[j]? = some e) : l[j]? = some e ∨ (j = l.length ∧ e = y) := by
 rw [List.getElem?_append] at h
 split at h
 · exact .inl h
 · rename_i hi
   have : j - l.length = 0 := by
    rcases Nat.eq_zero_or_pos (j - l.length) with h0 | h0
    · exact h0
    · rw [List.getElem?_eq_none (by simp; omega)] at h; cases h
   rw [this] at h
   simp at h
   exact .inr ⟨by omega, h.symm⟩
theorem ordget {l : List Int} {p y : Int} {q : Nat} (h : (l ++ [y])[q]? = some p) : (q < l.length ∧ l[q]? = some p) ∨ (q = l.length ∧ p = y) := by
 rw [List.getElem?_append] at h
 split at h
 · rename_i hi; exact .inl ⟨hi, h⟩
 · rename_i hi
   have : q - l.length = 0 := by
    rcases Nat.eq_zero_or_pos (q - l.length) with h0 | h0
    · exact h0
    · rw [List.getElem?_eq_none (by simp; omega)] at h; cases h
   rw [this] at h
   simp at h
   exact .inr ⟨by omega, h.symm⟩
theorem openX_cl {c : Int} {l : List Ev} {p : Int} {e : Ev} (h : openX c l = p) (h0 : 0 ≤ p) (he : l[p.toNat]? = some e) : e.b < 0 ∧ e.c.client = c := by
 subst h
 obtain ⟨e2, h1, h2⟩ := openX_get h0
 rw [he, Option.some.injEq] at h1
 subst h1
 exact opnB_iff.1 h2
theorem mZero_MI : MI mZero [] [] := ⟨rfl, List.nodup_nil, fun p hp => (by cases hp), rfl, fun q p e hq => (by simp [mZero] at hq), fun j e he => (by simp at he), fun q p e j b hq => (by simp [mZero] at hq), fun k hk => by
 have h0 : mZero.opn.getD k 0 = 0 := repl_getD 8 k 0
 refine ⟨fun _ => rfl, fun h => ?_, fun h => ?_⟩
 · rw [h0] at h; exact absurd h (by decide)
 · rw [h0] at h; exact absurd h (by decide)⟩
theorem MI.call {i : Int} {st : MSt} {o : List Ev} {rs : List Reply} (hb : MB i st) (h : MI st o rs) {x : MOp} (h0 : st.opn.getD (mK x) 0 = 0) (hr : rightC (mCmd st x) = true) (hk0 : x.c.kind ≠ 0) : ∃ o2 rs2, MI (mCall st x) o2 rs2 := by
 have hk := mK_lt x
 have hx := (h.cl (mK x) hk).1 h0
 have hlen := hb.o12 h.ops
 have hpos : ∀ q, (mCall st x).opn.getD q 0 = if q = mK x then st.n + 1 else st.opn.getD q 0 := fun q => getD_set' (by rw [hb.lo]; exact hk)
 have hcm : ∀ q, (mCall st x).cmds.getD q .zero = if q = mK x then mCmd st x else st.cmds.getD q .zero := fun q => getD_set' (by rw [hb.lc]; exact hk)
 have hcl : (mCmd st x).client = (mK x : Int) + 1 := rfl
 obtain ⟨y, hy⟩ : ∃ y, y = evNew st.out.length (evC (mCmd st x)) := ⟨_, rfl⟩
 have hyb : y.b = -1 := by rw [hy]; rfl
 have hyc : y.c = mCmd st x := by rw [hy]; rfl
 have hst : evStep st.out.length o (evC (mCmd st x)) = some (o ++ [y]) := by
  have e1 : evCall (openX (evC (mCmd st x)).b o) (evC (mCmd st x)) = true := by
   show evCall (openX ((mK x : Int) + 1) o) _ = true
   rw [hx]
   have e2 : (evC (mCmd st x)).c = mCmd st x := rfl
   have e3 : (mCmd st x).kind = x.c.kind := rfl
   simp only [evCall, e2, e3, hr, Bool.and_eq_true, decide_eq_true_eq, Bool.not_eq_true', decide_eq_false_iff_not]
   exact ⟨by omega, rfl, trivial, hk0, rfl⟩
  unfold evStep
  rw [e1, cond_true, hy]
 have hlt : ∀ p ∈ st.ord, p.toNat < o.length := fun p hp => by have := h.rg p hp; omega
 have hgl : ∀ p ∈ st.ord, (o ++ [y])[p.toNat]? = o[p.toNat]? := fun p hp => get_app_lt (hlt p hp)
 refine ⟨o ++ [y], rs, ⟨opsM_app h.ops hst, h.nd, fun p hp => ?_, ?_, fun q p e hq he hbb => ?_, fun j e he hbb => ?_, fun q p e j b hq he hj hbb hlt2 => ?_, fun k2 hk2 => ?_⟩⟩
 · have := h.rg p hp
   rw [List.length_append]
   exact ⟨this.1, by omega⟩
 · show runO (o ++ [y]) st.ord zSt = (st.s, rs)
   rw [← h.run]
   exact runO_congr st.ord zSt fun p hp => by rw [List.getD_eq_getElem?_getD, List.getD_eq_getElem?_getD, hgl p hp]
 · have hp := List.mem_of_getElem? hq
   rw [hgl p hp] at he
   exact h.rep q p e hq he hbb
 · rcases get_app_cases he with he | ⟨_, rfl⟩
   · exact h.ret j e he hbb
   · omega
 · have hp := List.mem_of_getElem? hq
   rw [hgl p hp] at he
   rcases get_app_cases hj with hj | ⟨_, rfl⟩
   · exact h.ah q p e j b hq he hj hbb hlt2
   · omega
 · unfold MC
   rw [hpos, hcm, openX_app]
   by_cases hq : k2 = mK x
   · rw [if_pos hq, if_pos hq]
     have e1 : opnB ((k2 : Int) + 1) y = true := opnB_iff.2 ⟨by omega, by rw [hyc, hcl, hq]⟩
     rw [e1, cond_true]
     have := hb.n0
     refine ⟨fun q => by omega, fun _ => ⟨y, ?_, by omega, hyc, fun hm => ?_⟩, fun q => by omega⟩
     · rw [show (st.n + 1 - 1).toNat = o.length by omega]
       simp
     · have := h.rg _ hm
       omega
   · rw [if_neg hq, if_neg hq]
     have e1 : opnB ((k2 : Int) + 1) y = false := by
      rw [← Bool.not_eq_true, opnB_iff, hyc, hcl]
      rintro ⟨_, q⟩
      exact hq (by omega)
     rw [e1, cond_false]
     obtain ⟨c1, c2, c3⟩ := h.cl k2 hk2
     refine ⟨c1, fun q => ?_, fun q => ?_⟩
     · obtain ⟨e, h1, h2, h3, h4⟩ := c2 q
       exact ⟨e, get_app h1, h2, h3, h4⟩
     · obtain ⟨q, p, e, h1, h2, h3, h4, h5⟩ := c3 q
       exact ⟨q, p, e, h1, get_app h2, h3, h4, h5⟩
theorem MI.do {i : Int} {st : MSt} {o : List Ev} {rs : List Reply} (hb : MB i st) (h : MI st o rs) {x : MOp} (h0 : 0 < st.opn.getD (mK x) 0) : ∃ o2 rs2, MI (mDo st x) o2 rs2 := by
 have hk := mK_lt x
 obtain ⟨e0, g1, g2, g3, g4⟩ := (h.cl (mK x) hk).2.1 h0
 obtain ⟨p0, hp0⟩ : ∃ p, p = st.opn.getD (mK x) 0 - 1 := ⟨_, rfl⟩
 rw [← hp0] at g1 g2 g4
 have hpp : 0 ≤ p0 := by omega
 have hplt := (List.getElem?_eq_some_iff.1 g1).1
 have hpos : ∀ q, (mDo st x).opn.getD q 0 = if q = mK x then -1 else st.opn.getD q 0 := fun q => getD_set' (by rw [hb.lo]; exact hk)
 obtain ⟨r, hr⟩ : ∃ r, r = (applyS st.s (st.cmds.getD (mK x) .zero)).2 := ⟨_, rfl⟩
 have htd : ∀ q, (mDo st x).told.getD q zeroRep = if q = mK x then r else st.told.getD q zeroRep := fun q => by rw [hr]; exact getD_set' (by rw [hb.lt]; exact hk)
 have hord : (mDo st x).ord = st.ord ++ [p0] := by rw [hp0]; rfl
 have hog := openX_cl g2 hpp g1
 have hrl : rs.length = st.ord.length := by have := runO_len o st.ord zSt; rw [h.run] at this; exact this
 have hgd : (o.getD p0.toNat default).c = st.cmds.getD (mK x) .zero := by rw [List.getD_eq_getElem?_getD, g1]; exact g3
 have hrapp : ∀ (q : Nat) (v : Reply), rs[q]? = some v → (rs ++ [r])[q]? = some v := fun q v hv => by
  rw [List.getElem?_append_left (List.getElem?_eq_some_iff.1 hv).1]; exact hv
 have hoapp : ∀ (q : Nat) (v : Int), st.ord[q]? = some v → (st.ord ++ [p0])[q]? = some v := fun q v hv => by
  rw [List.getElem?_append_left (List.getElem?_eq_some_iff.1 hv).1]; exact hv
 refine ⟨o, rs ++ [r], ⟨h.ops, ?_, fun p hp => ?_, ?_, fun q p e hq he hbb => ?_, fun j e he hbb => ?_, fun q p e j b hq he hj hbb hlt2 => ?_, fun k2 hk2 => ?_⟩⟩
 · rw [hord, List.nodup_append]
   exact ⟨h.nd, by simp, fun a ha b hb2 => by rw [List.mem_singleton] at hb2; subst hb2; rintro rfl; exact g4 ha⟩
 · rw [hord] at hp
   rcases List.mem_append.1 hp with hp | hp
   · exact h.rg p hp
   · rw [List.mem_singleton] at hp
     omega
 · rw [hord, runO_app, h.run, hgd]
   show (_, _) = ((applyS st.s _).1, _)
   rw [hr]
 · rw [hord] at hq
   rcases ordget hq with ⟨_, hq⟩ | ⟨_, rfl⟩
   · exact hrapp q _ (h.rep q p e hq he hbb)
   · rw [g1, Option.some.injEq] at he
     subst he
     omega
 · rw [hord]
   exact List.mem_append.2 (.inl (h.ret j e he hbb))
 · rw [hord] at hq ⊢
   rcases ordget hq with ⟨_, hq⟩ | ⟨hqq, rfl⟩
   · obtain ⟨q', h1, h2⟩ := h.ah q p e j b hq he hj hbb hlt2
     exact ⟨q', h1, hoapp _ _ h2⟩
   · obtain ⟨q', h1⟩ := List.getElem?_of_mem (h.ret j b hj hbb)
     exact ⟨q', by rw [hqq]; exact (List.getElem?_eq_some_iff.1 h1).1, hoapp _ _ h1⟩
 · have hcmd : (mDo st x).cmds = st.cmds := rfl
   by_cases hq : k2 = mK x
   · rw [hq]
     have hpos1 := (hpos (mK x)).trans (if_pos rfl)
     have htd1 := (htd (mK x)).trans (if_pos rfl)
     simp only [MC, hpos1, htd1, hord, hcmd]
     exact ⟨fun q => by omega, fun q => by omega, fun _ => ⟨st.ord.length, p0, e0, by simp, g1, g2, g3, by rw [← hrl]; simp⟩⟩
   · have hpos1 := (hpos k2).trans (if_neg hq)
     have htd1 := (htd k2).trans (if_neg hq)
     simp only [MC, hpos1, htd1, hord, hcmd]
     obtain ⟨c1, c2, c3⟩ := h.cl k2 hk2
     refine ⟨c1, fun q => ?_, fun q => ?_⟩
     · obtain ⟨e, h1, h2, h3, h4⟩ := c2 q
       refine ⟨e, h1, h2, h3, fun hm => ?_⟩
       rcases List.mem_append.1 hm with hm | hm
       · exact h4 hm
       · rw [List.mem_singleton] at hm
         have h5 := openX_cl h2 (by omega) h1
         rw [hm, g1, Option.some.injEq] at h1
         subst h1
         exact hq (by omega)
     · obtain ⟨q, p, e, h1, h2, h3, h4, h5⟩ := c3 q
       exact ⟨q, p, e, hoapp _ _ h1, h2, h3, h4, hrapp _ _ h5⟩
theorem MI.back {i : Int} {st : MSt} {o : List Ev} {rs : List Reply} (hi : i ≤ 1048576) (hb : MB i st) (h : MI st o rs) {x : MOp} (hl : x.lie = false) (h0 : st.opn.getD (mK x) 0 < 0) : ∃ o2 rs2, MI (mRet st x) o2 rs2 := by
 have hk := mK_lt x
 obtain ⟨q0, p0, e0, g0, g1, g2, g3, g4⟩ := (h.cl (mK x) hk).2.2 h0
 have hpm := List.mem_of_getElem? g0
 have hpp := (h.rg p0 hpm).1
 have hplt := (List.getElem?_eq_some_iff.1 g1).1
 have hpos : ∀ q, (mRet st x).opn.getD q 0 = if q = mK x then 0 else st.opn.getD q 0 := fun q => getD_set' (by rw [hb.lo]; exact hk)
 have hog := openX_cl g2 hpp g1
 have hok := opsM_ok (l := st.out) (by have := hb.len; omega) hb.pairs h.ops
 have hmr : mRep st x = st.told.getD (mK x) zeroRep := by unfold mRep lieV; rw [hl]; rfl
 obtain ⟨ev, hev⟩ : ∃ ev, ev = evR (st.cmds.getD (mK x) .zero) (mRep st x) := ⟨_, rfl⟩
 obtain ⟨y, hy⟩ : ∃ y, y = evBack st.out.length ev e0 := ⟨_, rfl⟩
 have hyb : y.b = st.out.length := by rw [hy]; rfl
 have hya : y.a = e0.a := by rw [hy]; rfl
 have hyc : y.c = e0.c := by rw [hy]; rfl
 have hyr : y.r = st.told.getD (mK x) zeroRep := by rw [hy, hev, ← hmr]; rfl
 have hog0 : o.getD p0.toNat default = e0 := by rw [List.getD_eq_getElem?_getD, g1]; rfl
 have hst : evStep st.out.length o ev = some (o.set p0.toNat y) := by
  have e0b : ev.b = (mK x : Int) + 1 := by rw [hev]; show (st.cmds.getD (mK x) .zero).client = _; rw [← g3]; exact hog.2
  unfold evStep
  rw [e0b, g2, hog0]
  have e1 : evCall p0 ev = false := by
   unfold evCall
   rw [decide_eq_false (by omega)]
   rfl
  have e2 : evRet p0 ev e0 = true := by
   unfold evRet
   rw [decide_eq_true hpp]
   have : ev.a = 2 := by rw [hev]; rfl
   have h3 : ev.c = st.cmds.getD (mK x) .zero := by rw [hev]; rfl
   simp only [this, h3, g3, decide_true, Bool.and_self]
  rw [e1, cond_false, e2, cond_true, hy]
 have hset : ∀ (j : Nat) (e : Ev), (o.set p0.toNat y)[j]? = some e → (j = p0.toNat ∧ e = y) ∨ (j ≠ p0.toNat ∧ o[j]? = some e) := fun j e he => by
  by_cases hj : j = p0.toNat
  · subst hj
    rw [List.getElem?_set_self hplt, Option.some.injEq] at he
    exact .inl ⟨rfl, he.symm⟩
  · rw [List.getElem?_set_ne (fun q => hj q.symm)] at he
    exact .inr ⟨hj, he⟩
 have hold : ∀ (j : Nat) (e : Ev), (o.set p0.toNat y)[j]? = some e → ∃ e2, o[j]? = some e2 ∧ e2.a = e.a ∧ e2.c = e.c := fun j e he => by
  rcases hset j e he with ⟨rfl, rfl⟩ | ⟨_, h2⟩
  · exact ⟨e0, g1, hya.symm, hyc.symm⟩
  · exact ⟨e, h2, rfl, rfl⟩
 have hnew : ∀ (j : Nat) (e : Ev), o[j]? = some e → ∃ e2, (o.set p0.toNat y)[j]? = some e2 ∧ e2.c = e.c := fun j e he => by
  by_cases hj : j = p0.toNat
  · subst hj
    rw [g1, Option.some.injEq] at he
    subst he
    exact ⟨y, List.getElem?_set_self hplt, hyc⟩
  · exact ⟨e, by rw [List.getElem?_set_ne (fun q => hj q.symm)]; exact he, rfl⟩
 refine ⟨o.set p0.toNat y, rs, ⟨opsM_app h.ops (by rw [← hev]; exact hst), h.nd, fun p hp => ?_, ?_, fun q p e hq he hbb => ?_, fun j e he hbb => ?_, fun q p e j b hq he hj hbb hlt2 => ?_, fun k2 hk2 => ?_⟩⟩
 · rw [List.length_set]
   exact h.rg p hp
 · show runO (o.set p0.toNat y) st.ord zSt = (st.s, rs)
   rw [← h.run]
   refine runO_congr st.ord zSt fun p hp => ?_
   have h3 := h.rg p hp
   obtain ⟨e, he⟩ : ∃ e, o[p.toNat]? = some e := ⟨_, List.getElem?_eq_getElem (by omega)⟩
   obtain ⟨e2, h4, h5⟩ := hnew _ _ he
   rw [List.getD_eq_getElem?_getD, List.getD_eq_getElem?_getD, h4, he]
   exact h5
 · rcases hset _ _ he with ⟨h3, rfl⟩ | ⟨_, h2⟩
   · have h4 := h.rg p (List.mem_of_getElem? hq)
     have h5 : p = p0 := by omega
     subst h5
     have h6 : q = q0 := by
      have a1 := (List.getElem?_eq_some_iff.1 hq)
      have a2 := (List.getElem?_eq_some_iff.1 g0)
      obtain ⟨a3, a4⟩ := a1
      obtain ⟨a5, a6⟩ := a2
      exact (List.getElem_inj h.nd).1 (a4.trans a6.symm)
     subst h6
     rw [hyr]
     exact g4
   · exact h.rep q p e hq h2 hbb
 · rcases hset _ _ he with ⟨h3, rfl⟩ | ⟨_, h2⟩
   · rw [h3, show ((p0.toNat : Nat) : Int) = p0 by omega]
     exact hpm
   · exact h.ret j e h2 hbb
 · obtain ⟨e2, h3, h4, h5⟩ := hold _ _ he
   rcases hset _ _ hj with ⟨h6, rfl⟩ | ⟨_, h7⟩
   · have := hok.ev e2 (List.mem_of_getElem? h3)
     omega
   · exact h.ah q p e2 j b hq h3 h7 hbb (by omega)
 · have hox := fun c => openX_set (c := c) (q := (mK x : Int) + 1) (y := y) hok.u g1 (opnB_iff.2 hog) (by omega)
   have hcmd : (mRet st x).cmds = st.cmds := rfl
   have htld : (mRet st x).told = st.told := rfl
   have hor : (mRet st x).ord = st.ord := rfl
   by_cases hq : k2 = mK x
   · rw [hq]
     have hpos1 := (hpos (mK x)).trans (if_pos rfl)
     have hox1 := (hox ((mK x : Int) + 1)).trans (if_pos rfl)
     simp only [MC, hpos1, hox1, hcmd, htld, hor]
     exact ⟨fun _ => trivial, fun q => by omega, fun q => by omega⟩
   · have hpos1 := (hpos k2).trans (if_neg hq)
     have hox1 := (hox ((k2 : Int) + 1)).trans (if_neg (by omega))
     simp only [MC, hpos1, hox1, hcmd, htld, hor]
     obtain ⟨c1, c2, c3⟩ := h.cl k2 hk2
     refine ⟨c1, fun q => ?_, fun q => ?_⟩
     · obtain ⟨e, h1, h2, h3, h4⟩ := c2 q
       obtain ⟨e2, h5, h6⟩ := hnew _ _ h1
       exact ⟨e2, h5, h2, h6.trans h3, h4⟩
     · obtain ⟨q, p, e, h1, h2, h3, h4, h5⟩ := c3 q
       obtain ⟨e2, h6, h7⟩ := hnew _ _ h2
       exact ⟨q, p, e2, h1, h6, h3, h7.trans h4, h5⟩
theorem MI.step {i : Int} {st : MSt} {o : List Ev} {rs : List Reply} (hi : i ≤ 1048576) (hb : MB i st) (h : MI st o rs) {x : MOp} (hl : x.lie = false) : ∃ o2 rs2, MI (mstep st x) o2 rs2 := by
 unfold mstep
 cases h1 : decide (st.opn.getD (mK x) 0 = 0) with
 | true =>
   rw [cond_true]
   cases h2 : rightC (mCmd st x) && !decide (x.c.kind = 0) with
   | true =>
     rw [Bool.and_eq_true, Bool.not_eq_true', decide_eq_false_iff_not] at h2
     exact h.call hb (of_decide_eq_true h1) h2.1 h2.2
   | false => exact ⟨o, rs, h⟩
 | false =>
   have h1 := of_decide_eq_false h1
   rw [cond_false]
   cases h2 : decide (0 < st.opn.getD (mK x) 0) with
   | true => exact h.do hb (of_decide_eq_true h2)
   | false =>
     have h2 := of_decide_eq_false h2
     rw [cond_false]
     cases h3 : x.ret with
     | true => exact h.back hi hb hl (by omega)
     | false => exact ⟨o, rs, h⟩
def posA (at_ pre : List Int) : Prop := (∀ (q : Nat) (p : Int), pre[q]? = some p → at_.getD p.toNat 0 = q + 1) ∧ (∀ j : Nat, (j : Int) ∉ pre → at_.getD j 0 = 0)
theorem MI.ran {st : MSt} {o : List Ev} {rs : List Reply} (h : MI st o rs) : ∀ (r pre at_ : List Int) (s : List DV), pre ++ r = st.ord → at_.length = o.length → posA at_ pre → s = (runO o pre zSt).1 → ∃ aF, ranF o r pre.length at_ s = some aF ∧ posA aF st.ord
 | [], pre, at_, s, hp, hl, hpos, hs => ⟨at_, rfl, by rw [List.append_nil] at hp; rw [← hp]; exact hpos⟩
 | k :: r, pre, at_, s, hp, hl, hpos, hs => by
     have hkm : k ∈ st.ord := by rw [← hp]; simp
     have hk := h.rg k hkm
     have hnd := h.nd
     rw [← hp, List.nodup_append] at hnd
     have hkp : k ∉ pre := fun hm => hnd.2.2 k hm k (by simp) rfl
     have hkz : at_.getD k.toNat 0 = 0 := hpos.2 k.toNat (by rw [show ((k.toNat : Nat) : Int) = k by omega]; exact hkp)
     have hq : st.ord[pre.length]? = some k := by rw [← hp]; simp
     obtain ⟨e, he⟩ : ∃ e, o[k.toNat]? = some e := ⟨_, List.getElem?_eq_getElem (by omega)⟩
     have hed : o.getD k.toNat default = e := by rw [List.getD_eq_getElem?_getD, he]; rfl
     have hra := runO_at o k r pre zSt
     rw [hp, h.run, ← hs, hed] at hra
     rw [ranF]
     have e1 : (decide (k < 0) || decide ((o.length : Int) ≤ k) || decide (at_.getD k.toNat 0 > 0)) = false := by
      rw [hkz, decide_eq_false (by omega), decide_eq_false (by omega)]
      try rfl
     have e2 : (decide (0 ≤ (o.getD k.toNat default).b) && !repliesX (applyS s (o.getD k.toNat default).c).2 (o.getD k.toNat default).r) = false := by
      rw [hed]
      by_cases hb : 0 ≤ e.b
      · have h3 := h.rep pre.length k e hq he hb
        rw [hra, Option.some.injEq] at h3
        rw [repliesX_true h3]
        simp
      · rw [decide_eq_false hb]; rfl
     rw [e1, cond_false, e2, cond_false]
     have hkl : k.toNat < at_.length := by omega
     have hg := fun j => getDs (l := at_) (j := j) (v := (pre.length : Int) + 1) hkl
     have hpn : posA (at_.set k.toNat ((pre.length : Int) + 1)) (pre ++ [k]) := by
      refine ⟨fun q p hqp => ?_, fun j hj => ?_⟩
      · rw [hg]
        rcases ordget hqp with ⟨_, h3⟩ | ⟨h3, rfl⟩
        · have hm := List.mem_of_getElem? h3
          have hr := h.rg p (by rw [← hp]; exact List.mem_append.2 (.inl hm))
          rw [if_neg (fun e => hkp (by rw [show k = p by omega]; exact hm))]
          exact hpos.1 q p h3
        · rw [if_pos rfl, h3]
      · rw [hg, if_neg (fun e => hj (by rw [e, show ((k.toNat : Nat) : Int) = k by omega]; simp))]
        exact hpos.2 j (fun hm => hj (List.mem_append.2 (.inl hm)))
     obtain ⟨aF, h1, h2⟩ := MI.ran h r (pre ++ [k]) (at_.set k.toNat ((pre.length : Int) + 1)) (applyS s (o.getD k.toNat default).c).1 (by rw [List.append_assoc]; exact hp) (by rw [List.length_set]; exact hl) hpn (by rw [runO_app, hs])
     refine ⟨aF, ?_, h2⟩
     rw [List.length_append, List.length_singleton] at h1
     exact h1
theorem MI.fits {st : MSt} {o : List Ev} {rs : List Reply} (h : MI st o rs) : fitsM st.out st.ord = true := by
 obtain ⟨aF, h1, h2⟩ := h.ran st.ord [] (List.replicate o.length 0) zSt rfl (by simp) ⟨fun q p hq => by simp at hq, fun j _ => zeros_getD _ _⟩ rfl
 unfold fitsM
 rw [h.ops]
 simp only []
 have h1' : ranF o st.ord 0 (List.replicate o.length 0) (cellsS [] (List.replicate 8 ⟨0, zeroRep⟩)) = some aF := h1
 rw [h1']
 simp only []
 refine (chkF_iff o 0).2 fun j e he => ?_
 rw [Nat.zero_add]
 have hpos : ∀ j : Nat, 0 < aF.getD j 0 → (j : Int) ∈ st.ord := fun j hj => by
  by_cases hm : (j : Int) ∈ st.ord
  · exact hm
  · rw [h2.2 j hm] at hj; omega
 refine ⟨fun hh => ?_, fun q b hb => clB_false.2 fun hh => ?_⟩
 · obtain ⟨q, h3⟩ := List.getElem?_of_mem (h.ret j e he hh.1)
   have := h2.1 q _ h3
   rw [Int.toNat_natCast] at this
   omega
 · obtain ⟨a1, a2, a3, a4⟩ := hh
   obtain ⟨q1, h3⟩ := List.getElem?_of_mem (hpos j a1)
   have e1 := h2.1 q1 _ h3
   rw [Int.toNat_natCast] at e1
   obtain ⟨q2, h4, h5⟩ := h.ah q1 _ e q b h3 (by rw [Int.toNat_natCast]; exact he) hb a2 a3
   have e2 := h2.1 q2 _ h5
   rw [Int.toNat_natCast] at e2
   omega
theorem MI.made : ∀ (l : List MOp) (i : Int) (st : MSt) (o : List Ev) (rs : List Reply), MB i st → MI st o rs → 0 ≤ i → i + l.length ≤ 1048576 → (∀ x ∈ l, x.lie = false) → ∃ o2 rs2, MI (madeF l st) o2 rs2
 | [], i, st, o, rs, _, h, _, _, _ => ⟨o, rs, h⟩
 | x :: l, i, st, o, rs, hb, h, h0, hi, hl => by
     rw [List.length_cons] at hi
     rw [madeF]
     cases hn : decide (st.n < 12) with
     | true =>
       obtain ⟨o1, rs1, h1⟩ := h.step (by omega) hb (hl x (by simp))
       exact MI.made l (i + 1) _ o1 rs1 (hb.step (by omega) (of_decide_eq_true hn)) h1 (by omega) (by omega) (fun y hy => hl y (by simp [hy]))
     | false => exact ⟨o, rs, h⟩
theorem made_fits {l : List MOp} (hl : l.length ≤ 1048576) (h : ∀ x ∈ l, x.lie = false) : fitsM (madeF l mZero).out (madeF l mZero).ord = true ∧ linM (madeF l mZero).out = (true, true) := by
 obtain ⟨o, rs, h1⟩ := MI.made l 0 mZero [] [] mZero_ok mZero_MI (Int.le_refl 0) (by omega) h
 have h2 := MB.made l 0 mZero mZero_ok (Int.le_refl 0) (by omega)
 exact ⟨h1.fits, h2.fits h1.fits⟩
theorem mstep_out (st : MSt) (x : MOp) : (mstep st x).out = st.out ∨ ∃ e, (mstep st x).out = st.out ++ [e] := by
 unfold mstep
 cases decide (st.opn.getD (mK x) 0 = 0)
 · cases decide (0 < st.opn.getD (mK x) 0)
   · cases x.ret
     · exact .inl rfl
     · exact .inr ⟨_, rfl⟩
   · exact .inl rfl
 · cases rightC (mCmd st x) && !decide (x.c.kind = 0)
   · exact .inl rfl
   · exact .inr ⟨_, rfl⟩
theorem madeF_pre : ∀ (l : List MOp) (st : MSt), ∃ r, (madeF l st).out = st.out ++ r
 | [], st => ⟨[], by simp [madeF]⟩
 | x :: l, st => by
     rw [madeF]
     cases decide (st.n < 12)
     · exact ⟨[], by simp⟩
     · obtain ⟨r, hr⟩ := madeF_pre l (mstep st x)
       rw [cond_true, hr]
       rcases mstep_out st x with h | ⟨e, h⟩
       · exact ⟨r, by rw [h]⟩
       · exact ⟨e :: r, by rw [h, List.append_assoc]; rfl⟩
theorem madeF_take : ∀ (l : List MOp) (st : MSt) (m : Nat), st.out.length ≤ m → m ≤ (madeF l st).out.length → ∃ l2 : List MOp, l2.length ≤ l.length ∧ (∀ x ∈ l2, x ∈ l) ∧ (madeF l2 st).out = (madeF l st).out.take m
 | [], st, m, h1, h2 => ⟨[], Nat.le_refl _, fun x hx => hx, by
     have h2 : m ≤ st.out.length := h2
     show st.out = st.out.take m
     rw [List.take_of_length_le (by omega)]⟩
 | x :: l, st, m, h1, h2 => by
     rw [madeF] at h2 ⊢
     cases hn : decide (st.n < 12) with
     | false =>
       rw [hn, cond_false] at h2
       rw [cond_false]
       exact ⟨[], by simp, fun x hx => (by cases hx), by
        show st.out = st.out.take m
        rw [List.take_of_length_le (by omega)]⟩
     | true =>
       rw [hn, cond_true] at h2
       rw [cond_true]
       by_cases hm : m = st.out.length
       · refine ⟨[], by simp, fun x hx => (by cases hx), ?_⟩
         show st.out = _
         obtain ⟨r, hr⟩ := madeF_pre (x :: l) st
         rw [madeF, hn, cond_true] at hr
         rw [hr, hm, List.take_left]
       · have h3 : (mstep st x).out.length ≤ m := by
          rcases mstep_out st x with h | ⟨e, h⟩
          · rw [h]; exact h1
          · rw [h, List.length_append, List.length_singleton]; omega
         obtain ⟨l2, a1, a2, a3⟩ := madeF_take l (mstep st x) m h3 h2
         refine ⟨x :: l2, by simp; exact a1, fun y hy => ?_, ?_⟩
         · rcases List.mem_cons.1 hy with rfl | hy
           · simp
           · exact List.mem_cons.2 (.inr (a2 y hy))
         · rw [madeF, hn, cond_true]
           exact a3
theorem made_take {l : List MOp} (hl : l.length ≤ 1048576) (h : ∀ x ∈ l, x.lie = false) {m : Nat} (hm : m ≤ (madeF l mZero).out.length) : linM ((madeF l mZero).out.take m) = (true, true) := by
 obtain ⟨l2, a1, a2, a3⟩ := madeF_take l mZero m (Nat.zero_le _) hm
 rw [← a3]
 exact (made_fits (by omega) (fun x hx => h x (a2 x hx))).2
end Go.Proofs.Ytadnpgkddgbhkaa
namespace Go.Proofs.Ytadnpgkddgbhkaa
open Go.RowKit Go.Maps
set_option linter.all false
set_option maxHeartbeats 8000000
theorem isA (l : List Ev) (h1 : l.length ≤ 1000) (h : (l.all fun e => decide (e.a = 1 ∨ e.a = 2) && (decide (e.b = 1 ∨ e.b = 2) && (decide (e.c.client = 1 ∨ e.c.client = 2) && e.r.pairs.isEmpty))) = true) : isEv (evsX l) := by
 refine ⟨l, rfl, by omega, fun e he => ?_⟩
 rw [List.all_eq_true] at h
 have := h e he
 simp only [Bool.and_eq_true, decide_eq_true_eq, List.isEmpty_iff] at this
 refine ⟨by unfold r64; omega, by unfold r64; omega, by unfold r64; omega, ?_⟩
 rw [this.2.2.2]
 exact isP.nil
theorem ie1 : isEv (evsX hA1) := isA _ (by decide) (by rfl)
theorem ie2 : isEv (evsX hA2) := isA _ (by decide) (by rfl)
theorem ie3 : isEv (evsX hA3) := isA _ (by decide) (by rfl)
theorem ie4 : isEv (evsX hA4) := isA _ (by decide) (by rfl)
theorem in1 : isNums (numsX [0, 1]) := ⟨[0, 1], rfl, by decide, fun n hn => by simp at hn; unfold r64; omega⟩
theorem in2 : isNums (numsX [1, 0]) := ⟨[1, 0], rfl, by decide, fun n hn => by simp at hn; unfold r64; omega⟩
theorem isR1 : isR true (evsX hA1) = true := by unfold isR; rw [run1]; rfl
theorem isR2 : isR false (evsX hA2) = true := by unfold isR; rw [run2]; rfl
theorem isR3 : isR true (evsX hA3) = true := by unfold isR; rw [run3]; rfl
theorem isR4 : isR true (evsX hA4) = true := by unfold isR; rw [run4]; rfl
def hrow (x : HOp) : List PD := [.sc (.int .i64 x.a), .sc (.int .i64 x.b), .sc (.int .i64 x.ck), .sc (.int .i64 x.cc), .sc (.int .i64 x.cq), .sc (.string x.ckey), .sc (.string x.cfin), .sc (.string x.cold), .sc (.string x.cval), .sc (.int .i64 x.w), .sc (.bool x.fd), .sc (.string x.vl), .sc (.int .i64 x.vr), .slc 3 x.pr]
def eta (c : Cmd) : Cmd := ⟨c.kind, c.client, c.seq, c.key, c.fin, c.old, c.val⟩
set_option maxRecDepth 100000 in
theorem v_hruns : FnV Try.prog 4 [] (.d (.sc (.bool true))) := by
 obtain ⟨GFsHz, hFsHz⟩ : ∃ F, F = FsHz0 := ⟨_, rfl⟩
 obtain ⟨GFsHf, hFsHf⟩ : ∃ F, F = FsHf0 := ⟨_, rfl⟩
 have hH : SoundK Try.prog [kn_lput GFsHz, kn_lget GFsHz, kn_lcallH GFsHz, kn_lbackH GFsHz, kn_lis GFsHz, kn_fits GFsHf] := by subst hFsHz hFsHf; exact orK_ok ok_lput (orK_ok ok_lget (orK_ok ok_lcallH (orK_ok ok_lbackH (orK_ok ok_lis (orK_ok ok_fits noK_ok)))))
 have hB : SoundB Try.prog [] := by subst hFsHz hFsHf; exact noB_ok
 refine FnD_cbv (T := fun _ => tabY [] [2, 3, 4]) (H := fun _ => [kn_lput GFsHz, kn_lget GFsHz, kn_lcallH GFsHz, kn_lbackH GFsHz, kn_lis GFsHz, kn_fits GFsHf]) (tabY_ok _ _) hH follows_mixed Try.func4 rfl Try.ntmps4 (by simp) fun A X W hA hX hW => ?_
 cbv
 have q000 : A.cond false false false = false := by subst hA; rfl
 have q001 : A.cond false false true = true := by subst hA; rfl
 have q010 : A.cond false true false = false := by subst hA; rfl
 have q011 : A.cond false true true = true := by subst hA; rfl
 have q100 : A.cond true false false = false := by subst hA; rfl
 have q101 : A.cond true false true = false := by subst hA; rfl
 have q110 : A.cond true true false = true := by subst hA; rfl
 have q111 : A.cond true true true = true := by subst hA; rfl
 have f3 : A.not true = false := by subst hA; rfl
 have f4 : A.not false = true := by subst hA; rfl
 cbv at f3 f4 q000 q001 q010 q011 q100 q101 q110 q111
 have c1 : GFsHz.isEv [hrow (GFsHz.lcallH (eta GFsHz.lput)), hrow (GFsHz.lbackH (eta GFsHz.lput) ⟨0, false, none8, 1, []⟩), hrow (GFsHz.lcallH (eta GFsHz.lget)), hrow (GFsHz.lbackH (eta GFsHz.lget) ⟨0, true, oneB2, 1, []⟩)] := by subst hFsHz; exact ie1
 have e1 : GFsHz.lis true [hrow (GFsHz.lcallH (eta GFsHz.lput)), hrow (GFsHz.lbackH (eta GFsHz.lput) ⟨0, false, none8, 1, []⟩), hrow (GFsHz.lcallH (eta GFsHz.lget)), hrow (GFsHz.lbackH (eta GFsHz.lget) ⟨0, true, oneB2, 1, []⟩)] = true := by subst hFsHz; exact isR1
 have c2 : GFsHz.isEv [hrow (GFsHz.lcallH (eta GFsHz.lput)), hrow (GFsHz.lbackH (eta GFsHz.lput) ⟨0, false, none8, 1, []⟩), hrow (GFsHz.lcallH (eta GFsHz.lget)), hrow (GFsHz.lbackH (eta GFsHz.lget) ⟨0, false, none8, 0, []⟩)] := by subst hFsHz; exact ie2
 have e2 : GFsHz.lis false [hrow (GFsHz.lcallH (eta GFsHz.lput)), hrow (GFsHz.lbackH (eta GFsHz.lput) ⟨0, false, none8, 1, []⟩), hrow (GFsHz.lcallH (eta GFsHz.lget)), hrow (GFsHz.lbackH (eta GFsHz.lget) ⟨0, false, none8, 0, []⟩)] = true := by subst hFsHz; exact isR2
 have c3 : GFsHz.isEv [hrow (GFsHz.lcallH (eta GFsHz.lput)), hrow (GFsHz.lcallH (eta GFsHz.lget)), hrow (GFsHz.lbackH (eta GFsHz.lget) ⟨0, false, none8, 0, []⟩)] := by subst hFsHz; exact ie3
 have e3 : GFsHz.lis true [hrow (GFsHz.lcallH (eta GFsHz.lput)), hrow (GFsHz.lcallH (eta GFsHz.lget)), hrow (GFsHz.lbackH (eta GFsHz.lget) ⟨0, false, none8, 0, []⟩)] = true := by subst hFsHz; exact isR3
 have c4 : GFsHz.isEv [hrow (GFsHz.lcallH (eta GFsHz.lput)), hrow (GFsHz.lcallH (eta GFsHz.lget)), hrow (GFsHz.lbackH (eta GFsHz.lget) ⟨0, true, oneB2, 1, []⟩)] := by subst hFsHz; exact ie4
 have e4 : GFsHz.lis true [hrow (GFsHz.lcallH (eta GFsHz.lput)), hrow (GFsHz.lcallH (eta GFsHz.lget)), hrow (GFsHz.lbackH (eta GFsHz.lget) ⟨0, true, oneB2, 1, []⟩)] = true := by subst hFsHz; exact isR4
 have c5 : GFsHf.isEv [hrow (GFsHz.lcallH (eta GFsHz.lput)), hrow (GFsHz.lcallH (eta GFsHz.lget)), hrow (GFsHz.lbackH (eta GFsHz.lget) ⟨0, true, oneB2, 1, []⟩)] := by subst hFsHz hFsHf; exact ie4
 have c6 : GFsHf.isNums [[.sc (.int .i64 0)], [.sc (.int .i64 1)]] := by subst hFsHf; exact in1
 have c7 : GFsHf.isNums [[.sc (.int .i64 1)], [.sc (.int .i64 0)]] := by subst hFsHf; exact in2
 have e5 : GFsHf.fits [hrow (GFsHz.lcallH (eta GFsHz.lput)), hrow (GFsHz.lcallH (eta GFsHz.lget)), hrow (GFsHz.lbackH (eta GFsHz.lget) ⟨0, true, oneB2, 1, []⟩)] [[.sc (.int .i64 0)], [.sc (.int .i64 1)]] = true := by subst hFsHz hFsHf; exact run5
 have e6 : GFsHf.fits [hrow (GFsHz.lcallH (eta GFsHz.lput)), hrow (GFsHz.lcallH (eta GFsHz.lget)), hrow (GFsHz.lbackH (eta GFsHz.lget) ⟨0, true, oneB2, 1, []⟩)] [[.sc (.int .i64 1)], [.sc (.int .i64 0)]] = false := by subst hFsHz hFsHf; exact run6
 have n1 : A.not false = true := by subst hA; rfl
 cbv at c1 c2 c3 c4 c5 c6 c7 e1 e2 e3 e4 e5 e6 n1
 repeat first
  | refine And.intro (by subst hA hX hFsHz hFsHf; clear hH hB; first | exact trivial | exact rfl | (simp [A0]; done) | (intro q; exact q) | (intro q; simpa [A0] using q) | (intro _; trivial) | (show Region.lexB _ _ = true; kernel_rfl) | (show turnsB _ = true; kernel_rfl) | assumption) ?_
  | (refine pickL hX (t := true) (by rfl) rfl ?_; cbv)
  | (refine pickL hX (t := false) (by rfl) rfl ?_; cbv)
 with_reducible refine regionL [1000004, 1000003, 1000002] [] (T := fun _ => tabY [] []) (H := fun _ => [kn_lput GFsHz, kn_lget GFsHz, kn_lcallH GFsHz, kn_lbackH GFsHz, kn_lis GFsHz, kn_fits GFsHf]) (B := fun _ => []) (R := fun _ => []) (A := A) (tabY_ok _ _) hH noB_ok noR_ok follows_mixed hA hX (by kernel_rfl) (by kernel_rfl) (by kernel_rfl) ?_
 cbv
 simp only [c1, e1, true_and]
 cbv
 simp only [c2, e2, true_and]
 cbv
 with_reducible refine regionL [1000004, 1000003, 1000002] [] (T := fun _ => tabY [] []) (H := fun _ => [kn_lput GFsHz, kn_lget GFsHz, kn_lcallH GFsHz, kn_lbackH GFsHz, kn_lis GFsHz, kn_fits GFsHf]) (B := fun _ => []) (R := fun _ => []) (A := A) (tabY_ok _ _) hH noB_ok noR_ok follows_mixed hA hX (by kernel_rfl) (by kernel_rfl) (by kernel_rfl) ?_
 cbv
 simp only [c3, e3, true_and]
 cbv
 simp only [c4, e4, true_and]
 cbv
 with_reducible refine regionL [1000004, 1000003, 1000002] [] (T := fun _ => tabY [] []) (H := fun _ => [kn_lput GFsHz, kn_lget GFsHz, kn_lcallH GFsHz, kn_lbackH GFsHz, kn_lis GFsHz, kn_fits GFsHf]) (B := fun _ => []) (R := fun _ => []) (A := A) (tabY_ok _ _) hH noB_ok noR_ok follows_mixed hA hX (by kernel_rfl) (by kernel_rfl) (by kernel_rfl) ?_
 cbv
 repeat (simp only [c5, c6, e5, c7, e6, n1, true_and, q000, q001, q010, q011, q100, q101, q110, q111, f3, f4]; cbv)
 subst hA hX hW
 exact ret_v rfl rfl
structure FsHr where
 hruns : Bool
def FsHr0 : FsHr where
 hruns := true
def kn_hruns (F : FsHr) : FuncId × (List DV → RV) := (4, fun args => match args with
 | [] => some ([], boolD F.hruns)
 | _ => none)
theorem ok_hruns (args : List DV) (cs : List Prop) (r : DV) (h : (kn_hruns FsHr0).2 args = some (cs, r)) (hc : allP cs True) : FnV Try.prog 4 args r ∧ closedL 0 args = true := by
 unfold kn_hruns at h
 simp only at h
 split at h
 · cases h; exact ⟨v_hruns, rfl⟩
 · cases h
end Go.Proofs.Ytadnpgkddgbhkaa
