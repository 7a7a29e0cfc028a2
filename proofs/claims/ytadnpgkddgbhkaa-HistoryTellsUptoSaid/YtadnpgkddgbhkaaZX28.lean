/- Histories: the law's small functions. No condition. -/
import Derived.Test.YtadnpgkddgbhkaaZX27
namespace Go.Proofs.Ytadnpgkddgbhkaa
open Go.RowKit Go.Maps
set_option linter.all false
set_option maxHeartbeats 8000000
abbrev aB : ByteArray := { data := #[97] }
abbrev oneB2 : ByteArray := { data := #[49] }
def putC : Cmd := ⟨2, 1, 1, aB, none8, none8, oneB2⟩
def getC : Cmd := ⟨1, 2, 1, aB, none8, none8, none8⟩
def evC (c : Cmd) : Ev := ⟨1, c.client, c, zeroRep⟩
def evR (c : Cmd) (r : Reply) : Ev := ⟨2, c.client, c, r⟩
theorem an_Hi120 {p q : Prop} (hq : q) (hp : p := by subst hA hX ; clear hH hB; first | exact trivial | exact rfl | assumption | (simp [A0]; done) | (intro q; simpa [A0] using q) | (intro _; trivial) | (show _ = true; kernel_rfl)) : p ∧ q := ⟨hp, hq⟩
set_option maxRecDepth 100000 in
theorem v_lput  : FnV Try.prog 21 [] (Cmd.D putC) := by
 have hH : SoundK Try.prog [] := by exact noK_ok
 have hB : SoundB Try.prog [] := by exact noB_ok
 refine FnD_cbv (T := fun _ => tabY [] []) (H := fun _ => []) (tabY_ok _ _) hH follows_mixed Try.func21 rfl Try.ntmps21 (by simp) fun A X W hA hX hW => ?_
 cbv
 repeat first
  | refine an_Hi120 ?_
  | ((with_reducible refine callB hX hB ?_); cbv; fail_if_success show False)
 subst hA hX hW
 exact ret_v rfl rfl
set_option maxRecDepth 100000 in
theorem v_lget  : FnV Try.prog 23 [] (Cmd.D getC) := by
 have hH : SoundK Try.prog [] := by exact noK_ok
 have hB : SoundB Try.prog [] := by exact noB_ok
 refine FnD_cbv (T := fun _ => tabY [] []) (H := fun _ => []) (tabY_ok _ _) hH follows_mixed Try.func23 rfl Try.ntmps23 (by simp) fun A X W hA hX hW => ?_
 cbv
 repeat first
  | refine an_Hi120 ?_
  | ((with_reducible refine callB hX hB ?_); cbv; fail_if_success show False)
 subst hA hX hW
 exact ret_v rfl rfl
set_option maxRecDepth 100000 in
theorem v_lcall (c : Cmd) : FnV Try.prog 20 [Cmd.D c] (.agg (evC c).cells) := by
 have hH : SoundK Try.prog [] := by exact noK_ok
 have hB : SoundB Try.prog [] := by exact noB_ok
 refine FnD_cbv (T := fun _ => tabY [] []) (H := fun _ => []) (tabY_ok _ _) hH follows_mixed Try.func20 rfl Try.ntmps20 (by simp) fun A X W hA hX hW => ?_
 cbv
 repeat first
  | refine an_Hi120 ?_
  | ((with_reducible refine callB hX hB ?_); cbv; fail_if_success show False)
 subst hA hX hW
 exact ret_up ⟨_, rfl, _, _, rfl, .inl rfl, _, _, rfl, .inl rfl, _, _, rfl, .inl rfl, _, _, rfl, .inl rfl, _, _, rfl, .inl rfl, _, _, rfl, .inl rfl, _, _, rfl, .inl rfl, _, _, rfl, .inl rfl, _, _, rfl, .inl rfl, _, _, rfl, .inl rfl, _, _, rfl, .inl rfl, _, _, rfl, .inl rfl, _, _, rfl, .inl rfl, _, _, rfl, .inr ⟨rfl, 3, rfl⟩, rfl⟩ rfl
set_option maxRecDepth 100000 in
theorem v_lback (c : Cmd) (r : Reply) : FnV Try.prog 22 [Cmd.D c, Reply.D r] (.agg (evR c r).cells) := by
 have hH : SoundK Try.prog [] := by exact noK_ok
 have hB : SoundB Try.prog [] := by exact noB_ok
 refine FnD_cbv (T := fun _ => tabY [] []) (H := fun _ => []) (tabY_ok _ _) hH follows_mixed Try.func22 rfl Try.ntmps22 (by simp) fun A X W hA hX hW => ?_
 cbv
 repeat first
  | refine an_Hi120 ?_
  | ((with_reducible refine callB hX hB ?_); cbv; fail_if_success show False)
 subst hA hX hW
 exact ret_v rfl rfl
theorem an_Hi121 {p q : Prop} (hq : q) (hp : p := by subst hA hX hFsHl; clear hH hB; first | exact trivial | exact rfl | assumption | (simp [A0]; done) | (intro q; simpa [A0] using q) | (intro _; trivial) | (show _ = true; kernel_rfl)) : p ∧ q := ⟨hp, hq⟩
noncomputable def isR (want : Bool) (xs : List (List PD)) : Bool := decide ((linR xs).1 = want) && (linR xs).2
set_option maxRecDepth 100000 in
theorem v_lis (want : Bool) (xs : List (List PD)) (hev : isEv xs) : FnV Try.prog 19 [.d (.sc (.bool want)), .d (.slc 14 xs)] (.d (.sc (.bool (isR want xs)))) := by
 obtain ⟨GFsHl, hFsHl⟩ : ∃ F, F = FsHl0 := ⟨_, rfl⟩
 have hH : SoundK Try.prog [kn_linear GFsHl] := by subst hFsHl; exact orK_ok ok_linear noK_ok
 have hB : SoundB Try.prog [] := by subst hFsHl; exact noB_ok
 refine FnD_cbv (T := fun _ => tabY [] []) (H := fun _ => [kn_linear GFsHl]) (tabY_ok _ _) hH follows_mixed Try.func19 rfl Try.ntmps19 (by simp) fun A X W hA hX hW => ?_
 cbv
 have hop : GFsHl.linear xs = linR xs := by subst hFsHl; rfl
 have hE : GFsHl.isEv xs := by subst hFsHl; exact hev
 obtain ⟨a, b, hab⟩ : ∃ a b, linR xs = (a, b) := ⟨_, _, rfl⟩
 rw [hab] at hop
 obtain ⟨eb, t2⟩ : ∃ t, A.beq a want = t := ⟨_, rfl⟩
 have heb : eb = decide (a = want) := by rw [← t2]; subst hA; rfl
 have hr : isR want xs = (eb && b) := by unfold isR; rw [hab, heb]
 cbv at hop hE t2
 repeat first
  | (simp only [hop, t2]; cbv)
  | refine an_Hi121 ?_
  | ((with_reducible refine callB hX hB ?_); cbv; fail_if_success show False)
 cases eb
 all_goals cbv
 all_goals
  repeat first
   | (simp only [hop, t2]; cbv)
   | refine an_Hi121 ?_
   | ((with_reducible refine callB hX hB ?_); cbv; fail_if_success show False)
 all_goals subst hA hX hW
 all_goals rw [hr]
 all_goals exact ret_v (by cases b <;> rfl) rfl
def hA1 : List Ev := [evC putC, evR putC ⟨0, false, none8, 1, []⟩, evC getC, evR getC ⟨0, true, oneB2, 1, []⟩]
def hA2 : List Ev := [evC putC, evR putC ⟨0, false, none8, 1, []⟩, evC getC, evR getC zeroRep]
def hA3 : List Ev := [evC putC, evC getC, evR getC zeroRep]
def hA4 : List Ev := [evC putC, evC getC, evR getC ⟨0, true, oneB2, 1, []⟩]
end Go.Proofs.Ytadnpgkddgbhkaa
namespace Go.Proofs.Ytadnpgkddgbhkaa
open Go.RowKit Go.Maps
set_option linter.all false
noncomputable def linB (L : List Ev) : Nat → Int → List DV → Bool
 | 0, d, s => !leftF d L 0
 | n + 1, d, s => !leftF d L 0 || (List.range L.length).any fun i => mayL L i d && (fitR s (L.getD i default) && linB L n (orX d i) (applyS s (L.getD i default).c).1)
theorem linB_sound {L : List Ev} : ∀ (n : Nat) (d : Int) (s : List DV), linB L n d s = true → Lin L d s
 | 0, d, s, h => .done (by simpa [linB] using h)
 | n + 1, d, s, h => by
     rw [linB, Bool.or_eq_true] at h
     rcases h with h | h
     ·exact .done (by simpa using h)
     ·rw [List.any_eq_true] at h
      obtain ⟨i, hi, h⟩ := h
      simp only [Bool.and_eq_true] at h
      have hi2 := List.mem_range.1 hi
      exact .step (k := (i : Int)) (by omega) (by omega) h.1 h.2.1 (linB_sound n _ _ h.2.2)
theorem Lin.linB {L : List Ev} {d : Int} {s : List DV} (hL : L.length ≤ 12) (h : Lin L d s) : ∀ n0 : Nat, d = (n0 : Int) → n0 < 4096 → ∀ N, remN n0 ≤ N → linB L N d s = true := by
 induction h with
 | done h =>
   intro n0 _ _ N _
   cases N <;> simp [Go.Proofs.Ytadnpgkddgbhkaa.linB, h]
 | @step d s k k0 k1 hm hf _ ih =>
   intro n0 hd hn N hN
   have hb : n0.testBit k.toNat = false := by
    unfold mayL at hm
    rw [hd, bit_nat hn k0 (by omega)] at hm
    cases hb : n0.testBit k.toNat with
    | false => rfl
    | true => rw [hb] at hm; simp at hm
   have hlt := remN_or (n := n0) (k := k.toNat) (by omega) hb
   have ho := or_nat hn k0 (by omega : k < 12)
   obtain ⟨M, rfl⟩ : ∃ M, N = M + 1 := ⟨N - 1, by omega⟩
   have h2 := ih (n0 ||| 2 ^ k.toNat) (by rw [← ho, ← hd]) (or_lt hn (by omega)) M (by omega)
   rw [Go.Proofs.Ytadnpgkddgbhkaa.linB, Bool.or_eq_true, List.any_eq_true]
   have ek : ((k.toNat : Nat) : Int) = k := by omega
   refine .inr ⟨k.toNat, List.mem_range.2 (by omega), ?_⟩
   rw [ek, hm, hf, h2]
   rfl
theorem lin_iff {L : List Ev} {s : List DV} (hL : L.length ≤ 12) : Lin L 0 s ↔ linB L 12 0 s = true := ⟨fun h => h.linB hL 0 rfl (by decide) 12 (by decide), linB_sound 12 0 s⟩
def repC (a b : Reply) : Bool := decide (a.why = b.why) && (decide (a.found = b.found) && (decide (a.value = b.value) && (decide (a.version = b.version) && decide (pairsOf a.pairs = pairsOf b.pairs))))
theorem rep_c {a b : Reply} (ha : isP a.pairs) (hb : isP b.pairs) : repliesX a b = repC a b := by
 obtain ⟨ps, hps, _⟩ := ha
 obtain ⟨qs, hqs, _⟩ := hb
 obtain ⟨w, f, v, r, xs⟩ := a
 obtain ⟨w2, f2, v2, r2, ys⟩ := b
 replace hps : xs = pairsX ps := hps
 replace hqs : ys = pairsX qs := hqs
 subst hps hqs
 rw [Bool.eq_iff_iff, repliesX_iff]
 simp only [repC, Bool.and_eq_true, decide_eq_true_eq, pairsOf_X, Reply.mk.injEq, pairsX_inj]
noncomputable def linC (L : List Ev) : Nat → Int → List DV → Bool
 | 0, d, s => !leftF d L 0
 | n + 1, d, s => !leftF d L 0 || (List.range L.length).any fun i => mayL L i d && ((decide ((L.getD i default).b < 0) || repC (applyS s (L.getD i default).c).2 (L.getD i default).r) && linC L n (orX d i) (applyS s (L.getD i default).c).1)
theorem linB_C {L : List Ev} (hev : ∀ e ∈ L, isP e.r.pairs) : ∀ (n : Nat) (d : Int) (s : List DV) (j : Int), stOk j s → 0 ≤ j → j + n ≤ 1000 → linB L n d s = linC L n d s
 | 0, d, s, j, _, _, _ => rfl
 | n + 1, d, s, j, hs, h0, h1 => by
     rw [linB, linC]
     congr 1
     rw [Bool.eq_iff_iff, List.any_eq_true, List.any_eq_true]
     have key : ∀ i ∈ List.range L.length, (mayL L i d && (fitR s (L.getD i default) && linB L n (orX d i) (applyS s (L.getD i default).c).1)) = (mayL L i d && ((decide ((L.getD i default).b < 0) || repC (applyS s (L.getD i default).c).2 (L.getD i default).r) && linC L n (orX d i) (applyS s (L.getD i default).c).1)) := by
      intro i hi
      have hi2 := List.mem_range.1 hi
      have hm : L.getD i default ∈ L := by rw [List.getD_eq_getElem?_getD, List.getElem?_eq_getElem hi2]; exact List.getElem_mem _
      rw [linB_C hev n _ _ (j + 1) (hs.app h0 (by omega) _) (by omega) (by omega)]
      unfold fitR
      rw [rep_c (hs.rep h0 (by omega) _) (hev _ hm)]
     constructor
     ·rintro ⟨i, hi, h⟩
      exact ⟨i, hi, (key i hi) ▸ h⟩
     ·rintro ⟨i, hi, h⟩
      exact ⟨i, hi, (key i hi) ▸ h⟩
noncomputable def zSt : List DV := cellsS [] (List.replicate 8 ⟨0, zeroRep⟩)
theorem zSt_ok : stOk 0 zSt := ⟨[], _, rfl, zero_st⟩
theorem lin_run {l o : List Ev} {b : Bool} (ho : opsM l = some o) (hl : o.length ≤ 12) (hev : ∀ e ∈ o, isP e.r.pairs) (hb : linC o 12 0 zSt = b) : linR (evsX l) = (b, true) := by
 unfold linR linM
 rw [evsOf_X, ho]
 have h2 : ¬ 12 < o.length := by omega
 simp only [h2, if_false]
 congr 1
 refine cdec _ _ ?_
 rw [show cellsS [] (List.replicate 8 ⟨0, zeroRep⟩) = zSt from rfl, lin_iff hl, linB_C hev 12 0 zSt 0 zSt_ok (Int.le_refl 0) (by decide), hb]
noncomputable def ranC (o : List Ev) : List Int → Int → List Int → List DV → Option (List Int)
 | [], _, at_, _ => some at_
 | k :: r, i, at_, s => bif (decide (k < 0) || decide ((o.length : Int) ≤ k) || decide (at_.getD k.toNat 0 > 0)) then none
   else bif decide (0 ≤ (o.getD k.toNat default).b) && !repC (applyS s (o.getD k.toNat default).c).2 (o.getD k.toNat default).r then none
   else ranC o r (i + 1) (at_.set k.toNat (i + 1)) (applyS s (o.getD k.toNat default).c).1
theorem ranF_C {o : List Ev} (hev : ∀ e ∈ o, isP e.r.pairs) : ∀ (r : List Int) (i : Int) (at_ : List Int) (s : List DV) (j : Int), stOk j s → 0 ≤ j → j + r.length ≤ 1152921504606846976 → ranF o r i at_ s = ranC o r i at_ s
 | [], _, _, _, _, _, _, _ => rfl
 | k :: r, i, at_, s, j, hs, h0, h1 => by
     rw [List.length_cons] at h1
     rw [ranF, ranC]
     cases hb : (decide (k < 0) || decide ((o.length : Int) ≤ k) || decide (at_.getD k.toNat 0 > 0)) with
     | true => rfl
     | false =>
       simp only [Bool.or_eq_false_iff, decide_eq_false_iff_not] at hb
       have hm : o.getD k.toNat default ∈ o := by rw [List.getD_eq_getElem?_getD, List.getElem?_eq_getElem (by omega)]; exact List.getElem_mem _
       rw [cond_false, cond_false, rep_c (hs.rep h0 (by omega) _) (hev _ hm), ranF_C hev r (i + 1) _ _ (j + 1) (hs.app h0 (by omega) _) (by omega) (by omega)]
theorem fits_run {l o : List Ev} {r : List Int} {b : Bool} (ho : opsM l = some o) (hev : ∀ e ∈ o, isP e.r.pairs) (hr : r.length ≤ 1000) (hb : (match ranC o r 0 (List.replicate o.length 0) zSt with | none => false | some at_ => chkF o at_ o 0) = b) : fitsR (evsX l) (numsX r) = b := by
 unfold fitsR fitsM
 rw [evsOf_X, numsOf_X, ho]
 simp only []
 rw [show cellsS [] (List.replicate 8 ⟨0, zeroRep⟩) = zSt from rfl, ranF_C hev r 0 _ zSt 0 zSt_ok (Int.le_refl 0) (by omega)]
 exact hb
theorem noP {o : List Ev} (h : (o.all fun e => e.r.pairs.isEmpty) = true) : ∀ e ∈ o, isP e.r.pairs := fun e he => by
 rw [List.all_eq_true] at h
 rw [List.isEmpty_iff.1 (h e he)]
 exact isP.nil
def oA (l : List Ev) : List Ev := (opsM l).getD []
theorem run1 : linR (evsX hA1) = (true, true) := lin_run (o := oA hA1) (by rfl) (by decide) (noP (by kernel_rfl)) (by kernel_rfl)
theorem run2 : linR (evsX hA2) = (false, true) := lin_run (o := oA hA2) (by rfl) (by decide) (noP (by kernel_rfl)) (by kernel_rfl)
theorem run3 : linR (evsX hA3) = (true, true) := lin_run (o := oA hA3) (by rfl) (by decide) (noP (by kernel_rfl)) (by kernel_rfl)
theorem run4 : linR (evsX hA4) = (true, true) := lin_run (o := oA hA4) (by rfl) (by decide) (noP (by kernel_rfl)) (by kernel_rfl)
theorem run5 : fitsR (evsX hA4) (numsX [0, 1]) = true := fits_run (o := oA hA4) (by rfl) (noP (by kernel_rfl)) (by decide) (by kernel_rfl)
theorem run6 : fitsR (evsX hA4) (numsX [1, 0]) = false := fits_run (o := oA hA4) (by rfl) (noP (by kernel_rfl)) (by decide) (by kernel_rfl)
end Go.Proofs.Ytadnpgkddgbhkaa
namespace Go.Proofs.Ytadnpgkddgbhkaa
open Go.RowKit Go.Maps
set_option linter.all false
set_option maxHeartbeats 4000000
end Go.Proofs.Ytadnpgkddgbhkaa
namespace Go.Proofs.Ytadnpgkddgbhkaa
open Go.RowKit Go.Maps
set_option linter.all false
set_option maxHeartbeats 4000000
structure MOp where
 cl : Int
 wait : Int
 c : Cmd
 ret : Bool
 lie : Bool
structure MSt where
 s : List DV
 n : Int
 opn : List Int
 seq : List Int
 cmds : List Cmd
 told : List Reply
 out : List Ev
 ord : List Int
def mK (x : MOp) : Nat := (x.cl % 8).toNat
theorem mK_lt (x : MOp) : mK x < 8 := by unfold mK; omega
def mCmd (st : MSt) (x : MOp) : Cmd := ⟨x.c.kind, (mK x : Int) + 1, st.seq.getD (mK x) 0 + 1, x.c.key, x.c.fin, x.c.old, x.c.val⟩
def lieV (x : MOp) (v : Int) : Int := bif x.lie then IntKind.wrap .i64 (IntKind.wrap .i64 (v + 1) + bitsV IntKind.i64 (· &&& ·) x.wait 1) else v
def mRep (st : MSt) (x : MOp) : Reply := ⟨(st.told.getD (mK x) zeroRep).why, (st.told.getD (mK x) zeroRep).found, (st.told.getD (mK x) zeroRep).value, lieV x (st.told.getD (mK x) zeroRep).version, (st.told.getD (mK x) zeroRep).pairs⟩
noncomputable def mCall (st : MSt) (x : MOp) : MSt := { st with n := st.n + 1, opn := st.opn.set (mK x) (st.n + 1), seq := st.seq.set (mK x) (st.seq.getD (mK x) 0 + 1), cmds := st.cmds.set (mK x) (mCmd st x), out := st.out ++ [evC (mCmd st x)] }
noncomputable def mDo (st : MSt) (x : MOp) : MSt := { st with s := (applyS st.s (st.cmds.getD (mK x) .zero)).1, told := st.told.set (mK x) (applyS st.s (st.cmds.getD (mK x) .zero)).2, ord := st.ord ++ [st.opn.getD (mK x) 0 - 1], opn := st.opn.set (mK x) (-1) }
noncomputable def mRet (st : MSt) (x : MOp) : MSt := { st with out := st.out ++ [evR (st.cmds.getD (mK x) .zero) (mRep st x)], opn := st.opn.set (mK x) 0 }
noncomputable def mstep (st : MSt) (x : MOp) : MSt :=
 bif decide (st.opn.getD (mK x) 0 = 0) then (bif rightC (mCmd st x) && !decide (x.c.kind = 0) then mCall st x else st)
 else bif decide (0 < st.opn.getD (mK x) 0) then mDo st x
 else bif x.ret then mRet st x else st
noncomputable def madeF : List MOp → MSt → MSt
 | [], st => st
 | x :: l, st => bif decide (st.n < 12) then madeF l (mstep st x) else st
noncomputable def mZero : MSt := ⟨zSt, 0, List.replicate 8 0, List.replicate 8 0, List.replicate 8 .zero, List.replicate 8 zeroRep, [], []⟩
theorem getD_set' {α : Type} {l : List α} {k j : Nat} {v d : α} (h : k < l.length) : (l.set k v).getD j d = if j = k then v else l.getD j d := by
 simp only [List.getD_eq_getElem?_getD, List.getElem?_set]
 by_cases hj : k = j
 ·subst hj; simp [h]
 ·rw [if_neg hj, if_neg (fun e => hj e.symm)]
structure MB (i : Int) (st : MSt) : Prop where
 lo : st.opn.length = 8
 ls : st.seq.length = 8
 lc : st.cmds.length = 8
 lt : st.told.length = 8
 n0 : 0 ≤ st.n
 n12 : st.n ≤ 12
 ob : ∀ k, -1 ≤ st.opn.getD k 0 ∧ st.opn.getD k 0 ≤ st.n
 sb : ∀ k, 0 ≤ st.seq.getD k 0 ∧ st.seq.getD k 0 ≤ st.n
 ok : ∃ j, 0 ≤ j ∧ j ≤ i ∧ stOk j st.s
 ev : ∀ e ∈ st.out, (e.a = 1 ∨ e.a = 2) ∧ (1 ≤ e.b ∧ e.b ≤ 8) ∧ (1 ≤ e.c.client ∧ e.c.client ≤ 8) ∧ isP e.r.pairs
 len : (st.out.length : Int) ≤ i
 told : ∀ k, isP (st.told.getD k zeroRep).pairs
 cli : ∀ k, k < 8 → st.opn.getD k 0 ≠ 0 → (st.cmds.getD k .zero).client = (k : Int) + 1
 cnt : ((st.out.filter fun e => decide (e.a = 1)).length : Int) = st.n
 oln : (st.ord.length : Int) ≤ i
 obd : ∀ p ∈ st.ord, 0 ≤ p ∧ p < st.n
theorem repl_getD {α : Type} (n k : Nat) (d : α) : (List.replicate n d).getD k d = d := by
 rw [List.getD_eq_getElem?_getD, List.getElem?_replicate]
 split <;> rfl
theorem mZ1 {a : Int} (h : a = 0) : -1 ≤ a ∧ a ≤ 0 := by omega
theorem mZ2 {a : Int} (h : a = 0) : 0 ≤ a ∧ a ≤ 0 := by omega
theorem mZero_ok : MB 0 mZero := ⟨rfl, rfl, rfl, rfl, Int.le_refl 0, by show (0 : Int) ≤ 12; omega, fun k => mZ1 (repl_getD 8 k 0), fun k => mZ2 (repl_getD 8 k 0), ⟨0, Int.le_refl 0, Int.le_refl 0, zSt_ok⟩, fun e he => (by cases he), Int.le_refl 0, fun k => (congrArg (fun r : Reply => isP r.pairs) (repl_getD 8 k zeroRep)).mpr isP.nil, fun k _ h => absurd (repl_getD 8 k 0) h, rfl, Int.le_refl 0, fun p hp => by cases hp⟩
theorem MB.more {i : Int} {st : MSt} (h : MB i st) : MB (i + 1) st := by
 obtain ⟨j, j0, j1, j2⟩ := h.ok
 exact ⟨h.lo, h.ls, h.lc, h.lt, h.n0, h.n12, h.ob, h.sb, ⟨j, j0, by omega, j2⟩, h.ev, by have := h.len; omega, h.told, h.cli, h.cnt, by have := h.oln; omega, h.obd⟩
theorem MB.call {i : Int} {st : MSt} (h : MB i st) {x : MOp} (hn : st.n < 12) : MB (i + 1) (mCall st x) := by
 obtain ⟨j, j0, j1, j2⟩ := h.ok
 have hk := mK_lt x
 have ho : ∀ q, (mCall st x).opn.getD q 0 = if q = mK x then st.n + 1 else st.opn.getD q 0 := fun q => getD_set' (by rw [h.lo]; exact hk)
 have hs : ∀ q, (mCall st x).seq.getD q 0 = if q = mK x then st.seq.getD (mK x) 0 + 1 else st.seq.getD q 0 := fun q => getD_set' (by rw [h.ls]; exact hk)
 have hc : ∀ q, (mCall st x).cmds.getD q .zero = if q = mK x then mCmd st x else st.cmds.getD q .zero := fun q => getD_set' (by rw [h.lc]; exact hk)
 have h0 := h.n0
 refine ⟨(List.length_set ..).trans h.lo, (List.length_set ..).trans h.ls, (List.length_set ..).trans h.lc, h.lt, by show 0 ≤ st.n + 1; omega, by show st.n + 1 ≤ 12; omega, fun q => ?_, fun q => ?_, ⟨j, j0, by omega, j2⟩, fun e he => ?_, ?_, h.told, fun q hq hne => ?_, ?_, by have := h.oln; show (st.ord.length : Int) ≤ i + 1; omega, fun p hp => ?_⟩
 ·rw [ho]
  have := h.ob q
  show _ ∧ _ ≤ st.n + 1
  split <;> omega
 ·rw [hs]
  have := h.sb q
  have := h.sb (mK x)
  show _ ∧ _ ≤ st.n + 1
  split <;> omega
 ·rcases List.mem_append.1 he with he | he
  ·exact h.ev e he
  ·rw [List.mem_singleton] at he
   subst he
   exact ⟨.inl rfl, ⟨by show 1 ≤ (mK x : Int) + 1; omega, by show (mK x : Int) + 1 ≤ 8; omega⟩, ⟨by show 1 ≤ (mK x : Int) + 1; omega, by show (mK x : Int) + 1 ≤ 8; omega⟩, isP.nil⟩
 ·have := h.len
  show ((st.out ++ [_]).length : Int) ≤ _
  rw [List.length_append, List.length_singleton]
  omega
 ·rw [hc]
  rw [ho] at hne
  by_cases hq2 : q = mK x
  ·rw [if_pos hq2, hq2]; rfl
  ·rw [if_neg hq2] at hne ⊢
   exact h.cli q hq hne
 ·have := h.cnt
  show (((st.out ++ [_]).filter _).length : Int) = st.n + 1
  rw [List.filter_append, List.length_append]
  show ((_ + 1 : Nat) : Int) = _
  omega
 ·have := h.obd p hp
  exact ⟨this.1, by show p < st.n + 1; omega⟩
theorem MB.do {i : Int} {st : MSt} (h : MB i st) (hi : i ≤ 1048576) {x : MOp} (hpos : 0 < st.opn.getD (mK x) 0) : MB (i + 1) (mDo st x) := by
 obtain ⟨j, j0, j1, j2⟩ := h.ok
 have hk := mK_lt x
 have ho : ∀ q, (mDo st x).opn.getD q 0 = if q = mK x then -1 else st.opn.getD q 0 := fun q => getD_set' (by rw [h.lo]; exact hk)
 have ht : ∀ q, (mDo st x).told.getD q zeroRep = if q = mK x then (applyS st.s (st.cmds.getD (mK x) .zero)).2 else st.told.getD q zeroRep := fun q => getD_set' (by rw [h.lt]; exact hk)
 have h0 := h.n0
 refine ⟨(List.length_set ..).trans h.lo, h.ls, h.lc, (List.length_set ..).trans h.lt, h.n0, h.n12, fun q => ?_, h.sb, ⟨j + 1, by omega, by omega, j2.app j0 (by omega) _⟩, h.ev, by have := h.len; show (st.out.length : Int) ≤ i + 1; omega, fun q => ?_, fun q hq hne => ?_, h.cnt, ?_, fun p hp => ?_⟩
 ·rw [ho]
  have := h.ob q
  show _ ∧ _ ≤ st.n
  split <;> omega
 ·rw [ht]
  split
  ·exact j2.rep j0 (by omega) _
  ·exact h.told q
 ·rw [ho] at hne
  by_cases hq2 : q = mK x
  ·rw [hq2]
   exact h.cli (mK x) hk (by omega)
  ·rw [if_neg hq2] at hne
   exact h.cli q hq hne
 ·have := h.oln
  show ((st.ord ++ [_]).length : Int) ≤ _
  rw [List.length_append, List.length_singleton]
  omega
 ·rcases List.mem_append.1 hp with hp | hp
  ·exact h.obd p hp
  ·rw [List.mem_singleton] at hp
   subst hp
   have := h.ob (mK x)
   exact ⟨by omega, by show _ < st.n; omega⟩
theorem MB.ret {i : Int} {st : MSt} (h : MB i st) {x : MOp} (hne0 : st.opn.getD (mK x) 0 ≠ 0) : MB (i + 1) (mRet st x) := by
 obtain ⟨j, j0, j1, j2⟩ := h.ok
 have hk := mK_lt x
 have ho : ∀ q, (mRet st x).opn.getD q 0 = if q = mK x then 0 else st.opn.getD q 0 := fun q => getD_set' (by rw [h.lo]; exact hk)
 have h0 := h.n0
 have hcl := h.cli (mK x) hk hne0
 refine ⟨(List.length_set ..).trans h.lo, h.ls, h.lc, h.lt, h.n0, h.n12, fun q => ?_, h.sb, ⟨j, j0, by omega, j2⟩, fun e he => ?_, ?_, h.told, fun q hq hne => ?_, ?_, by have := h.oln; show (st.ord.length : Int) ≤ i + 1; omega, h.obd⟩
 ·rw [ho]
  have := h.ob q
  show _ ∧ _ ≤ st.n
  split <;> omega
 ·rcases List.mem_append.1 he with he | he
  ·exact h.ev e he
  ·rw [List.mem_singleton] at he
   subst he
   refine ⟨.inr rfl, ?_, ?_, h.told _⟩
   ·show 1 ≤ (st.cmds.getD (mK x) .zero).client ∧ (st.cmds.getD (mK x) .zero).client ≤ 8
    omega
   ·show 1 ≤ (st.cmds.getD (mK x) .zero).client ∧ (st.cmds.getD (mK x) .zero).client ≤ 8
    omega
 ·have := h.len
  show ((st.out ++ [_]).length : Int) ≤ _
  rw [List.length_append, List.length_singleton]
  omega
 ·rw [ho] at hne
  by_cases hq2 : q = mK x
  ·rw [if_pos hq2] at hne
   exact absurd rfl hne
  ·rw [if_neg hq2] at hne
   exact h.cli q hq hne
 ·have := h.cnt
  show (((st.out ++ [_]).filter _).length : Int) = st.n
  rw [List.filter_append, List.length_append]
  show ((_ + 0 : Nat) : Int) = _
  omega
theorem MB.step {i : Int} {st : MSt} (h : MB i st) (hi : i ≤ 1048576) {x : MOp} (hn : st.n < 12) : MB (i + 1) (mstep st x) := by
 unfold mstep
 cases h1 : decide (st.opn.getD (mK x) 0 = 0) with
 | true =>
   rw [cond_true]
   cases h2 : rightC (mCmd st x) && !decide (x.c.kind = 0) with
   | true => exact h.call hn
   | false => exact h.more
 | false =>
   have h1 := of_decide_eq_false h1
   rw [cond_false]
   cases h2 : decide (0 < st.opn.getD (mK x) 0) with
   | true => exact h.do hi (of_decide_eq_true h2)
   | false =>
     rw [cond_false]
     cases h3 : x.ret with
     | true => exact h.ret h1
     | false => exact h.more
theorem MB.made : ∀ (l : List MOp) (i : Int) (st : MSt), MB i st → 0 ≤ i → i + l.length ≤ 1048576 → MB (i + l.length) (madeF l st)
 | [], i, st, h, h0, hi => by rw [madeF]; simpa using h
 | x :: l, i, st, h, h0, hi => by
     rw [List.length_cons] at hi ⊢
     rw [madeF, show i + ((l.length + 1 : Nat) : Int) = i + 1 + (l.length : Int) by omega]
     cases hn : decide (st.n < 12) with
     | true => exact MB.made l (i + 1) _ (h.step (by omega) (of_decide_eq_true hn)) (by omega) (by omega)
     | false =>
       rw [cond_false]
       have key : ∀ (m : Nat) (i : Int), MB i st → MB (i + m) st := by
        intro m
        induction m with
        | zero => intro i h; simpa using h
        | succ m ih => intro i h; have := ih (i + 1) h.more; rwa [show i + 1 + (m : Int) = i + ((m + 1 : Nat) : Int) by omega] at this
       exact key _ _ h.more
theorem MB.isEv {i : Int} {st : MSt} (h : MB i st) (hi : i ≤ 1048576) : isEv (evsX st.out) := ⟨st.out, rfl, by have := h.len; omega, fun e he => by
 have := h.ev e he
 exact ⟨by unfold r64; omega, by unfold r64; omega, by unfold r64; omega, this.2.2.2⟩⟩
end Go.Proofs.Ytadnpgkddgbhkaa
namespace Go.Proofs.Ytadnpgkddgbhkaa
open Go.RowKit Go.Maps
set_option linter.all false
set_option maxHeartbeats 4000000
def MOp.row (x : MOp) : List PD := [.sc (.int .i64 x.cl), .sc (.int .i64 x.wait)] ++ x.c.row ++ [.sc (.bool x.ret), .sc (.bool x.lie)]
def mopsX (l : List MOp) : List (List PD) := l.map MOp.row
def isMops (xs : List (List PD)) : Prop := ∃ l, xs = mopsX l ∧ l.length ≤ 1048575 ∧ ∀ x ∈ l, r64 x.cl
theorem mopsX_len (l : List MOp) : (mopsX l).length = l.length := by simp [mopsX]
theorem mrow {xs : List (List PD)} {l : List MOp} (hxs : xs = mopsX l) {i : Int} (h0 : 0 ≤ i) (h1 : i < l.length) : xs.getD i.toNat [] = (l[i.toNat]'(by omega)).row := by
 subst hxs
 have : i.toNat < l.length := by omega
 simp [mopsX, List.getD_eq_getElem?_getD, this]
def flatC {α : Type} (f : α → List DV) (l : List α) : List DV := (l.map f).flatten
theorem flatC_len {α : Type} {f : α → List DV} {sz : Nat} (hf : ∀ a, (f a).length = sz) : ∀ l : List α, (flatC f l).length = l.length * sz
 | [] => by simp [flatC]
 | a :: l => by
     show (f a ++ flatC f l).length = _
     rw [List.length_append, hf, flatC_len hf l, List.length_cons, Nat.add_mul]
     omega
theorem flatC_row {α : Type} {f : α → List DV} {sz : Nat} (hf : ∀ a, (f a).length = sz) : ∀ (l : List α) (j : Nat) (h : j < l.length), (flatC f l).drop (j * sz) = f l[j] ++ flatC f (l.drop (j + 1))
 | [], j, h => by cases h
 | a :: l, 0, h => by rw [Nat.zero_mul]; rfl
 | a :: l, j + 1, h => by
     have h2 : j < l.length := by simpa using h
     show (f a ++ flatC f l).drop ((j + 1) * sz) = _
     rw [show (j + 1) * sz = (f a).length + j * sz by rw [hf, Nat.add_mul]; omega, ← List.drop_drop, List.drop_left]
     exact flatC_row hf l j h2
theorem flatC_take {α : Type} {f : α → List DV} {sz : Nat} (hf : ∀ a, (f a).length = sz) {l : List α} {j : Nat} (h : j < l.length) : ((flatC f l).drop (j * sz)).take sz = f l[j] := by
 rw [flatC_row hf l j h, List.take_append_of_le_length (by rw [hf]; exact Nat.le_refl _), List.take_of_length_le (by rw [hf]; exact Nat.le_refl _)]
theorem flatC_get {α : Type} {f : α → List DV} {sz : Nat} (hf : ∀ a, (f a).length = sz) {l : List α} {j : Nat} (h : j < l.length) {m : Nat} (hm : m < sz) : (flatC f l)[j * sz + m]? = (f l[j])[m]? := by
 rw [← List.getElem?_drop, flatC_row hf l j h, List.getElem?_append_left (by rw [hf]; exact hm)]
theorem flatC_app {α : Type} (f : α → List DV) (a b : List α) : flatC f (a ++ b) = flatC f a ++ flatC f b := by simp [flatC]
theorem flatC_spl {α : Type} {f : α → List DV} {sz : Nat} (hf : ∀ a, (f a).length = sz) {l : List α} {j : Nat} (h : j < l.length) (a : α) : splice (flatC f l) (j * sz) (f a) = flatC f (l.set j a) := by
 have e1 : flatC f l = flatC f (l.take j) ++ (f l[j] ++ flatC f (l.drop (j + 1))) := by
  have e : l = l.take j ++ (l[j] :: l.drop (j + 1)) := by rw [← List.drop_eq_getElem_cons, List.take_append_drop]
  conv => lhs; rw [e, flatC_app]
  rfl
 have e2 : flatC f (l.set j a) = flatC f (l.take j) ++ (f a ++ flatC f (l.drop (j + 1))) := by
  rw [List.set_eq_take_append_cons_drop, if_pos h, flatC_app]
  rfl
 have e3 : j * sz = (flatC f (l.take j)).length + 0 := by rw [flatC_len hf, List.length_take, Nat.min_eq_left (by omega)]; rfl
 rw [e1, e2, e3, splice_mid _ _ _ _ _ (by rw [hf, hf]; omega)]
 congr 2
 simp [splice, hf]
theorem flatC_closed {α : Type} {f : α → List DV} (hf : ∀ a, closedL 0 (f a) = true) (κ : List Nat) (hp : ∀ a, pullL κ (f a) = f a) : ∀ l : List α, pullL κ (flatC f l) = flatC f l := by
 intro l
 rw [pullL_eq]
 induction l with
 | nil => rfl
 | cons a l ih =>
   show (f a ++ flatC f l).map _ = _
   rw [List.map_append, ih, ← pullL_eq, hp]
   rfl
def cmdC (c : Cmd) : List DV := [.d (.sc (.int .i64 c.kind)), .d (.sc (.int .i64 c.client)), .d (.sc (.int .i64 c.seq)), .d (.sc (.string c.key)), .d (.sc (.string c.fin)), .d (.sc (.string c.old)), .d (.sc (.string c.val))]
def repC5 (r : Reply) : List DV := [.d (.sc (.int .i64 r.why)), .d (.sc (.bool r.found)), .d (.sc (.string r.value)), .d (.sc (.int .i64 r.version)), .d (.slc 3 r.pairs)]
theorem cmdC_len (c : Cmd) : (cmdC c).length = 7 := rfl
theorem repC5_len (c : Reply) : (repC5 c).length = 5 := rfl
theorem cmdsC_pull (κ : List Nat) (l : List Cmd) : pullL κ (flatC cmdC l) = flatC cmdC l := flatC_closed (fun _ => rfl) κ (fun _ => rfl) l
theorem repsC_pull (κ : List Nat) (l : List Reply) : pullL κ (flatC repC5 l) = flatC repC5 l := flatC_closed (fun _ => rfl) κ (fun _ => rfl) l
def ordV : Nat → Nat → Nat → DV
 | 0, _, _ => .d (.sc (.slice none 0 0))
 | n + 1, b, v => .view 1 b v 0 (n + 1)
def ordB : Nat → List DV → Nat → Store
 | 0, _, _ => []
 | n + 1, dc, v => [⟨3, dc, true, v, true⟩]
def outB2 : Nat → List DV → Nat → Store
 | 0, _, _ => []
 | n + 1, dc, v => [⟨50, dc, true, v, true⟩]
noncomputable def madeM (l : List MOp) : List Ev × List Int := ((madeF l mZero).out, (madeF l mZero).ord)
def mopOf (r : List PD) : MOp := match r with
 | [.sc (.int _ a), .sc (.int _ w), .sc (.int _ k), .sc (.int _ c), .sc (.int _ q), .sc (.string x1), .sc (.string x2), .sc (.string x3), .sc (.string x4), .sc (.bool r), .sc (.bool l)] => ⟨a, w, ⟨k, c, q, x1, x2, x3, x4⟩, r, l⟩
 | _ => ⟨0, 0, .zero, false, false⟩
def mopsOf (xs : List (List PD)) : List MOp := xs.map mopOf
theorem mopsOf_X : ∀ l : List MOp, mopsOf (mopsX l) = l
 | [] => rfl
 | x :: l => by show mopOf x.row :: mopsOf (mopsX l) = _; rw [mopsOf_X l]; rfl
noncomputable def madeR (xs : List (List PD)) : List (List PD) × List (List PD) := (evsX (madeM (mopsOf xs)).1, numsX (madeM (mopsOf xs)).2)
end Go.Proofs.Ytadnpgkddgbhkaa
