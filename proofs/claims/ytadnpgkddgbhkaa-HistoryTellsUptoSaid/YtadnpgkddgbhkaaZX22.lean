/- The document's copies: a reply, a state in new memory. No condition. -/
import Derived.Test.YtadnpgkddgbhkaaZX21
import Derived.Test.YtadnpgkddgbhkaaZX17
import Derived.Test.YtadnpgkddgbhkaaZX18
import Derived.Test.YtadnpgkddgbhkaaZX12
namespace Go.Proofs.Ytadnpgkddgbhkaa
open Go.RowKit
set_option linter.all false
set_option maxHeartbeats 4000000
theorem ret_fz {r d : DV} {st : Store} {sz b : Nat} {xs : List (List PD)} {bx : Box} (hb : st[b]? = some bx) (hl : bx.live = true) (hcells : bx.cells = rowsD xs) (hsz : ∀ x ∈ xs, x.length = sz) (hd : fzD b bx.ver sz xs d = r) (hp : pureD r = true) :
  RetW 0 (fun x st => st = [] ∧ pureD x = true ∧ x = r) d st := by
 have h1 : TellsV 0 d st r (fzSt b sz xs st) := TellsV.turn (Turn.freeze b sz xs bx hb hl (Nat.zero_le _) hcells hsz) hd.symm
 obtain ⟨d', st', h2, h3⟩ := ret_v (r := r) (d := r) (st := fzSt b sz xs st) rfl hp
 exact ⟨d', st', TellsV.trans h1 h2, h3⟩
structure FsC1 where
 copyR : Reply → Reply
 isP : List (List PD) → Prop
def FsC10 : FsC1 where
 copyR := idR
 isP := isP
set_option maxRecDepth 100000 in
theorem v_copyR (r : Reply) (hp0 : FsC10.isP r.pairs) : FnV Try.prog 32 [Reply.D r] (Reply.D ((idR r))) := by
 obtain ⟨r_why, r_found, r_value, r_version, r_pairs⟩ := r
 refine FnD_cbv (T := fun _ => tabY [] []) (H := fun _ => []) (tabY_ok _ _) noK_ok follows_mixed Try.func32 rfl Try.ntmps32 (by simp) fun A X W hA hX hW => ?_
 cbv
 repeat' (refine And.intro ?_ ?_)
 all_goals subst hA hX hW
 all_goals first
  | exact rfl
  | (show 0 + List.length _ ≤ 9007199254740992 ∧ (0 + List.length _) * 40 ≤ 140737488355328
     have := isP.len hp0
     simp only at this
     exact ⟨by omega, by omega⟩)
  | (refine ret_fz (b := 2) (sz := 3) (xs := r_pairs) rfl rfl ?_ (isP.sz hp0) ?_ rfl
     ·exact rfl
     ·simp [fzD, fzL, A0, idR, Reply.D])
def kn_copyR (F : FsC1) : FuncId × (List DV → RV) := (32, fun args => match args with
 | [.agg [.d (.sc (.int .i64 r_why)), .d (.sc (.bool r_found)), .d (.sc (.string r_value)), .d (.sc (.int .i64 r_version)), .d (.slc 3 r_pairs)]] => some ([F.isP r_pairs], Reply.D ((F.copyR ⟨r_why, r_found, r_value, r_version, r_pairs⟩)))
 | [.agg [.d (.sc (.int .i64 r_why)), .d (.sc (.bool r_found)), .d (.sc (.string r_value)), .d (.sc (.int .i64 r_version)), .d (.sc (.slice none 0 0))]] => some ([F.isP []], Reply.D ((F.copyR ⟨r_why, r_found, r_value, r_version, []⟩)))
 | _ => none)
theorem ok_copyR (args : List DV) (cs : List Prop) (r : DV) (h : (kn_copyR FsC10).2 args = some (cs, r)) (hc : allP cs True) : FnV Try.prog 32 args r ∧ closedL 0 args = true := by
 unfold kn_copyR at h
 simp only at h
 split at h
 ·cases h; exact ⟨v_copyR ⟨_, _, _, _, _⟩ hc.1, rfl⟩
 ·cases h; exact ⟨FnP.ups (v_copyR ⟨_, _, _, _, []⟩ hc.1) (UpL.agg (UpL.keep (UpL.keep (UpL.keep (UpL.keep (UpL.nil UpL.done))))) UpL.done), rfl⟩
 ·cases h
set_option maxRecDepth 100000 in
theorem v_twinL (xs : List (List PD)) (cs : List DV) (hp0 : isP xs) (hp1 : isOwn cs) : FnV Try.prog 10 [.agg (.d (.slc 3 xs) :: cs)] (.agg (.d (.slc 3 xs) :: cs)) := by
 have hcl := hp1.len
 have hcc := hp1.closed
 have hxl := hp0.len
 obtain ⟨os, hos, hcs, hop⟩ := hp1
 obtain ⟨m, hm⟩ : ∃ m, m = xs.length := ⟨_, rfl⟩
 obtain ⟨rc, hrc⟩ : ∃ rc, rc = rowsD xs := ⟨_, rfl⟩
 obtain ⟨z, hz⟩ : ∃ z, z = DV.d (.sc (.slice none 0 0)) :: Z48 := ⟨_, rfl⟩
 have hzl : z.length = 49 := by rw [hz]; rfl
 obtain ⟨F, hF⟩ : ∃ F, F = FsC10 := ⟨_, rfl⟩
 have hH : SoundK Try.prog [kn_copyR F] := by subst hF; exact orK_ok ok_copyR noK_ok
 refine FnD_cbv (T := fun _ => tabY [0, 16, 17, 21, 22, 1001, 1023, 1002, 5004] []) (H := fun _ => [kn_copyR F]) (tabY_ok _ _) hH follows_mixed Try.func10 rfl Try.ntmps10 (by simp) fun A X W hA hX hW => ?_
 cbv
 refine And.intro (by subst hA; show List.length _ ≤ 1000000; rw [List.length_cons, hcl]; decide) ?_
 repeat' (refine And.intro ?_ ?_)
 rotate_right
 refine loopL (T := fun _ => tabY [0, 16, 17, 21, 22, 1001, 1023, 1002, 5004] []) (H := fun _ => [kn_copyR F]) (tabY_ok _ _) hH follows_mixed hA hX (fun i : Int => 0 ≤ i ∧ i ≤ 8)
  (fun i => [(1, .ref 0 0 0), (2, .ref 1 0 0), (3, .d (.sc (.int .i64 i)))]) (fun _ => [⟨32, .view 3 2 1 0 m :: cs, false, 0, true⟩, ⟨32, z, false, 0, true⟩, ⟨43, rc, true, 1, true⟩])
  (fun i => 8 - i.toNat) 0 ?_ ?_ ?_
 ·exact ⟨by omega, by omega⟩
 ·subst hA hm hz hrc
  exact told_eq (by simp [A0]; try rfl) ⟨.inl rfl, .inl rfl, .inl rfl, trivial⟩
 rintro R i hR ⟨i0, i1⟩
 cbv
 rotate_left
 ·subst hA; exact rfl
 ·subst hA; exact rfl
 ·subst hA
  show 0 + xs.length ≤ 9007199254740992 ∧ (0 + xs.length) * 40 ≤ 140737488355328
  exact ⟨by omega, by omega⟩
 refine part (fun h2 => ?_) (fun h2 => ?_) <;> cbv
 ·replace i0 : 0 ≤ i := i0
  replace hos : os.length = 8 := hos
  have hi : i < 8 := by
   subst hA
   simp only [A0, decide_eq_true_eq] at h2
   exact h2
  have hin : i.toNat < os.length := by omega
  obtain ⟨q0, q1, q2, q3, q4, q5, r2, r3, r4, r5, qs1, qt, qt1, ql⟩ := st_cell (.view 3 2 1 0 m) hcs i.toNat hin
  have ho := hop _ (List.getElem_mem hin)
  generalize os[i.toNat]'hin = o at q0 q1 q2 q3 q4 q5 r2 r3 r4 r5 qs1 qt qt1 ho
  repeat' (refine And.intro ?_ ?_)
  all_goals subst hA hX hW hR hF
  all_goals first
   | exact rfl
   | exact ⟨i0, hi⟩
   | (simp only [A0, q1, q2, q3, q4, q5, qt1]; exact ⟨rfl, by omega, trivial⟩)
   | (show isP _; simp only [A0, q5]; exact ho)
   | (show 1 + i.toNat * 6 + 1 + 5 ≤ _; exact ql)
   | (have hw : IntKind.wrap .i64 (i + 1) = i + 1 := wrap_i64 (by unfold r64; omega)
      have e2 : splice (.view 3 2 1 0 m :: cs) (1 + i.toNat * 6 + 1) [.d (.sc (.int .i64 o.reply.why)), .d (.sc (.bool o.reply.found)), .d (.sc (.string o.reply.value)), .d (.sc (.int .i64 o.reply.version)), .d (.slc 3 o.reply.pairs)] = .view 3 2 1 0 m :: cs := splice_same qt1 rfl
      refine ⟨i + 1, ⟨by omega, by omega⟩, by omega, ?_⟩
      simp only [A0, FsC10, idR, q1, q2, q3, q4, q5, e2, hw]
      exact told_less (by simp [toldP, getS]))
   | fail
 ·repeat' (refine And.intro ?_ ?_)
  all_goals subst hA hX hW hR hF
  all_goals first
   | exact rfl
   | (show List.length _ = 49 * 1; rw [List.length_cons, hcl])
   | (show List.length _ = 49 * 1; exact hzl)
   | (refine ret_fz (b := 2) (sz := 3) (xs := xs) rfl rfl ?_ (isP.sz hp0) ?_ ?_
      ·exact hrc
      ·simp [fzD, fzL, hm, fzL_closed _ _ _ _ _ hcc]
      ·have h9 := hcc
       exact h9)
   | fail
theorem v_twinR (s : List DV) (h : isSt s) : FnV Try.prog 10 [.agg s] (.agg (upS s)) := by
 have e := h.eq
 refine FnP.ups (args := [.agg s]) (?_ : FnV Try.prog 10 [.agg (upCs s)] (.agg (upS s))) (UpL.agg (upL_upCs s) UpL.done)
 unfold upS
 rw [e]
 exact v_twinL _ _ h.prs h.own
theorem v_rightR2 (s : List DV) (h : isSt s) : FnV Try.prog 76 [.agg s] (boolD (rightSt s)) := by
 have e := h.eq
 refine FnP.ups (args := [.agg s]) (?_ : FnV Try.prog 76 [.agg (upCs s)] (boolD (rightSt s))) (UpL.agg (upL_upCs s) UpL.done)
 rw [e]
 exact v_state _ _ h.prs h.own
structure FsC2 where
 twinR : List DV → List DV
 rightR2 : List DV → Bool
 isSt : List DV → Prop
noncomputable def FsC20 : FsC2 where
 twinR := upS
 rightR2 := rightSt
 isSt := isSt
def kn_twinR (F : FsC2) : FuncId × (List DV → RV) := (10, fun args => match args with
 | [.agg s] => some ([F.isSt s], .agg ((F.twinR s)))
 | _ => none)
theorem ok_twinR (args : List DV) (cs : List Prop) (r : DV) (h : (kn_twinR FsC20).2 args = some (cs, r)) (hc : allP cs True) : FnV Try.prog 10 args r ∧ closedL 0 args = true := by
 unfold kn_twinR at h
 simp only at h
 split at h
 ·cases h; exact ⟨v_twinR _ hc.1, clo1 (isSt.closed hc.1) rfl⟩
 ·cases h
def kn_rightR2 (F : FsC2) : FuncId × (List DV → RV) := (76, fun args => match args with
 | [.agg s] => some ([F.isSt s], boolD ((F.rightR2 s)))
 | _ => none)
theorem ok_rightR2 (args : List DV) (cs : List Prop) (r : DV) (h : (kn_rightR2 FsC20).2 args = some (cs, r)) (hc : allP cs True) : FnV Try.prog 76 args r ∧ closedL 0 args = true := by
 unfold kn_rightR2 at h
 simp only at h
 split at h
 ·cases h; exact ⟨v_rightR2 _ hc.1, clo1 (isSt.closed hc.1) rfl⟩
 ·cases h
end Go.Proofs.Ytadnpgkddgbhkaa
namespace Go.Proofs.Ytadnpgkddgbhkaa
open Go.RowKit
set_option linter.all false
def okPr (k : Int) (p : Pair) : Prop := ltb none8 p.key = true ∧ p.key.size ≤ 16 ∧ p.value.size ≤ 64 ∧ 1 ≤ p.version ∧ p.version ≤ k
def okP (k : Int) (ps : List Pair) : Prop := Srt ps ∧ ps.length ≤ 32 ∧ ∀ p ∈ ps, okPr k p
theorem okPr.mono {k n : Int} {p : Pair} (h : okPr k p) (hn : k ≤ n) : okPr n p := ⟨h.1, h.2.1, h.2.2.1, h.2.2.2.1, by have := h.2.2.2.2; omega⟩
theorem okP.mono {k n : Int} {ps : List Pair} (h : okP k ps) (hn : k ≤ n) : okP n ps := ⟨h.1, h.2.1, fun p hp => (h.2.2 p hp).mono hn⟩
theorem okP.nil {k : Int} : okP k [] := ⟨List.Pairwise.nil, by decide, by simp⟩
theorem okP.isP {k : Int} {ps : List Pair} (h : okP k ps) : isP (pairsX ps) := ⟨ps, rfl, by have := h.2.1; omega⟩
theorem riseP_ok {k : Int} : ∀ (ps : List Pair) (last : ByteArray), Srt ps → (∀ p ∈ ps, okPr k p ∧ ltb last p.key = true) → riseP last ps = true
 | [], _, _, _ => rfl
 | p :: ps, last, hs, h => by
     unfold Srt at hs
     rw [List.pairwise_cons] at hs
     obtain ⟨⟨h1, h2, h3, h4, h5⟩, h6⟩ := h p (by simp)
     have := riseP_ok ps p.key hs.2 fun q hq => ⟨(h q (by simp [hq])).1, hs.1 q hq⟩
     simp only [riseP, okP1, h6, this, Bool.and_true, Bool.true_and, Bool.and_eq_true, decide_eq_true_eq]
     exact ⟨⟨h2, h3⟩, h4⟩
theorem okP.right {k : Int} {ps : List Pair} (h : okP k ps) : rightX (pairsX ps) = true := by
 unfold rightX rightP
 rw [pairsOf_X, riseP_ok ps none8 h.1 fun p hp => ⟨h.2.2 p hp, (h.2.2 p hp).1⟩]
 simpa using h.2.1
theorem mem_look {ps : List Pair} (hs : Srt ps) {p : Pair} (hp : p ∈ ps) : look ps p.key = some p := by
 induction ps with
 | nil => simp at hp
 | cons q ps ih =>
   unfold Srt at hs
   rw [List.pairwise_cons] at hs
   rcases List.mem_cons.1 hp with rfl | hp
   ·exact look_cons_eq
   ·rw [look_cons_ne (ltb_ne (hs.1 p hp))]
    exact ih hs.2 hp
theorem look_mem {ps : List Pair} {key : ByteArray} {p : Pair} (h : look ps key = some p) : p ∈ ps ∧ p.key = key := by
 unfold look at h
 have h1 := List.mem_of_find?_eq_some h
 have h2 := List.find?_some h
 exact ⟨h1, by simpa using h2⟩
theorem putX_len {xs : List (List PD)} (h : xs.length ≤ 32) (key value : ByteArray) : (putX xs key value).1.length ≤ 32 := by
 unfold putX
 split
 ·rw [setP_len]; exact h
 ·split
  ·decide
  ·simp only [newP, List.length_append, List.length_take, List.length_drop, List.length_singleton]
   omega
theorem delX_len {xs : List (List PD)} (h : xs.length ≤ 32) (key : ByteArray) : (delX xs key).1.length ≤ 32 := by
 unfold delX
 split
 ·simp only [delP, List.length_append, List.length_take, List.length_drop]
  omega
 ·exact h
theorem put_ok {k : Int} {ps : List Pair} (h : okP k ps) {key value : ByteArray} (h1 : ltb none8 key = true) (h2 : key.size ≤ 16) (h3 : value.size ≤ 64) (hk : 0 ≤ k) (hk2 : k ≤ 4611686018427387904) (hw : (putX (pairsX ps) key value).2 = 0) :
  ∃ qs, (putX (pairsX ps) key value).1 = pairsX qs ∧ okP (k + 1) qs ∧ (∀ j, j ≠ key → look qs j = look ps j) ∧ look qs key = some ⟨key, value, match look ps key with | some p => p.version + 1 | none => 1⟩ := by
 obtain ⟨qs, e, hs, hj, hq⟩ := put_look h.1 key value hw
 have hl := putX_len (xs := pairsX ps) (by rw [pairsX_length]; exact h.2.1) key value
 rw [e, pairsX_length] at hl
 have hq2 : look qs key = some ⟨key, value, match look ps key with | some p => p.version + 1 | none => 1⟩ := by
  rw [hq]
  cases hlk : look ps key with
  | none => rfl
  | some p =>
    have := h.2.2 p (look_mem hlk).1
    simp only
    rw [wrap_i64 (by unfold r64; have := this.2.2.2; omega)]
 refine ⟨qs, e, ⟨hs, hl, fun p hp => ?_⟩, hj, hq2⟩
 have hlp := mem_look hs hp
 by_cases hpk : p.key = key
 ·rw [hpk, hq2] at hlp
  cases hlp
  refine ⟨h1, h2, h3, ?_, ?_⟩
  ·cases hlk : look ps key with
   | none => simp
   | some q => have := (h.2.2 q (look_mem hlk).1).2.2.2; simp only; omega
  ·cases hlk : look ps key with
   | none => simp only; omega
   | some q => have := (h.2.2 q (look_mem hlk).1).2.2.2; simp only; omega
 ·rw [hj _ hpk] at hlp
  exact (h.2.2 p (look_mem hlp).1).mono (by omega)
theorem del_ok {k : Int} {ps : List Pair} (h : okP k ps) (key : ByteArray) : ∃ qs, (delX (pairsX ps) key).1 = pairsX qs ∧ okP k qs ∧ (∀ j, j ≠ key → look qs j = look ps j) ∧ look qs key = none := by
 obtain ⟨qs, e, hs, hj, hq⟩ := del_look h.1 key
 have hl := delX_len (xs := pairsX ps) (by rw [pairsX_length]; exact h.2.1) key
 rw [e, pairsX_length] at hl
 refine ⟨qs, e, ⟨hs, hl, fun p hp => ?_⟩, hj, hq⟩
 have hlp := mem_look hs hp
 by_cases hpk : p.key = key
 ·rw [hpk, hq] at hlp; cases hlp
 ·rw [hj _ hpk] at hlp
  exact h.2.2 p (look_mem hlp).1
theorem range_eq (ps : List Pair) (s : Span) : rangeX (pairsX ps) s = (pairsX ((ps.filter fun p => hasS s p.key).take 8), decide (8 < (ps.filter fun p => hasS s p.key).length)) := by
 unfold rangeX
 rw [pairsOf_X, rangeL_filter s ps [] (by simp)]
 simp
theorem Srt.sub {ps qs : List Pair} (h : Srt ps) (hq : qs.Sublist ps) : Srt qs := List.Pairwise.sublist hq h
theorem range_ok {k : Int} {ps : List Pair} (h : okP k ps) (s : Span) : okP k ((ps.filter fun p => hasS s p.key).take 8) ∧ ((ps.filter fun p => hasS s p.key).take 8).length ≤ 8 := by
 have hsub : ((ps.filter fun p => hasS s p.key).take 8).Sublist ps := (List.take_sublist _ _).trans List.filter_sublist
 refine ⟨⟨h.1.sub hsub, ?_, fun p hp => h.2.2 p (hsub.subset hp)⟩, ?_⟩
 ·exact Nat.le_trans hsub.length_le h.2.1
 ·rw [List.length_take]; omega
def okRp (k : Int) (r : Reply) : Prop := (r.why = 0 ∨ r.why = 7) ∧ r.value.size ≤ 64 ∧ 0 ≤ r.version ∧ r.version ≤ k ∧ ∃ ps, r.pairs = pairsX ps ∧ okP k ps ∧ ps.length ≤ 8
theorem okRp.mono {k n : Int} {r : Reply} (h : okRp k r) (hn : k ≤ n) : okRp n r := by
 obtain ⟨h1, h2, h3, h4, ps, h5, h6, h7⟩ := h
 exact ⟨h1, h2, h3, by omega, ps, h5, h6.mono hn, h7⟩
theorem okRp.right {k : Int} {r : Reply} (h : okRp k r) : rightRep r = true := by
 obtain ⟨h1, h2, h3, h4, ps, h5, h6, h7⟩ := h
 unfold rightRep
 rw [h5, h6.right, pairsX_length]
 simp only [Bool.and_true, Bool.and_eq_true, Bool.or_eq_true, decide_eq_true_eq]
 exact ⟨⟨⟨h1, h2⟩, h3⟩, h7⟩
theorem okRp.zero {k : Int} (hk : 0 ≤ k) : okRp k zeroRep := ⟨.inl rfl, by decide, by decide, hk, [], rfl, okP.nil, by decide⟩
theorem okRp.isP {k : Int} {r : Reply} (h : okRp k r) : Proofs.Ytadnpgkddgbhkaa.isP r.pairs := by
 obtain ⟨_, _, _, _, ps, h5, h6, _⟩ := h
 rw [h5]
 exact h6.isP
def okOw (k : Int) (o : Owner) : Prop := 0 ≤ o.seq ∧ o.seq ≤ 1099511627776 ∧ okRp k o.reply ∧ (o.seq = 0 → o.reply = zeroRep)
theorem okOw.mono {k n : Int} {o : Owner} (h : okOw k o) (hn : k ≤ n) : okOw n o := ⟨h.1, h.2.1, h.2.2.1.mono hn, h.2.2.2⟩
theorem okOw.right {k : Int} {o : Owner} (h : okOw k o) : okO o = true := by
 obtain ⟨h1, h2, h3, h4⟩ := h
 unfold okO
 rw [h3.right]
 simp only [Bool.and_true, Bool.and_eq_true, Bool.or_eq_true, decide_eq_true_eq, Bool.not_eq_true', decide_eq_false_iff_not]
 refine ⟨⟨h1, h2⟩, ?_⟩
 by_cases e : o.seq = 0
 ·right; rw [h4 e]; rfl
 ·left; exact e
def okSt (k : Int) (ps : List Pair) (os : List Owner) : Prop := okP k ps ∧ os.length = 8 ∧ ∀ o ∈ os, okOw k o
def cellsS (ps : List Pair) (os : List Owner) : List DV := .d (.slc 3 (pairsX ps)) :: ownsD os
theorem rightOs_all : ∀ {os : List Owner}, (∀ o ∈ os, okO o = true) → rightOs os = true
 | [], _ => rfl
 | o :: os, h => by
     have := rightOs_all (os := os) fun q hq => h q (List.mem_cons_of_mem _ hq)
     show (okO o && rightOs os) = true
     rw [h o (List.mem_cons_self ..), this]
     rfl
theorem okSt.own {k : Int} {ps : List Pair} {os : List Owner} (h : okSt k ps os) : isOwn (ownsD os) := ⟨os, h.2.1, rfl, fun o ho => (h.2.2 o ho).2.2.1.isP⟩
theorem okSt.is {k : Int} {ps : List Pair} {os : List Owner} (h : okSt k ps os) : isSt (cellsS ps os) := isSt.mk h.1.isP h.own
theorem okSt.prs {k : Int} {ps : List Pair} {os : List Owner} (h : okSt k ps os) : prsS (cellsS ps os) = pairsX ps := rfl
theorem okSt.owns {k : Int} {ps : List Pair} {os : List Owner} (h : okSt k ps os) : ownS (cellsS ps os) = ownsD os := own_mk h.own
theorem okSt.right {k : Int} {ps : List Pair} {os : List Owner} (h : okSt k ps os) : rightSt (cellsS ps os) = true := by
 unfold rightSt stateX
 rw [h.prs, h.owns, ownersOf_D h.2.1 rfl, rightOs_all fun o ho => (h.2.2 o ho).right, h.1.right]
 rfl
theorem right_facts {c : Cmd} (h : rightC c = true) (hz : ¬ c = .zero) : (1 ≤ c.kind ∧ c.kind ≤ 5) ∧ (1 ≤ c.client ∧ c.client ≤ 8) ∧ (1 ≤ c.seq ∧ c.seq ≤ 1099511627776) ∧ c.key.size ≤ 16 ∧ c.fin.size ≤ 16 ∧ c.val.size ≤ 64 ∧ (c.kind ≠ 5 → ltb none8 c.key = true) := by
 unfold rightC at h
 simp only [hz, decide_false, Bool.false_or, Bool.and_eq_true, Bool.or_eq_true, decide_eq_true_eq, Bool.not_eq_true', decide_eq_false_iff_not, within] at h
 obtain ⟨⟨⟨⟨⟨⟨⟨⟨h1, h2⟩, h3⟩, h4⟩, h5⟩, h6⟩, h7⟩, h8⟩, h9⟩ := h
 refine ⟨h1, h2, h3, h5, h6, h8, fun hk => ?_⟩
 rcases h9 with h9 | h9
 ·exact ltb_not (ltb_empty _) h9
 ·exact absurd h9 hk
theorem got_ok {k : Int} {ps : List Pair} (h : okP k ps) (hk : 0 ≤ k) (key : ByteArray) : (getP (pairsX ps) key).1.value.size ≤ 64 ∧ 0 ≤ (getP (pairsX ps) key).1.version ∧ (getP (pairsX ps) key).1.version ≤ k := by
 rw [get_look h.1, gotL]
 cases hl : look ps key with
 | none => exact ⟨by decide, by decide, hk⟩
 | some p =>
   have := h.2.2 p (look_mem hl).1
   exact ⟨this.2.2.1, by have := this.2.2.2; simp only; omega, this.2.2.2.2⟩
theorem put_there {xs : List (List PD)} {key : ByteArray} (h : (getP xs key).2 = true) (value : ByteArray) : (putX xs key value).2 = 0 := by
 have h1 : (findX xs key).2 = true := h
 unfold putX
 rw [if_pos h1]
theorem done_ok {k : Int} {ps : List Pair} (h : okP k ps) (hk : 0 ≤ k) (hk2 : k ≤ 4611686018427387904) {c : Cmd} (hc : rightC c = true) (hz : ¬ c = .zero) :
  ∃ qs, (doneX (pairsX ps) c).1 = pairsX qs ∧ okP (k + 1) qs ∧ okRp (k + 1) (doneX (pairsX ps) c).2 ∧ (writesC c = false → qs = ps) := by
 obtain ⟨f1, f2, f3, f4, f5, f6, f7⟩ := right_facts hc hz
 obtain ⟨g1, g2, g3⟩ := got_ok h hk c.key
 have hm : okP (k + 1) ps := h.mono (by omega)
 have e0 : okP (k + 1) [] := okP.nil
 have hw : IntKind.wrap .i64 ((getP (pairsX ps) c.key).1.version + 1) = (getP (pairsX ps) c.key).1.version + 1 := wrap_i64 (by unfold r64; omega)
 have hb : (0 : Int) ≤ k + 1 := by omega
 have hn : (none8 : ByteArray).size ≤ 64 := by decide
 by_cases k1 : c.kind = 1
 ·refine ⟨ps, ?_, hm, ?_, fun _ => rfl⟩
  ·simp only [doneX, k1, decide_true, cond_true]
  ·simp only [doneX, k1, decide_true, cond_true]
   exact ⟨.inl rfl, g1, g2, (by omega : (getP (pairsX ps) c.key).1.version ≤ k + 1), [], rfl, e0, by decide⟩
 by_cases k2 : c.kind = 2
 ·simp only [doneX, k2, decide_true, cond_true, show decide ((2 : Int) = 1) = false from rfl, cond_false]
  by_cases hp : (putX (pairsX ps) c.key c.val).2 = 0
  ·obtain ⟨qs, e, hq, _⟩ := put_ok h (f7 (by omega)) f4 f6 hk hk2 hp
   simp only [hp, decide_true, Bool.not_true, cond_false]
   have q1 : 0 ≤ IntKind.wrap .i64 ((getP (pairsX ps) c.key).1.version + 1) := by rw [hw]; omega
   have q2 : IntKind.wrap .i64 ((getP (pairsX ps) c.key).1.version + 1) ≤ k + 1 := by rw [hw]; omega
   exact ⟨qs, e, hq, ⟨.inl rfl, hn, q1, q2, [], rfl, e0, by decide⟩, fun hx => by simp [writesC, k2] at hx⟩
  ·have h7 : (putX (pairsX ps) c.key c.val).2 = 7 := (putX_why _ _ _).resolve_left hp
   simp only [h7, show decide ((7 : Int) = 0) = false from rfl, Bool.not_false, cond_true]
   exact ⟨ps, rfl, hm, ⟨.inr rfl, hn, Int.le_refl _, hb, [], rfl, e0, by decide⟩, fun _ => rfl⟩
 by_cases k3 : c.kind = 3
 ·simp only [doneX, k3, decide_true, cond_true, show decide ((3 : Int) = 1) = false from rfl, show decide ((3 : Int) = 2) = false from rfl, cond_false]
  obtain ⟨qs, e, hq, _⟩ := del_ok h c.key
  exact ⟨qs, e, hq.mono (by omega), ⟨.inl rfl, hn, g2, (by omega : (getP (pairsX ps) c.key).1.version ≤ k + 1), [], rfl, e0, by decide⟩, fun hx => by simp [writesC, k3] at hx⟩
 by_cases k4 : c.kind = 4
 ·simp only [doneX, k4, decide_true, cond_true, show decide ((4 : Int) = 1) = false from rfl, show decide ((4 : Int) = 2) = false from rfl, show decide ((4 : Int) = 3) = false from rfl, cond_false]
  cases hg : (getP (pairsX ps) c.key).2 with
  | false =>
    simp only [Bool.not_false, cond_true]
    exact ⟨ps, rfl, hm, ⟨.inl rfl, g1, g2, (by omega : (getP (pairsX ps) c.key).1.version ≤ k + 1), [], rfl, e0, by decide⟩, fun _ => rfl⟩
  | true =>
    simp only [Bool.not_true, cond_false]
    by_cases ho : (getP (pairsX ps) c.key).1.value = c.old
    ·simp only [ho, decide_true, Bool.not_true, cond_false]
     obtain ⟨qs, e, hq, _⟩ := put_ok h (f7 (by omega)) f4 f6 hk hk2 (put_there hg c.val)
     rw [ho] at g1
     have q1 : 0 ≤ IntKind.wrap .i64 ((getP (pairsX ps) c.key).1.version + 1) := by rw [hw]; omega
     have q2 : IntKind.wrap .i64 ((getP (pairsX ps) c.key).1.version + 1) ≤ k + 1 := by rw [hw]; omega
     exact ⟨qs, e, hq, ⟨.inl rfl, g1, q1, q2, [], rfl, e0, by decide⟩, fun hx => by simp [writesC, k4] at hx⟩
    ·simp only [ho, decide_false, Bool.not_false, cond_true]
     exact ⟨ps, rfl, hm, ⟨.inl rfl, g1, g2, (by omega : (getP (pairsX ps) c.key).1.version ≤ k + 1), [], rfl, e0, by decide⟩, fun _ => rfl⟩
 ·have k5 : c.kind = 5 := by omega
  simp only [doneX, k5, show decide ((5 : Int) = 1) = false from rfl, show decide ((5 : Int) = 2) = false from rfl, show decide ((5 : Int) = 3) = false from rfl, show decide ((5 : Int) = 4) = false from rfl, cond_false, range_eq]
  have hr := range_ok hm ⟨c.key, c.fin⟩
  exact ⟨ps, rfl, hm, ⟨.inl rfl, hn, Int.le_refl _, hb, _, rfl, hr.1, hr.2⟩, fun _ => rfl⟩
def ownAt (os : List Owner) (client : Int) : Owner := os.getD (client - 1).toNat ⟨0, zeroRep⟩
theorem look_os {os : List Owner} (hos : os.length = 8) (hp : isOwn (ownsD os)) {client : Int} (h1 : 1 ≤ client) (h2 : client ≤ 8) (seq : Int) :
  lookU (ownsD os) client seq = if (ownAt os client).seq < seq then (1, zeroRep) else if seq = (ownAt os client).seq then (2, (ownAt os client).reply) else (3, zeroRep) := by
 have hi : (client - 1).toNat < os.length := by omega
 have e := ownOf_D (cs := ownsD os) rfl _ hi
 have e2 : os[(client - 1).toNat]'hi = ownAt os client := by
  unfold ownAt
  rw [List.getD_eq_getElem?_getD, List.getElem?_eq_getElem hi]
  rfl
 unfold lookU
 rw [own_up hp]
 unfold lookX
 rw [e, e2]
 simp only [knownX, h1, h2, decide_true, Bool.and_self, cond_true, cond_eq_ite, decide_eq_true_eq, if_true]
theorem note_os {os : List Owner} (hos : os.length = 8) (hp : isOwn (ownsD os)) {client : Int} (h1 : 1 ≤ client) (h2 : client ≤ 8) (seq : Int) (r : Reply) : noteU (ownsD os) client seq r = ownsD (os.set (client - 1).toNat ⟨seq, r⟩) := by
 unfold noteU
 rw [own_up hp, noteX_D hos rfl]
 simp [noteOs, knownX, h1, h2]
theorem apply_cases {k : Int} {ps : List Pair} {os : List Owner} (h : okSt k ps os) (hk : 0 ≤ k) (hk2 : k ≤ 4611686018427387904) (c : Cmd) :
  (c = .zero ∧ applyS (cellsS ps os) c = (cellsS ps os, zeroRep)) ∨
  (¬ c = .zero ∧ rightC c = false ∧ applyS (cellsS ps os) c = (cellsS ps os, ⟨1, false, none8, 0, []⟩)) ∨
  (¬ c = .zero ∧ rightC c = true ∧ c.seq = (ownAt os c.client).seq ∧ applyS (cellsS ps os) c = (cellsS ps os, (ownAt os c.client).reply)) ∨
  (¬ c = .zero ∧ rightC c = true ∧ c.seq < (ownAt os c.client).seq ∧ applyS (cellsS ps os) c = (cellsS ps os, ⟨9, false, none8, 0, []⟩)) ∨
  (¬ c = .zero ∧ rightC c = true ∧ (ownAt os c.client).seq < c.seq ∧ ∃ qs r, doneX (pairsX ps) c = (pairsX qs, r) ∧ okP (k + 1) qs ∧ okRp (k + 1) r ∧ (writesC c = false → qs = ps) ∧ applyS (cellsS ps os) c = (cellsS qs (os.set (c.client - 1).toNat ⟨c.seq, r⟩), r)) := by
 unfold applyS
 rw [h.prs, h.owns]
 unfold applyL
 by_cases hz : c = .zero
 ·left
  refine ⟨hz, ?_⟩
  simp only [hz, decide_true, cond_true]
  rfl
 right
 cases hr : rightC c with
 | false =>
   left
   refine ⟨hz, rfl, ?_⟩
   simp only [decide_eq_false hz, cond_false, Bool.not_false, cond_true]
   rfl
 | true =>
   right
   obtain ⟨_, f2, f3, _⟩ := right_facts hr hz
   have hl := look_os h.2.1 h.own f2.1 f2.2 c.seq
   simp only [decide_eq_false hz, cond_false, Bool.not_true]
   rw [hl]
   by_cases h1 : (ownAt os c.client).seq < c.seq
   ·right; right
    simp only [if_pos h1, show decide ((1 : Int) = 2) = false from rfl, show decide ((1 : Int) = 3) = false from rfl, cond_false]
    obtain ⟨qs, e, hq, hR, hw⟩ := done_ok h.1 hk hk2 hr hz
    refine ⟨hz, trivial, h1, qs, (doneX (pairsX ps) c).2, Prod.ext e rfl, hq, hR, hw, ?_⟩
    rw [e, note_os h.2.1 h.own f2.1 f2.2]
    rfl
   ·simp only [if_neg h1]
    by_cases h2 : c.seq = (ownAt os c.client).seq
    ·left
     simp only [if_pos h2, decide_true, cond_true]
     exact ⟨hz, trivial, h2, rfl⟩
    ·right; left
     simp only [if_neg h2, show decide ((3 : Int) = 2) = false from rfl, decide_true, cond_true, cond_false]
     exact ⟨hz, trivial, by omega, rfl⟩
theorem okSt.mono {k n : Int} {ps : List Pair} {os : List Owner} (h : okSt k ps os) (hn : k ≤ n) : okSt n ps os := ⟨h.1.mono hn, h.2.1, fun o ho => (h.2.2 o ho).mono hn⟩
theorem okSt.set {k : Int} {ps qs : List Pair} {os : List Owner} (h : okSt k ps os) (hq : okP k qs) {o : Owner} (ho : okOw k o) (i : Nat) : okSt k qs (os.set i o) :=
 ⟨hq, by rw [List.length_set]; exact h.2.1, fun x hx => by
   rcases List.mem_or_eq_of_mem_set hx with h1 | h1
   ·exact h.2.2 x h1
   ·rw [h1]; exact ho⟩
theorem apply_ok {k : Int} {ps : List Pair} {os : List Owner} (h : okSt k ps os) (hk : 0 ≤ k) (hk2 : k ≤ 4611686018427387904) (c : Cmd) : ∃ qs rs, (applyS (cellsS ps os) c).1 = cellsS qs rs ∧ okSt (k + 1) qs rs := by
 have hm := h.mono (show k ≤ k + 1 by omega)
 rcases apply_cases h hk hk2 c with ⟨_, e⟩ | ⟨_, _, e⟩ | ⟨_, _, _, e⟩ | ⟨_, _, _, e⟩ | ⟨hz, hr, hlt, qs, r, _, hq, hR, _, e⟩
 ·exact ⟨ps, os, by rw [e], hm⟩
 ·exact ⟨ps, os, by rw [e], hm⟩
 ·exact ⟨ps, os, by rw [e], hm⟩
 ·exact ⟨ps, os, by rw [e], hm⟩
 ·obtain ⟨_, f2, f3, _⟩ := right_facts hr hz
  exact ⟨qs, _, by rw [e], hm.set hq ⟨by show 0 ≤ c.seq; omega, f3.2, hR, fun e => absurd e (by show ¬ c.seq = 0; omega)⟩ _⟩
theorem zero_st : okSt 0 [] (List.replicate 8 ⟨0, zeroRep⟩) := ⟨okP.nil, rfl, fun o ho => by
 rw [List.eq_of_mem_replicate ho]
 exact ⟨by decide, by decide, okRp.zero (by decide), fun _ => rfl⟩⟩
end Go.Proofs.Ytadnpgkddgbhkaa
namespace Go.Proofs.Ytadnpgkddgbhkaa
open Go.RowKit
set_option linter.all false
set_option maxHeartbeats 4000000
theorem rightR_eq (c : Cmd) : rightCR c = rightC c := by
 rw [Bool.eq_iff_iff]
 simp only [rightCR, rightC, within, Bool.or_eq_true, Bool.and_eq_true, decide_eq_true_eq, Bool.not_eq_true', decide_eq_false_iff_not]
 grind
theorem splice_cons (c : DV) (cs ds : List DV) (n : Nat) : splice (c :: cs) (1 + n) ds = c :: splice cs n ds := by
 simp only [splice]
 rw [Nat.add_comm 1 n, List.take_succ_cons, List.cons_append, List.cons_append, show n + 1 + ds.length = (n + ds.length) + 1 by omega, List.drop_succ_cons]
theorem client_facts {c : Cmd} (h : rightC c = true) (hz : ¬ c = .zero) : 1 ≤ c.client ∧ c.client ≤ 8 ∧ 1 ≤ c.seq := by
 unfold rightC at h
 simp only [hz, decide_false, Bool.false_or, Bool.and_eq_true, Bool.or_eq_true, decide_eq_true_eq, within] at h
 omega
set_option maxRecDepth 100000 in
theorem v_applyRL (xs : List (List PD)) (cs : List DV) (c : Cmd) (hp0 : isP xs) (hp1 : isOwn cs) : FnV Try.prog 12 [.agg (.d (.slc 3 xs) :: cs), Cmd.D c] (.tup [.agg (applyL xs cs c).1, Reply.D (applyL xs cs c).2]) := by
 have hcl := hp1.len
 have hu := hp1.u
 have hst := isSt.mk hp0 hp1
 have hup : upS (.d (.slc 3 xs) :: cs) = .d (.slc 3 xs) :: cs := st_up hp1
 have hoo := hp1
 obtain ⟨os, hos, hcs, hop⟩ := hoo
 obtain ⟨c_kind, c_client, c_seq, c_key, c_fin, c_old, c_val⟩ := c
 obtain ⟨GFsC2, hGFsC2⟩ : ∃ F, F = FsC20 := ⟨_, rfl⟩
 obtain ⟨GFs5, hGFs5⟩ : ∃ F, F = Fs50 := ⟨_, rfl⟩
 obtain ⟨GFsC1, hGFsC1⟩ : ∃ F, F = FsC10 := ⟨_, rfl⟩
 obtain ⟨GFsDn, hGFsDn⟩ : ∃ F, F = FsDn0 := ⟨_, rfl⟩
 have hH : SoundK Try.prog [kn_twinR GFsC2, kn_crightR GFs5, kn_copyR GFsC1, kn_run GFsDn] := by subst hGFsC2 hGFs5 hGFsC1 hGFsDn; exact orK_ok ok_twinR (orK_ok ok_crightR (orK_ok ok_copyR (orK_ok ok_run noK_ok)))
 refine FnD_cbv (T := fun _ => tabY [0, 1002, 1006, 1004, 1014, 1020, 1023, 1035, 1044, 1065, 28, 64, 5004] [6]) (H := fun _ => [kn_twinR GFsC2, kn_crightR GFs5, kn_copyR GFsC1, kn_run GFsDn]) (tabY_ok _ _) hH follows_mixed Try.func12 rfl Try.ntmps12 (by simp) fun A X W hA hX hW => ?_
 cbv
 have hz : decide ((⟨c_kind, c_client, c_seq, c_key, c_fin, c_old, c_val⟩ : Cmd) = .zero) = A0.and (A0.cmp .eql c_kind 0) (A0.and (A0.cmp .eql c_client 0) (A0.and (A0.cmp .eql c_seq 0) (A0.and (A0.scmp .eql c_key none8) (A0.and (A0.scmp .eql c_fin none8) (A0.and (A0.scmp .eql c_old none8) (A0.and (A0.scmp .eql c_val none8) true)))))) := by
  rw [Bool.eq_iff_iff]
  simp [A0, Cmd.zero]
 have h9 := isOwn.closed hp1
 have hdn := doneX_isP hp0 ⟨c_kind, c_client, c_seq, c_key, c_fin, c_old, c_val⟩
 have e : GFsC2.twinR (.d (.slc 3 xs) :: cs) = .d (.slc 3 xs) :: cs := by subst hGFsC2; exact hup
 cbv at e
 repeat' first
  | (refine part (fun h => ?_) (fun h => ?_) <;> try cbv)
  | (simp only [e])
  | (refine And.intro ?_ ?_)
  | ((with_reducible refine goL (c := .region 6 _ _) (T := fun _ => tabY [0, 1002, 1006, 1004, 1014, 1020, 1023, 1035, 1044, 1065, 28, 64, 5004] []) (H := fun _ => [kn_twinR GFsC2, kn_crightR GFs5, kn_copyR GFsC1, kn_run GFsDn]) (tabY_ok _ _) hH follows_mixed hA hX ?_) <;> cbv)
 all_goals subst hA hX hW hGFsC2 hGFs5 hGFsC1 hGFsDn
 all_goals clear hH
 all_goals first
  | exact rfl
  | exact hp0
  | exact hst
  | (show Region.lexB _ _ = true; kernel_rfl)
  | (show turnsB _ = true; kernel_rfl)
  | exact hdn.2
  | (show List.length _ ≤ 1000000; rw [List.length_cons, hcl]; decide)
  | (show List.length _ = 49 * 1; rw [List.length_cons, hcl])
  | skip
 all_goals try
  have hr9 : A0.not (Fs50.crightR ⟨c_kind, c_client, c_seq, c_key, c_fin, c_old, c_val⟩) = false := by assumption
  have hz9 : A0.and (A0.cmp .eql c_kind 0) (A0.and (A0.cmp .eql c_client 0) (A0.and (A0.cmp .eql c_seq 0) (A0.and (A0.scmp .eql c_key none8) (A0.and (A0.scmp .eql c_fin none8) (A0.and (A0.scmp .eql c_old none8) (A0.and (A0.scmp .eql c_val none8) true)))))) = false := by assumption
  have hr8 : rightC ⟨c_kind, c_client, c_seq, c_key, c_fin, c_old, c_val⟩ = true := by
   rw [← rightR_eq]
   simpa [A0, Fs50] using hr9
  have hz8 : ¬ (⟨c_kind, c_client, c_seq, c_key, c_fin, c_old, c_val⟩ : Cmd) = .zero := by
   rw [← hz] at hz9
   exact of_decide_eq_false hz9
  obtain ⟨k1, k2, _⟩ := client_facts hr8 hz8
  replace k1 : 1 ≤ c_client := k1
  replace k2 : c_client ≤ 8 := k2
  have ew : IntKind.wrap .i64 (c_client - 1) = c_client - 1 := wrap_i64 (by unfold r64; omega)
  have hin : (c_client - 1).toNat < os.length := by omega
  obtain ⟨q0, q1, q2, q3, q4, q5, r2, r3, r4, r5, qs1, qt, qt1, ql⟩ := st_cell (.d (.slc 3 xs)) hcs (c_client - 1).toNat hin
  have ho := hop _ (List.getElem_mem hin)
  have hoa : os[(c_client - 1).toNat]'hin = ownAt os c_client := by
   unfold ownAt
   rw [List.getD_eq_getElem?_getD, List.getElem?_eq_getElem hin]
   rfl
  rw [hoa] at q0 q1 q2 q3 q4 q5 r2 r3 r4 r5 qs1 qt qt1 ho
  have hlk := look_os hos (by rw [← hcs]; exact hp1) k1 k2 c_seq
  rw [← hcs] at hlk
  have hnt : ∀ r, noteU cs c_client c_seq r = splice cs ((c_client - 1).toNat * 6) (Owner.cells ⟨c_seq, r⟩) := fun r => by
   unfold noteU
   rw [own_up hp1]
   simp [noteX, knownX, k1, k2]
  have hno := hu.note hdn.2 c_client c_seq
  have hll := hno.len
  have h8 := isOwn.closed hno
  generalize ownAt os c_client = o at q0 q1 q2 q3 q4 q5 r2 r3 r4 r5 qs1 qt qt1 ho hlk
 all_goals first
  | (show 0 ≤ A0.bin .sub .i64 c_client 1 ∧ A0.bin .sub .i64 c_client 1 < 8
     simp only [A0, ew]
     omega)
  | (simp only [A0, ew, q0, q1, r2, r3, r4, r5, qt]; exact ⟨rfl, ql, rfl⟩)
  | (show isP _; simp only [A0, ew, r5]; exact ho)
  | (simp only [A0, ew, List.length_cons, hcl]; omega)
  | (simp only [A0, FsC10, FsDn0, idR, ew, splice_cons]
     show List.length (_ :: splice cs _ (Owner.cells ⟨c_seq, (doneX xs ⟨c_kind, c_client, c_seq, c_key, c_fin, c_old, c_val⟩).2⟩)) = _
     rw [← hnt, List.length_cons, hll])
  | (refine ret_up ?_ ?_
     ·simp only [applyL, hz]
      simp only [*, cond_true]
      first
       | exact updR
       | (simp only [cond_false, Bool.not_true, Bool.not_false, cond_true]; exact updR)
     ·first
       | (simp [pureD, closedD, closedL, h9]; done))
  | skip
 ·have e1 : rightC ⟨c_kind, c_client, c_seq, c_key, c_fin, c_old, c_val⟩ = false := by
   rw [← rightR_eq]
   simpa [A0, Fs50] using h
  have hzf := hz.trans ‹_›
  refine ret_up ?_ (by simp [pureD, closedD, closedL, h9])
  simp only [applyL, hzf, e1, cond_false, Bool.not_false, cond_true]
  exact updR
 ·have hzf := decide_eq_false hz8
  have e1 : A0.cmp .eql c_seq (A0.gi (DV.d (.slc 3 xs) :: cs) (A0.off 1 (A0.bin .sub .i64 c_client 1) 6)) = true := by assumption
  simp only [A0, ew, q0, decide_eq_true_eq] at e1
  rw [if_neg (by omega), if_pos e1] at hlk
  refine ret_up ?_ (by simp [pureD, closedD, closedL, h9])
  simp only [applyL, hzf, hr8, hlk, cond_false, Bool.not_true, decide_true, cond_true]
  simp only [A0, FsC10, idR, ew, q1, r2, r3, r4, r5]
  exact UpD.refl _
 ·have hzf := decide_eq_false hz8
  have e1 : A0.cmp .lss c_seq (A0.gi (DV.d (.slc 3 xs) :: cs) (A0.off 1 (A0.bin .sub .i64 c_client 1) 6)) = true := by assumption
  simp only [A0, ew, q0, decide_eq_true_eq] at e1
  rw [if_neg (by omega), if_neg (by omega)] at hlk
  refine ret_up ?_ (by simp [pureD, closedD, closedL, h9])
  simp only [applyL, hzf, hr8, hlk, cond_false, Bool.not_true, decide_true, cond_true, show decide ((3 : Int) = 2) = false from rfl]
  exact updR
 ·have hzf := decide_eq_false hz8
  have e1 : A0.cmp .lss c_seq (A0.gi (DV.d (.slc 3 xs) :: cs) (A0.off 1 (A0.bin .sub .i64 c_client 1) 6)) = false := by assumption
  have e2 : A0.cmp .eql c_seq (A0.gi (DV.d (.slc 3 xs) :: cs) (A0.off 1 (A0.bin .sub .i64 c_client 1) 6)) = false := by assumption
  simp only [A0, ew, q0, decide_eq_false_iff_not] at e1 e2
  rw [if_pos (by omega)] at hlk
  have h7 := h8
  rw [hnt] at h7
  refine ret_up ?_ ?_
  ·simp only [applyL, hzf, hr8, hlk, cond_false, Bool.not_true, show decide ((1 : Int) = 2) = false from rfl, show decide ((1 : Int) = 3) = false from rfl]
   rw [hnt]
   simp only [A0, FsC10, FsDn0, idR, ew, splice_cons]
   exact UpD.refl _
  ·simp only [A0, FsC10, FsDn0, idR, ew, splice_cons]
   simp only [pureD, closedD, closedL, Bool.true_and, Bool.and_true]
   exact h7
theorem v_applyR (s : List DV) (c : Cmd) (h : isSt s) : FnV Try.prog 12 [.agg s, Cmd.D c] (.tup [.agg (applyS s c).1, Reply.D (applyS s c).2]) := by
 have e := h.eq
 refine FnP.ups (args := [.agg s, Cmd.D c]) (?_ : FnV Try.prog 12 [.agg (upCs s), Cmd.D c] (.tup [.agg (applyS s c).1, Reply.D (applyS s c).2])) (UpL.agg (upL_upCs s) (UpL.refl' _))
 rw [e]
 exact v_applyRL _ _ c h.prs h.own
structure FsSD where
 applyR : List DV → Cmd → List DV × Reply
 isSt : List DV → Prop
noncomputable def FsSD0 : FsSD where
 applyR := applyS
 isSt := isSt
def kn_applyR (F : FsSD) : FuncId × (List DV → RV) := (12, fun args => match args with
 | [.agg s, .agg [.d (.sc (.int .i64 c_kind)), .d (.sc (.int .i64 c_client)), .d (.sc (.int .i64 c_seq)), .d (.sc (.string c_key)), .d (.sc (.string c_fin)), .d (.sc (.string c_old)), .d (.sc (.string c_val))]] => some ([F.isSt s], .tup [.agg (((F.applyR s ⟨c_kind, c_client, c_seq, c_key, c_fin, c_old, c_val⟩)).1), Reply.D (((F.applyR s ⟨c_kind, c_client, c_seq, c_key, c_fin, c_old, c_val⟩)).2)])
 | _ => none)
theorem ok_applyR (args : List DV) (cs : List Prop) (r : DV) (h : (kn_applyR FsSD0).2 args = some (cs, r)) (hc : allP cs True) : FnV Try.prog 12 args r ∧ closedL 0 args = true := by
 unfold kn_applyR at h
 simp only at h
 split at h
 ·cases h; exact ⟨v_applyR _ ⟨_, _, _, _, _, _, _⟩ hc.1, clo1 (isSt.closed hc.1) rfl⟩
 ·cases h
end Go.Proofs.Ytadnpgkddgbhkaa
namespace Go.Proofs.Ytadnpgkddgbhkaa
open Go.RowKit
set_option linter.all false
set_option maxHeartbeats 4000000
structure FsSE where
 statesR : List DV → List DV → Bool
 isSt : List DV → Prop
end Go.Proofs.Ytadnpgkddgbhkaa
namespace Go.Proofs.Ytadnpgkddgbhkaa
open Go.RowKit
set_option linter.all false
set_option maxHeartbeats 4000000
structure Ev where
 a : Int
 b : Int
 c : Cmd
 r : Reply
def Ev.row (e : Ev) : List PD := [.sc (.int .i64 e.a), .sc (.int .i64 e.b)] ++ e.c.row ++ e.r.row
def evsX (l : List Ev) : List (List PD) := l.map Ev.row
def Ev.cells (e : Ev) : List DV := [.d (.sc (.int .i64 e.a)), .d (.sc (.int .i64 e.b)), .d (.sc (.int .i64 e.c.kind)), .d (.sc (.int .i64 e.c.client)), .d (.sc (.int .i64 e.c.seq)), .d (.sc (.string e.c.key)), .d (.sc (.string e.c.fin)), .d (.sc (.string e.c.old)), .d (.sc (.string e.c.val)), .d (.sc (.int .i64 e.r.why)), .d (.sc (.bool e.r.found)), .d (.sc (.string e.r.value)), .d (.sc (.int .i64 e.r.version)), .d (.slc 3 e.r.pairs)]
def isEv (xs : List (List PD)) : Prop := ∃ l, xs = evsX l ∧ l.length ≤ 1048576 ∧ ∀ e ∈ l, r64 e.a ∧ r64 e.b ∧ r64 e.c.client ∧ isP e.r.pairs
theorem evsX_len (l : List Ev) : (evsX l).length = l.length := by simp [evsX]
theorem evsX_sz (l : List Ev) : ∀ x ∈ evsX l, x.length = 14 := by
 intro x hx
 simp only [evsX, List.mem_map] at hx
 obtain ⟨_, _, rfl⟩ := hx
 rfl
theorem evrow {xs : List (List PD)} {l : List Ev} (hxs : xs = evsX l) {i : Int} (h0 : 0 ≤ i) (h1 : i < l.length) : xs.getD i.toNat [] = (l[i.toNat]'(by omega)).row := by
 subst hxs
 have : i.toNat < l.length := by omega
 simp [evsX, List.getD_eq_getElem?_getD, this]
def bitX (d i : Int) : Int := bitsV IntKind.i64 (· &&& ·) (d.fdiv (2 ^ (min i.toNat 64))) 1
structure HOp where
 a : Int
 b : Int
 ck : Int
 cc : Int
 cq : Int
 ckey : ByteArray
 cfin : ByteArray
 cold : ByteArray
 cval : ByteArray
 w : Int
 fd : Bool
 vl : ByteArray
 vr : Int
 pr : List (List PD)
def HOp.D (x : HOp) : DV := .agg [.d (.sc (.int .i64 x.a)), .d (.sc (.int .i64 x.b)), .d (.sc (.int .i64 x.ck)), .d (.sc (.int .i64 x.cc)), .d (.sc (.int .i64 x.cq)), .d (.sc (.string x.ckey)), .d (.sc (.string x.cfin)), .d (.sc (.string x.cold)), .d (.sc (.string x.cval)), .d (.sc (.int .i64 x.w)), .d (.sc (.bool x.fd)), .d (.sc (.string x.vl)), .d (.sc (.int .i64 x.vr)), .d (.slc 3 x.pr)]
def aheadX (x y : HOp) : Bool := bif decide (0 ≤ y.b) then decide (y.b < x.a) else false
def Ev.op (e : Ev) : HOp := ⟨e.a, e.b, e.c.kind, e.c.client, e.c.seq, e.c.key, e.c.fin, e.c.old, e.c.val, e.r.why, e.r.found, e.r.value, e.r.version, e.r.pairs⟩
theorem Ev.op_D (e : Ev) : e.op.D = .agg e.cells := rfl
structure FsHa where
 hsame : Reply → Reply → Bool
 isP : List (List PD) → Prop
noncomputable def FsHa0 : FsHa where
 hsame := repliesX
 isP := isP
set_option maxRecDepth 100000 in
theorem v_hsame (a : Reply) (b : Reply) (hp0 : FsHa0.isP a.pairs) (hp1 : FsHa0.isP b.pairs) : FnV Try.prog 44 [Reply.D a, Reply.D b] (boolD ((repliesX a b))) := by
 obtain ⟨a_why, a_found, a_value, a_version, a_pairs⟩ := a
 obtain ⟨b_why, b_found, b_value, b_version, b_pairs⟩ := b
 obtain ⟨GFsE1, hGFsE1⟩ : ∃ F, F = FsE10 := ⟨_, rfl⟩
 have hH : SoundK Try.prog [kn_equal GFsE1] := by subst hGFsE1; exact orK_ok ok_equal noK_ok
 refine FnD_cbv (T := fun _ => tabY [] []) (H := fun _ => [kn_equal GFsE1]) (tabY_ok _ _) hH follows_mixed Try.func44 rfl Try.ntmps44 (by simp) fun A X W hA hX hW => ?_
 clear hH
 cbv
 repeat' first
  | (refine part (fun h => ?_) (fun h => ?_) <;> try cbv)
  | (refine And.intro ?_ ?_)
 all_goals subst hA hX hW hGFsE1
 all_goals try (show Region.lexB _ _ = true; kernel_rfl)
 all_goals try (show turnsB _ = true; kernel_rfl)
 all_goals simp only [A0, FsE10, FsHa0, decide_eq_true_eq, decide_eq_false_iff_not, Bool.not_eq_true', Bool.not_eq_false'] at *
 all_goals first
  | (intro _; assumption)
  | (intro _; trivial)
  | (intro hq; exact hq)
  | (intro hq; simpa using hq)
  | exact hp0
  | exact hp1
  | (refine ret_v ?_ rfl
     have e := congrArg boolD (sameX_rep ⟨a_why, a_found, a_value, a_version, a_pairs⟩ ⟨b_why, b_found, b_value, b_version, b_pairs⟩ hp0 hp1)
     first
      | exact e
      | exact e.symm)
  | fail
def kn_hsame (F : FsHa) : FuncId × (List DV → RV) := (44, fun args => match args with
 | [.agg [.d (.sc (.int .i64 a_why)), .d (.sc (.bool a_found)), .d (.sc (.string a_value)), .d (.sc (.int .i64 a_version)), .d (.slc 3 a_pairs)], .agg [.d (.sc (.int .i64 b_why)), .d (.sc (.bool b_found)), .d (.sc (.string b_value)), .d (.sc (.int .i64 b_version)), .d (.slc 3 b_pairs)]] => some ([F.isP a_pairs, F.isP b_pairs], boolD ((F.hsame ⟨a_why, a_found, a_value, a_version, a_pairs⟩ ⟨b_why, b_found, b_value, b_version, b_pairs⟩)))
 | [.agg [.d (.sc (.int .i64 a_why)), .d (.sc (.bool a_found)), .d (.sc (.string a_value)), .d (.sc (.int .i64 a_version)), .d (.sc (.slice none 0 0))], .agg [.d (.sc (.int .i64 b_why)), .d (.sc (.bool b_found)), .d (.sc (.string b_value)), .d (.sc (.int .i64 b_version)), .d (.slc 3 b_pairs)]] => some ([F.isP [], F.isP b_pairs], boolD ((F.hsame ⟨a_why, a_found, a_value, a_version, []⟩ ⟨b_why, b_found, b_value, b_version, b_pairs⟩)))
 | [.agg [.d (.sc (.int .i64 a_why)), .d (.sc (.bool a_found)), .d (.sc (.string a_value)), .d (.sc (.int .i64 a_version)), .d (.slc 3 a_pairs)], .agg [.d (.sc (.int .i64 b_why)), .d (.sc (.bool b_found)), .d (.sc (.string b_value)), .d (.sc (.int .i64 b_version)), .d (.sc (.slice none 0 0))]] => some ([F.isP a_pairs, F.isP []], boolD ((F.hsame ⟨a_why, a_found, a_value, a_version, a_pairs⟩ ⟨b_why, b_found, b_value, b_version, []⟩)))
 | [.agg [.d (.sc (.int .i64 a_why)), .d (.sc (.bool a_found)), .d (.sc (.string a_value)), .d (.sc (.int .i64 a_version)), .d (.sc (.slice none 0 0))], .agg [.d (.sc (.int .i64 b_why)), .d (.sc (.bool b_found)), .d (.sc (.string b_value)), .d (.sc (.int .i64 b_version)), .d (.sc (.slice none 0 0))]] => some ([F.isP [], F.isP []], boolD ((F.hsame ⟨a_why, a_found, a_value, a_version, []⟩ ⟨b_why, b_found, b_value, b_version, []⟩)))
 | _ => none)
theorem ok_hsame (args : List DV) (cs : List Prop) (r : DV) (h : (kn_hsame FsHa0).2 args = some (cs, r)) (hc : allP cs True) : FnV Try.prog 44 args r ∧ closedL 0 args = true := by
 unfold kn_hsame at h
 simp only at h
 split at h
 ·cases h; exact ⟨v_hsame ⟨_, _, _, _, _⟩ ⟨_, _, _, _, _⟩ hc.1 hc.2.1, rfl⟩
 ·cases h; exact ⟨FnP.ups (v_hsame ⟨_, _, _, _, []⟩ ⟨_, _, _, _, _⟩ hc.1 hc.2.1) (UpL.agg (UpL.keep (UpL.keep (UpL.keep (UpL.keep (UpL.nil UpL.done))))) (UpL.agg (UpL.keep (UpL.keep (UpL.keep (UpL.keep (UpL.keep UpL.done))))) UpL.done)), rfl⟩
 ·cases h; exact ⟨FnP.ups (v_hsame ⟨_, _, _, _, _⟩ ⟨_, _, _, _, []⟩ hc.1 hc.2.1) (UpL.agg (UpL.keep (UpL.keep (UpL.keep (UpL.keep (UpL.keep UpL.done))))) (UpL.agg (UpL.keep (UpL.keep (UpL.keep (UpL.keep (UpL.nil UpL.done))))) UpL.done)), rfl⟩
 ·cases h; exact ⟨FnP.ups (v_hsame ⟨_, _, _, _, []⟩ ⟨_, _, _, _, []⟩ hc.1 hc.2.1) (UpL.agg (UpL.keep (UpL.keep (UpL.keep (UpL.keep (UpL.nil UpL.done))))) (UpL.agg (UpL.keep (UpL.keep (UpL.keep (UpL.keep (UpL.nil UpL.done))))) UpL.done)), rfl⟩
 ·cases h
set_option maxRecDepth 100000 in
theorem v_ahead0 (x : HOp) (y : HOp) : FnV Try.prog 45 [HOp.D x, HOp.D y] (boolD ((aheadX x y))) := by
 obtain ⟨x_a, x_b, x_ck, x_cc, x_cq, x_ckey, x_cfin, x_cold, x_cval, x_w, x_fd, x_vl, x_vr, x_pr⟩ := x
 obtain ⟨y_a, y_b, y_ck, y_cc, y_cq, y_ckey, y_cfin, y_cold, y_cval, y_w, y_fd, y_vl, y_vr, y_pr⟩ := y
 refine FnD_cbv (T := fun _ => tabY [] []) (H := fun _ => []) (tabY_ok _ _) noK_ok follows_mixed Try.func45 rfl Try.ntmps45 (by simp) fun A X W hA hX hW => ?_
 cbv
 repeat' first
  | (refine part (fun h => ?_) (fun h => ?_) <;> try cbv)
  | (refine And.intro ?_ ?_)
 all_goals subst hA hX hW
 all_goals try (show Region.lexB _ _ = true; kernel_rfl)
 all_goals try (show turnsB _ = true; kernel_rfl)
 all_goals simp only [A0, FsHa0, decide_eq_true_eq, decide_eq_false_iff_not, Bool.not_eq_true', Bool.not_eq_false'] at *
 all_goals first
  | (intro _; trivial)
  | (intro hq; exact hq)
  | (intro hq; simpa using hq)
  | (refine ret_v ?_ rfl
     first
      | rfl
      | (simp_all [aheadX, boolD]; done))
  | fail
def aheadE (x y : Ev) : Bool := bif decide (0 ≤ y.b) then decide (y.b < x.a) else false
def isOpC (cs : List DV) : Prop := ∃ e : Ev, cs = e.cells
def cellI (cs : List DV) (k : Nat) : Int := match cs[k]? with
 | some (.d (.sc (.int _ n))) => n
 | _ => 0
def aheadC (xs ys : List DV) : Bool := bif decide (0 ≤ cellI ys 1) then decide (cellI ys 1 < cellI xs 0) else false
theorem aheadC_E (x y : Ev) : aheadC x.cells y.cells = aheadE x y := rfl
theorem v_ahead (x y : Ev) : FnV Try.prog 45 [.agg x.cells, .agg y.cells] (boolD (aheadC x.cells y.cells)) := v_ahead0 x.op y.op
structure FsHo where
 ahead : List DV → List DV → Bool
 isOp : List DV → Prop
def FsHo0 : FsHo where
 ahead := aheadC
 isOp := isOpC
def kn_ahead (F : FsHo) : FuncId × (List DV → RV) := (45, fun args => match args with
 | [.agg xs, .agg ys] => some ([F.isOp xs, F.isOp ys], .d (.sc (.bool (F.ahead xs ys))))
 | _ => none)
theorem ok_ahead (args : List DV) (cs : List Prop) (r : DV) (h : (kn_ahead FsHo0).2 args = some (cs, r)) (hc : allP cs True) : FnV Try.prog 45 args r ∧ closedL 0 args = true := by
 unfold kn_ahead at h
 simp only at h
 split at h
 ·cases h
  obtain ⟨⟨x, hx⟩, ⟨y, hy⟩, _⟩ := hc
  subst hx hy
  exact ⟨v_ahead x y, rfl⟩
 ·cases h
end Go.Proofs.Ytadnpgkddgbhkaa
namespace Go.Proofs.Ytadnpgkddgbhkaa
open Go.RowKit
set_option linter.all false
set_option maxHeartbeats 4000000
def mayF (e : Ev) (d : Int) : List Ev → Int → Bool
 | [], _ => true
 | b :: l, k => if (decide (bitX d k = 0) && aheadE e b) = true then false else mayF e d l (k + 1)
instance : Inhabited Ev := ⟨⟨0, 0, .zero, ⟨0, false, none8, 0, []⟩⟩⟩
def mayL (l : List Ev) (i d : Int) : Bool := if bitX d i = 1 then false else mayF (l.getD i.toNat default) d l 0
abbrev sB (xs : List (List PD)) (m : Value) : Box := ⟨99, [.d (.slc 14 xs), .d (.sc m)], false, 0, true⟩
theorem evdrop {l : List Ev} {i : Int} (h0 : 0 ≤ i) (h1 : i < l.length) : l.drop i.toNat = (l[i.toNat]'(by omega)) :: l.drop (i + 1).toNat := by
 have h : i.toNat < l.length := by omega
 rw [List.drop_eq_getElem_cons h]
 congr 2
 omega
set_option maxRecDepth 100000 in
theorem w_may (xs : List (List PD)) (m : Value) (l : List Ev) (i d : Int) (hxs : xs = evsX l) (hl : l.length ≤ 1048576) (h0 : 0 ≤ i) (h1 : i < l.length) : FnD Try.prog 64 [.ref 0 0 0, .d (.sc (.int .i64 i)), .d (.sc (.int .i64 d))] [sB xs m] (fun r st' => r = .d (.sc (.bool (mayL l i d))) ∧ st' = [sB xs m]) := by
 have hxl : xs.length = l.length := by rw [hxs, evsX_len]
 obtain ⟨n, hn⟩ : ∃ n : Int, n = l.length := ⟨_, rfl⟩
 have hinb : 0 ≤ i ∧ i < (xs.length : Int) := ⟨h0, by omega⟩
 have hn1 : n ≤ 1048576 := by omega
 obtain ⟨rm, hrm⟩ : ∃ z, z = mayL l i d := ⟨_, rfl⟩
 rw [← hrm]
 obtain ⟨x, hx⟩ : ∃ x, x = l[i.toNat]'(by omega) := ⟨_, rfl⟩
 have hxr : xs.getD i.toNat [] = x.row := by rw [hx]; exact evrow hxs h0 h1
 have hxd : l.getD i.toNat default = x := by rw [hx, List.getD_eq_getElem?_getD, List.getElem?_eq_getElem (by omega)]; rfl
 have hwu : ∀ j : Int, 0 ≤ j → j ≤ 1048576 → IntKind.wrap .u64 j = j := fun j h0 h1 => by
  show j % 2 ^ 64 = j
  omega
 obtain ⟨GFsHo, hFsHo⟩ : ∃ F, F = FsHo0 := ⟨_, rfl⟩
 have hH : SoundK Try.prog [kn_ahead GFsHo] := by subst hFsHo; exact orK_ok ok_ahead noK_ok
 have hB : SoundB Try.prog [] := by subst hFsHo; exact noB_ok
 refine FnD_cbv (T := fun _ => tabY [23, 37, 1023, 1037] [6]) (H := fun _ => [kn_ahead GFsHo]) (tabY_ok _ _) hH follows_mixed Try.func64 rfl Try.ntmps64 (by simp) fun A X W hA hX hW => ?_
 cbv
 obtain ⟨bi, hbi⟩ : ∃ z, z = bitX d i := ⟨_, rfl⟩
 have w1 : A.wrap .u64 i = i := by subst hA; exact hwu i h0 (by omega)
 have w2 : A.bin .and .i64 (A.bin .shr .i64 d i) 1 = bi := by subst hA; exact hbi.symm
 have hnn : A.nn i := by subst hA; exact h0
 cbv at w1 w2 hnn
 simp only [w1, w2]
 cbv
 refine And.intro hnn ?_
 by_cases hb : bi = 1
 ·have t1 : A.cmp .eql bi 1 = true := by subst hA; exact decide_eq_true hb
  cbv at t1
  simp only [t1]
  cbv
  subst hA hX hW
  refine RetW.refl ⟨?_, rfl⟩
  rw [hrm]
  unfold mayL
  rw [← hbi, if_pos hb]
 ·have t1 : A.cmp .eql bi 1 = false := by subst hA; exact decide_eq_false hb
  cbv at t1
  simp only [t1]
  cbv
  have hml : rm = mayF x d l 0 := by
   rw [hrm]
   unfold mayL
   rw [← hbi, if_neg hb, hxd]
  refine loopL (T := fun _ => tabY [23, 37, 1023, 1037] [6]) (H := fun _ => [kn_ahead GFsHo]) (tabY_ok _ _) hH follows_mixed hA hX (fun k : Int => (0 ≤ k ∧ k ≤ n) ∧ rm = mayF x d (l.drop k.toNat) k) (fun k => [(0, .ref 0 0 0), (1, .d (.sc (.int .i64 i))), (2, .d (.sc (.int .i64 d))), (18, .d (.slc 14 xs)), (19, .d (.sc (.int .i64 n))), (20, .d (.sc (.int .i64 k)))]) (fun _ => [sB xs m]) (fun k => n.toNat - k.toNat) 0 ?_ ?_ ?_
  ·exact ⟨⟨Int.le_refl 0, by omega⟩, hml⟩
  ·subst hA
   exact told_less (by simp [toldP, getS, A0, hn, hxl])
  rintro R k hR ⟨⟨k0, k1⟩, hk⟩
  replace k0 : 0 ≤ k := k0
  replace k1 : k ≤ n := k1
  by_cases hlt : k < n
  ·have t2 : A.cmp .lss k n = true := by subst hA; exact decide_eq_true hlt
   replace hn : n = (l.length : Int) := hn
   have hkl : k < (l.length : Int) := by omega
   obtain ⟨y, hy⟩ : ∃ y, y = l[k.toNat]'(by omega) := ⟨_, rfl⟩
   have hyr : xs.getD k.toNat [] = y.row := by rw [hy]; exact evrow hxs k0 hkl
   rw [evdrop k0 hkl, ← hy] at hk
   obtain ⟨bk, hbk⟩ : ∃ z, z = bitX d k := ⟨_, rfl⟩
   have w3 : A.wrap .u64 k = k := by subst hA; exact hwu k k0 (by omega)
   have w4 : A.bin .and .i64 (A.bin .shr .i64 d k) 1 = bk := by subst hA; exact hbk.symm
   have hnk : A.nn k := by subst hA; exact k0
   obtain ⟨ah, hah⟩ : ∃ z, z = aheadE x y := ⟨_, rfl⟩
   have e1 : GFsHo.ahead [.d (.sc (.int .i64 (A.gi (A.lift (A.row xs i)) 0))), .d (.sc (.int .i64 (A.gi (A.lift (A.row xs i)) (A.pl 0 1)))), .d (.sc (.int .i64 (A.gi (A.lift (A.row xs i)) (A.pl 0 2)))), .d (.sc (.int .i64 (A.gi (A.lift (A.row xs i)) (A.pl 0 3)))), .d (.sc (.int .i64 (A.gi (A.lift (A.row xs i)) (A.pl 0 4)))), .d (.sc (.string (A.gs (A.lift (A.row xs i)) (A.pl 0 5)))), .d (.sc (.string (A.gs (A.lift (A.row xs i)) (A.pl 0 6)))), .d (.sc (.string (A.gs (A.lift (A.row xs i)) (A.pl 0 7)))), .d (.sc (.string (A.gs (A.lift (A.row xs i)) (A.pl 0 8)))), .d (.sc (.int .i64 (A.gi (A.lift (A.row xs i)) (A.pl 0 9)))), .d (.sc (.bool (A.gb (A.lift (A.row xs i)) (A.pl 0 10)))), .d (.sc (.string (A.gs (A.lift (A.row xs i)) (A.pl 0 11)))), .d (.sc (.int .i64 (A.gi (A.lift (A.row xs i)) (A.pl 0 12)))), .d (.slc 3 (A.gl (A.lift (A.row xs i)) (A.pl 0 13)))] [.d (.sc (.int .i64 (A.gi (A.lift (A.row xs k)) 0))), .d (.sc (.int .i64 (A.gi (A.lift (A.row xs k)) (A.pl 0 1)))), .d (.sc (.int .i64 (A.gi (A.lift (A.row xs k)) (A.pl 0 2)))), .d (.sc (.int .i64 (A.gi (A.lift (A.row xs k)) (A.pl 0 3)))), .d (.sc (.int .i64 (A.gi (A.lift (A.row xs k)) (A.pl 0 4)))), .d (.sc (.string (A.gs (A.lift (A.row xs k)) (A.pl 0 5)))), .d (.sc (.string (A.gs (A.lift (A.row xs k)) (A.pl 0 6)))), .d (.sc (.string (A.gs (A.lift (A.row xs k)) (A.pl 0 7)))), .d (.sc (.string (A.gs (A.lift (A.row xs k)) (A.pl 0 8)))), .d (.sc (.int .i64 (A.gi (A.lift (A.row xs k)) (A.pl 0 9)))), .d (.sc (.bool (A.gb (A.lift (A.row xs k)) (A.pl 0 10)))), .d (.sc (.string (A.gs (A.lift (A.row xs k)) (A.pl 0 11)))), .d (.sc (.int .i64 (A.gi (A.lift (A.row xs k)) (A.pl 0 12)))), .d (.slc 3 (A.gl (A.lift (A.row xs k)) (A.pl 0 13)))] = ah := by rw [hah]; subst hA hFsHo; simp only [A0, hxr, hyr]; rfl
   have e2 : GFsHo.isOp [.d (.sc (.int .i64 (A.gi (A.lift (A.row xs i)) 0))), .d (.sc (.int .i64 (A.gi (A.lift (A.row xs i)) (A.pl 0 1)))), .d (.sc (.int .i64 (A.gi (A.lift (A.row xs i)) (A.pl 0 2)))), .d (.sc (.int .i64 (A.gi (A.lift (A.row xs i)) (A.pl 0 3)))), .d (.sc (.int .i64 (A.gi (A.lift (A.row xs i)) (A.pl 0 4)))), .d (.sc (.string (A.gs (A.lift (A.row xs i)) (A.pl 0 5)))), .d (.sc (.string (A.gs (A.lift (A.row xs i)) (A.pl 0 6)))), .d (.sc (.string (A.gs (A.lift (A.row xs i)) (A.pl 0 7)))), .d (.sc (.string (A.gs (A.lift (A.row xs i)) (A.pl 0 8)))), .d (.sc (.int .i64 (A.gi (A.lift (A.row xs i)) (A.pl 0 9)))), .d (.sc (.bool (A.gb (A.lift (A.row xs i)) (A.pl 0 10)))), .d (.sc (.string (A.gs (A.lift (A.row xs i)) (A.pl 0 11)))), .d (.sc (.int .i64 (A.gi (A.lift (A.row xs i)) (A.pl 0 12)))), .d (.slc 3 (A.gl (A.lift (A.row xs i)) (A.pl 0 13)))] := by subst hA hFsHo; simp only [A0, hxr]; exact ⟨x, rfl⟩
   have e3 : GFsHo.isOp [.d (.sc (.int .i64 (A.gi (A.lift (A.row xs k)) 0))), .d (.sc (.int .i64 (A.gi (A.lift (A.row xs k)) (A.pl 0 1)))), .d (.sc (.int .i64 (A.gi (A.lift (A.row xs k)) (A.pl 0 2)))), .d (.sc (.int .i64 (A.gi (A.lift (A.row xs k)) (A.pl 0 3)))), .d (.sc (.int .i64 (A.gi (A.lift (A.row xs k)) (A.pl 0 4)))), .d (.sc (.string (A.gs (A.lift (A.row xs k)) (A.pl 0 5)))), .d (.sc (.string (A.gs (A.lift (A.row xs k)) (A.pl 0 6)))), .d (.sc (.string (A.gs (A.lift (A.row xs k)) (A.pl 0 7)))), .d (.sc (.string (A.gs (A.lift (A.row xs k)) (A.pl 0 8)))), .d (.sc (.int .i64 (A.gi (A.lift (A.row xs k)) (A.pl 0 9)))), .d (.sc (.bool (A.gb (A.lift (A.row xs k)) (A.pl 0 10)))), .d (.sc (.string (A.gs (A.lift (A.row xs k)) (A.pl 0 11)))), .d (.sc (.int .i64 (A.gi (A.lift (A.row xs k)) (A.pl 0 12)))), .d (.slc 3 (A.gl (A.lift (A.row xs k)) (A.pl 0 13)))] := by subst hA hFsHo; simp only [A0, hyr]; exact ⟨y, rfl⟩
   cbv at t2 w3 w4 hnk e1 e2 e3
   cbv
   repeat first
    | (simp only [t2, w3, w4]; cbv)
    | refine And.intro (by
        subst hA hX hW hFsHo
        clear hH hB
        first
         | exact trivial
         | exact rfl
         | (simp [A0]; done)
         | (intro q; exact q)
         | (intro q; simpa [A0] using q)
         | (intro _; trivial)
         | (show Region.lexB _ _ = true; kernel_rfl)
         | (show turnsB _ = true; kernel_rfl)
         | assumption) ?_
    | ((with_reducible refine callB hX hB ?_); cbv; fail_if_success show False)
   refine And.intro (by subst hA; replace hkl : k < (l.length : Int) := hkl; replace hxl : xs.length = l.length := hxl; exact ⟨k0, by show k < (xs.length : Int); omega⟩) (And.intro (by subst hA; simp only [A0, hyr]; exact ⟨rfl, Nat.le_refl _, rfl⟩) ?_)
   refine pauseL hX (s' := [(0, .ref 0 0 0), (1, .d (.sc (.int .i64 i))), (2, .d (.sc (.int .i64 d))), (18, .d (.slc 14 xs)), (19, .d (.sc (.int .i64 n))), (20, .d (.sc (.int .i64 k))), (7, .d (.sc (.int .i64 k))), (8, .ref 1 0 0)]) (st' := [sB xs m, ⟨67, [.d (.sc (.int .i64 (A.gi (A.lift (A.row xs k)) 0))), .d (.sc (.int .i64 (A.gi (A.lift (A.row xs k)) (A.pl 0 1)))), .d (.sc (.int .i64 (A.gi (A.lift (A.row xs k)) (A.pl 0 2)))), .d (.sc (.int .i64 (A.gi (A.lift (A.row xs k)) (A.pl 0 3)))), .d (.sc (.int .i64 (A.gi (A.lift (A.row xs k)) (A.pl 0 4)))), .d (.sc (.string (A.gs (A.lift (A.row xs k)) (A.pl 0 5)))), .d (.sc (.string (A.gs (A.lift (A.row xs k)) (A.pl 0 6)))), .d (.sc (.string (A.gs (A.lift (A.row xs k)) (A.pl 0 7)))), .d (.sc (.string (A.gs (A.lift (A.row xs k)) (A.pl 0 8)))), .d (.sc (.int .i64 (A.gi (A.lift (A.row xs k)) (A.pl 0 9)))), .d (.sc (.bool (A.gb (A.lift (A.row xs k)) (A.pl 0 10)))), .d (.sc (.string (A.gs (A.lift (A.row xs k)) (A.pl 0 11)))), .d (.sc (.int .i64 (A.gi (A.lift (A.row xs k)) (A.pl 0 12)))), .d (.slc 3 (A.gl (A.lift (A.row xs k)) (A.pl 0 13)))], false, 0, true⟩]) (told_less (by simp [toldP, getS])) ?_
   obtain ⟨bb, t3⟩ : ∃ t, A.cmp .eql bk 0 = t := ⟨_, rfl⟩
   have hbb : bb = decide (bk = 0) := by rw [← t3]; subst hA; rfl
   have q1 : A.cond true true false = true := by subst hA; rfl
   have q2 : A.cond true false false = false := by subst hA; rfl
   have q3 : A.cond false true false = false := by subst hA; rfl
   have q4 : A.cond false false false = false := by subst hA; rfl
   cbv at t3 q1 q2 q3 q4
   cases bb <;> cases ah
   all_goals
    with_reducible refine goL (T := fun _ => tabY [23, 37, 1023, 1037] []) (H := fun _ => [kn_ahead GFsHo]) (tabY_ok _ _) hH follows_mixed hA hX ?_
    cbv
    repeat first
     | (simp only [t2, w3, w4, e1, t3, q1, q2, q3, q4]; cbv)
     | refine And.intro (by
         subst hA hX hW hFsHo
         clear hH hB
         first
          | exact trivial
          | exact rfl
          | (simp [A0]; done)
          | (intro q; exact q)
          | (intro q; simpa [A0] using q)
          | (intro _; trivial)
          | (show Region.lexB _ _ = true; kernel_rfl)
          | (show turnsB _ = true; kernel_rfl)
          | assumption
          | exact hinb
          | (intro _; exact hinb)
          | (simp only [A0, hxr]; exact ⟨rfl, Nat.le_refl _, rfl⟩)
          | (intro _; simp only [A0, hxr]; exact ⟨rfl, Nat.le_refl _, rfl⟩)
          | (intro _; assumption)) ?_
     | ((with_reducible refine callB hX hB ?_); cbv; fail_if_success show False)
   all_goals first
    | (subst hA hX hW
       rw [hk, mayF, if_pos (by rw [← hbk, ← hah, ← hbb]; rfl)]
       exact ret_keep [0] rfl ⟨rfl, rfl⟩)
    | (rw [mayF, if_neg (by rw [← hbk, ← hah, ← hbb]; decide)] at hk
       subst hR hA
       replace hn : n = (l.length : Int) := hn
       replace k0 : 0 ≤ k := k0
       replace hlt : k < n := hlt
       have wk : IntKind.wrap .i64 (k + 1) = k + 1 := wrap_i64 (by unfold r64; omega)
       refine ⟨k + 1, ⟨⟨by show 0 ≤ k + 1; omega, by show k + 1 ≤ n; omega⟩, hk⟩, by show n.toNat - (k + 1).toNat < n.toNat - k.toNat; omega, told_keep [0] rfl rfl ?_⟩
       simp [toldP, getS, A0, wk, pullD])
    | fail
  ·have t2 : A.cmp .lss k n = false := by subst hA; exact decide_eq_false hlt
   cbv at t2
   cbv
   simp only [t2]
   cbv
   subst hA hX hW
   replace hn : n = (l.length : Int) := hn
   replace hlt : ¬ k < n := hlt
   rw [List.drop_eq_nil_of_le (by omega)] at hk
   rw [hk]
   exact RetW.refl ⟨rfl, rfl⟩
end Go.Proofs.Ytadnpgkddgbhkaa
namespace Go.Proofs.Ytadnpgkddgbhkaa
open Go.RowKit Go.Maps
set_option linter.all false
set_option maxHeartbeats 4000000
theorem uI : Try.prog.underlying 3 = some (.int .i64) := by kernel_rfl
theorem uS : Try.prog.underlying 9 = some .string := by kernel_rfl
theorem cI : Try.prog.cellsOf 3 = 1 := by kernel_rfl
theorem cS : Try.prog.cellsOf 9 = 1 := by kernel_rfl
theorem sA : ∃ n, Try.prog.types.size + 1 = n + 2 := ⟨Try.prog.types.size - 1, by
 have : (decide (1 ≤ Try.prog.types.size)) = true := by kernel_rfl
 have := of_decide_eq_true this
 omega⟩
theorem kl1 {n : Int} (h : r64 n) (d : Nat) : Try.prog.keyLits (d + 1) 3 [.int .i64 n] = some [.int .i64 n] := by
 have hw : (Lit.int .i64 n).wf = true := by
  simp only [Lit.wf, Bool.and_eq_true, decide_eq_true_eq]
  exact h
 unfold Program.keyLits
 simp only [uI, hw, and_self, if_true]
theorem kl2 {s : ByteArray} (h : s.size ≤ maxLen) (d : Nat) : Try.prog.keyLits (d + 1) 9 [.string s] = some [.string s.data.toList] := by
 unfold Program.keyLits
 simp only [uS, h, if_true]
def keyV (d : Int) (b : ByteArray) : Value := .agg #[.int .i64 d, .string b]
theorem keyV_inj {d e : Int} {a b : ByteArray} (h : keyV d a = keyV e b) : d = e ∧ a = b := by
 simpa [keyV] using h
theorem keyI : Keyed Try.prog 3 := int_keyed uI
theorem key_int {n : Int} (h : r64 n) : ∃ l, keyOf Try.prog 3 (.int .i64 n) = some l := by
 have hw : (Lit.int .i64 n).wf = true := by
  simp only [Lit.wf, Bool.and_eq_true, decide_eq_true_eq]
  exact h
 refine ⟨.int .i64 n, ?_⟩
 unfold keyOf
 simp only [uI]
 unfold mapKey
 simp [uI, hw]
theorem mapI : Try.prog.underlying 93 = some (.map 3 3) := by kernel_rfl
theorem zeroI : ∃ i, Try.prog.info? 3 = some i ∧ i.zero = some (vzD true) := by
 have h : (Try.prog.info? 3).bind (·.zero) = some (.int .i64 0) := by kernel_rfl
 cases hi : Try.prog.info? 3 with
 | none => rw [hi] at h; cases h
 | some i => rw [hi] at h; exact ⟨i, rfl, h⟩
theorem zeroE : ∃ i, Try.prog.info? 123 = some i ∧ i.zero = some (vzD false) := by
 have h : (Try.prog.info? 123).bind (·.zero) = some (.agg #[]) := by kernel_rfl
 cases hi : Try.prog.info? 123 with
 | none => rw [hi] at h; cases h
 | some i => rw [hi] at h; exact ⟨i, rfl, h⟩
theorem keyT : Keyed Try.prog 122 := Keyed.of_law (deep_law_laid (m := 4) (by kernel_rfl) (by decide) (of_decide_eq_true (by kernel_rfl)) (by kernel_rfl) (by kernel_rfl))
theorem uT : ∃ f g : Field, Try.prog.underlying 122 = some (.struct #[f, g]) ∧ f.type = 3 ∧ f.offset = 0 ∧ f.name ≠ "_" ∧ g.type = 9 ∧ g.offset = 1 ∧ g.name ≠ "_" := ⟨_, _, (by kernel_rfl : Try.prog.underlying 122 = some (.struct #[{ name := "done", type := 3, offset := 0, embedded := false, tag := "", pkgPath := "concord/history", byteOffset := 0 }, { name := "state", type := 9, offset := 1, embedded := false, tag := "", pkgPath := "concord/history", byteOffset := 8 }])), rfl, rfl, by decide, rfl, rfl, by decide⟩
theorem cT : Try.prog.cellsOf 122 = 2 := by kernel_rfl
theorem kT : Try.prog.keyType 122 = true := by kernel_rfl
theorem key_vT {d : Int} {s : ByteArray} (hd : r64 d) (hs : s.size ≤ maxLen) : ∃ l, keyOf Try.prog 122 (keyV d s) = some l := by
 obtain ⟨n, hn⟩ := sA
 obtain ⟨f, g, hu, f1, f2, f3, g1, g2, g3⟩ := uT
 unfold keyOf keyV
 simp only [hu, kT, Bool.true_and]
 rw [if_pos (by simp [Value.formed, hu, cT]), hn]
 simp only [Value.cells]
 unfold Program.keyLits
 simp [hu, cT, f1, f2, f3, g1, g2, g3, cI, cS, kl1 hd, kl2 hs]
theorem mapT : Try.prog.underlying 97 = some (.map 122 123) := by kernel_rfl
theorem keyR : Keyed Try.prog 126 := Keyed.of_law (deep_law_laid (m := 4) (by kernel_rfl) (by decide) (of_decide_eq_true (by kernel_rfl)) (by kernel_rfl) (by kernel_rfl))
theorem uR : ∃ f g : Field, Try.prog.underlying 126 = some (.struct #[f, g]) ∧ f.type = 3 ∧ f.offset = 0 ∧ f.name ≠ "_" ∧ g.type = 9 ∧ g.offset = 1 ∧ g.name ≠ "_" := ⟨_, _, (by kernel_rfl : Try.prog.underlying 126 = some (.struct #[{ name := "done", type := 3, offset := 0, embedded := false, tag := "", pkgPath := "concord/concordref26", byteOffset := 0 }, { name := "s", type := 9, offset := 1, embedded := false, tag := "", pkgPath := "concord/concordref26", byteOffset := 8 }])), rfl, rfl, by decide, rfl, rfl, by decide⟩
theorem cR : Try.prog.cellsOf 126 = 2 := by kernel_rfl
theorem kR : Try.prog.keyType 126 = true := by kernel_rfl
theorem key_vR {d : Int} {s : ByteArray} (hd : r64 d) (hs : s.size ≤ maxLen) : ∃ l, keyOf Try.prog 126 (keyV d s) = some l := by
 obtain ⟨n, hn⟩ := sA
 obtain ⟨f, g, hu, f1, f2, f3, g1, g2, g3⟩ := uR
 unfold keyOf keyV
 simp only [hu, kR, Bool.true_and]
 rw [if_pos (by simp [Value.formed, hu, cR]), hn]
 simp only [Value.cells]
 unfold Program.keyLits
 simp [hu, cR, f1, f2, f3, g1, g2, g3, cI, cS, kl1 hd, kl2 hs]
theorem mapR : Try.prog.underlying 102 = some (.map 126 3) := by kernel_rfl
end Go.Proofs.Ytadnpgkddgbhkaa
namespace Go.Proofs.Ytadnpgkddgbhkaa
open Go.RowKit
set_option linter.all false
def numF : Nat → Nat → List UInt8
 | 0, _ => []
 | f + 1, u => if u < 128 then [UInt8.ofNat u] else UInt8.ofNat (u % 128 + 128) :: numF f (u / 128)
def zig (n : Int) : Int := if n < 0 then -2 * n - 1 else 2 * n
def numB (n : Int) : List UInt8 := numF 10 (zig n).toNat
theorem zig_range {n : Int} (h : r64 n) : 0 ≤ zig n ∧ zig n < 18446744073709551616 := by unfold r64 at h; unfold zig; split <;> omega
structure FsPz where
 zig : Int → Int
 r64 : Int → Prop
def FsPz0 : FsPz where
 zig := zig
 r64 := r64
theorem numF_step (f u : Nat) (h : ¬ u < 128) : numF (f + 1) u = UInt8.ofNat (u % 128 + 128) :: numF f (u / 128) := by rw [numF, if_neg h]
theorem numF_last (f u : Nat) (h : u < 128) : numF (f + 1) u = [UInt8.ofNat u] := by rw [numF, if_pos h]
theorem fdiv128 (u : Nat) : (u : Int).fdiv (2 ^ min (Int.toNat 7) (IntKind.bits .u64)) = ((u / 128 : Nat) : Int) := by
 rw [show (2 : Int) ^ min (Int.toNat 7) (IntKind.bits .u64) = 128 by decide, Int.fdiv_eq_ediv_of_nonneg _ (by omega)]
 rfl
theorem low8 (u : Nat) (h : u < 128) : IntKind.wrap .u8 (u : Int) = ((UInt8.ofNat u).toNat : Int) := by
 simp [IntKind.wrap, IntKind.bits, IntKind.signed]
theorem or128f : ∀ x : Fin 256, bitsV .u8 (· ||| ·) (x.val : Int) 128 = (((UInt8.ofNat (x.val % 128 + 128)).toNat : Nat) : Int) := by decide +kernel
theorem or128 (u : Nat) : bitsV .u8 (· ||| ·) (IntKind.wrap .u8 (u : Int)) 128 = (((UInt8.ofNat (u % 128 + 128)).toNat : Nat) : Int) := by
 have e : IntKind.wrap .u8 (u : Int) = ((u % 256 : Nat) : Int) := by
  simp [IntKind.wrap, IntKind.bits, IntKind.signed]
 rw [e]
 have := or128f ⟨u % 256, Nat.mod_lt _ (by decide)⟩
 simp only at this
 rw [this, show u % 256 % 128 = u % 128 by omega]
theorem wrap64_of {a : Int} (h0 : 0 ≤ a) (h : a < 18446744073709551616) : IntKind.wrap .u64 a = a := by
 simp [IntKind.wrap, IntKind.bits, IntKind.signed]
 omega
theorem xor_zero (a : Int) (h0 : 0 ≤ a) (h : a < 18446744073709551616) : bitsV .u64 (· ^^^ ·) a 0 = a := by
 obtain ⟨n, rfl⟩ := Int.eq_ofNat_of_zero_le h0
 have e : BitVec.ofInt 64 (n : Int) ^^^ BitVec.ofInt 64 0 = BitVec.ofNat 64 n := by
  rw [show BitVec.ofInt 64 0 = 0#64 from rfl, BitVec.xor_zero]
  simp
 show IntKind.wrap .u64 ((BitVec.ofInt 64 (n : Int) ^^^ BitVec.ofInt 64 0).toNat : Int) = n
 rw [e, BitVec.toNat_ofNat, Nat.mod_eq_of_lt (by omega)]
 exact wrap64_of h0 h
theorem xor_ones (a : Int) (h0 : 0 ≤ a) (h : a < 18446744073709551616) : bitsV .u64 (· ^^^ ·) a 18446744073709551615 = 18446744073709551615 - a := by
 obtain ⟨n, rfl⟩ := Int.eq_ofNat_of_zero_le h0
 have e : BitVec.ofInt 64 (n : Int) ^^^ BitVec.ofInt 64 18446744073709551615 = ~~~ (BitVec.ofNat 64 n) := by
  rw [show BitVec.ofInt 64 18446744073709551615 = BitVec.allOnes 64 from rfl, BitVec.xor_allOnes]
  simp
 show IntKind.wrap .u64 ((BitVec.ofInt 64 (n : Int) ^^^ BitVec.ofInt 64 18446744073709551615).toNat : Int) = _
 rw [e, BitVec.toNat_not, BitVec.toNat_ofNat, Nat.mod_eq_of_lt (show n < 2 ^ 64 by omega)]
 rw [wrap64_of (by omega) (by omega)]
 omega
theorem zig_bits (n : Int) (h : r64 n) : bitsV .u64 (· ^^^ ·) (IntKind.wrap .u64 (IntKind.wrap .u64 n * 2 ^ min (Int.toNat 1) (IntKind.bits .u64))) (IntKind.wrap .u64 (n.fdiv (2 ^ min (Int.toNat 63) (IntKind.bits .i64)))) = zig n := by
 have hr := zig_range h
 unfold r64 at h
 have e1 : (2 : Int) ^ min (Int.toNat 1) (IntKind.bits .u64) = 2 := by decide
 have e2 : (2 : Int) ^ min (Int.toNat 63) (IntKind.bits .i64) = 9223372036854775808 := by decide
 rw [e1, e2]
 have hf : n.fdiv 9223372036854775808 = if n < 0 then -1 else 0 := by
  rw [Int.fdiv_eq_ediv_of_nonneg _ (by omega)]
  split <;> omega
 rw [hf]
 unfold zig at hr ⊢
 by_cases hn : n < 0
 ·rw [if_pos hn, if_pos hn]
  rw [show IntKind.wrap .u64 (-1) = 18446744073709551615 from by decide]
  have : IntKind.wrap .u64 (IntKind.wrap .u64 n * 2) = 18446744073709551616 + 2 * n := by
   simp [IntKind.wrap, IntKind.bits, IntKind.signed]
   omega
  rw [this, xor_ones _ (by omega) (by omega)]
  omega
 ·rw [if_neg hn, if_neg hn]
  rw [show IntKind.wrap .u64 0 = 0 from by decide]
  have : IntKind.wrap .u64 (IntKind.wrap .u64 n * 2) = 2 * n := by
   simp [IntKind.wrap, IntKind.bits, IntKind.signed]
   omega
  rw [this, xor_zero _ (by omega) (by omega)]
set_option maxRecDepth 100000 in
theorem v_zig (n : Int) (hp0 : FsPz0.r64 n) : FnV Try.prog 90 [intD n] (.d (.sc (.int .u64 ((zig n))))) := by
 refine FnD_cbv (T := fun _ => tabY [] []) (H := fun _ => []) (tabY_ok _ _) noK_ok follows_mixed Try.func90 rfl Try.ntmps90 (by simp) fun A X W hA hX hW => ?_
 cbv
 repeat' first
  | (refine part (fun h => ?_) (fun h => ?_) <;> try cbv)
  | (refine And.intro ?_ ?_)
 all_goals subst hA hX hW
 all_goals try (show Region.lexB _ _ = true; kernel_rfl)
 all_goals try (show turnsB _ = true; kernel_rfl)
 all_goals simp only [A0, FsPz0, decide_eq_true_eq, decide_eq_false_iff_not, Bool.not_eq_true', Bool.not_eq_false'] at *
 all_goals first
  | (refine ret_v ?_ rfl
     rw [zig_bits n hp0])
  | decide
def kn_zig (F : FsPz) : FuncId × (List DV → RV) := (90, fun args => match args with
 | [.d (.sc (.int .i64 n))] => some ([F.r64 n], .d (.sc (.int .u64 ((F.zig n)))))
 | _ => none)
theorem ok_zig (args : List DV) (cs : List Prop) (r : DV) (h : (kn_zig FsPz0).2 args = some (cs, r)) (hc : allP cs True) : FnV Try.prog 90 args r ∧ closedL 0 args = true := by
 unfold kn_zig at h
 simp only at h
 split at h
 ·cases h; exact ⟨v_zig _ hc.1, rfl⟩
 ·cases h
theorem w_grown (bs : List UInt8) (xs : List (List PD)) (n : Int) (hxs : xs = bytesP bs) (h0 : 0 ≤ n) (hn : n ≤ 8388608) (hb : bs.length ≤ 8388608) : FnD Try.prog 85 [.d (.slc 1 xs), intD n] [] (fun r st' => ∃ cs m, cs = rowsD (bytesP bs) ∧ m = bs.length ∧ r = .view 1 0 1 0 m ∧ st' = [⟨5, cs, true, 1, true⟩]) := by
 refine FnD_cbv (T := fun _ => tabY [] []) (H := fun _ => []) (tabY_ok _ _) noK_ok follows_mixed Try.func85 rfl Try.ntmps85 (by simp) fun A X W hA hX hW => ?_
 cbv
 have hl : xs.length = bs.length := by rw [hxs]; exact bytesP_length bs
 repeat' first
  | (refine And.intro ?_ ?_)
 all_goals subst hA hX hW
 ·simp only [A0]
  rw [hl]
  simp [IntKind.wrap, IntKind.bits, IntKind.signed]
  omega
 ·rfl
 ·simp [A0]
 ·simp only [A0]
  omega
 ·refine RetW.refl ⟨_, _, ?_, ?_, rfl, rfl⟩
  ·simp [A0, hxs]
  ·simp [A0, hl]
theorem w_num (bs : List UInt8) (cs : List DV) (m : Nat) (n : Int) (ver : Nat) (hcs : cs = rowsD (bytesP bs)) (hm : m = bs.length) (hn : r64 n) (hl : bs.length ≤ 8388608) : FnD Try.prog 84 [.view 1 0 ver 0 m, intD n] [⟨5, cs, true, ver, true⟩] (fun r st' => ∃ v cs' m', cs' = rowsD (bytesP (bs ++ numB n)) ∧ m' = (bs ++ numB n).length ∧ r = .view 1 0 v 0 m' ∧ st' = [⟨5, cs', true, v, true⟩]) := by
 obtain ⟨F, hF⟩ : ∃ F, F = FsPz0 := ⟨_, rfl⟩
 have hH : SoundK Try.prog [kn_zig F] := by subst hF; exact orK_ok ok_zig noK_ok
 refine FnD_cbv (T := fun _ => tabY [] []) (H := fun _ => [kn_zig F]) (tabY_ok _ _) hH follows_mixed Try.func84 rfl Try.ntmps84 (by simp) fun A X W hA hX hW => ?_
 cbv
 refine And.intro (by subst hF; exact hn) ?_
 refine loopL (T := fun _ => tabY [] []) (H := fun _ => [kn_zig F]) (tabY_ok _ _) hH follows_mixed hA hX (fun x : List DV × Int × Nat × Nat => ∃ (bs1 : List UInt8) (f u : Nat), x.1 = rowsD (bytesP bs1) ∧ x.2.1 = u ∧ x.2.2.2 = bs1.length ∧ bs1 ++ numF (f + 1) u = bs ++ numB n ∧ u < 128 ^ (f + 1) ∧ u < 18446744073709551616 ∧ f + bs1.length ≤ 8388620)
  (fun x => [(0, .view 1 0 x.2.2.1 0 x.2.2.2), (5, .d (.sc (.int .u64 x.2.1)))]) (fun x => [⟨5, x.1, true, x.2.2.1, true⟩])
  (fun x => x.2.1.toNat) (cs, zig n, ver, m) ?_ ?_ ?_
 ·have hz := zig_range hn
  have hz2 : ((zig n).toNat : Int) = zig n := Int.toNat_of_nonneg hz.1
  refine ⟨bs, 9, (zig n).toNat, hcs, hz2.symm, hm, rfl, ?_, ?_, ?_⟩
  all_goals omega
 ·subst hF
  refine told_less ?_
  simp [toldP, getS, FsPz0]
 rintro R ⟨cells, u, v, len⟩ hR ⟨bs1, f, u1, h1, h2, h3, e1, e2, e3, e4⟩
 replace h1 : cells = rowsD (bytesP bs1) := h1
 replace h3 : len = bs1.length := h3
 cbv
 refine part (fun h => ?_) (fun h => ?_)
 ·cbv
  repeat' first
   | (refine And.intro ?_ ?_)
  all_goals subst hR hA hX hW hF
  all_goals simp only [A0, decide_eq_true_eq] at h ⊢
  all_goals try (first | rfl | (simp; done) | omega)
  ·rw [h1, rowsB_length, h3, Nat.mul_one]
  ·replace h2 : u = (u1 : Int) := h2
   subst h2
   have hf : (u1 : Int).fdiv (2 ^ min (Int.toNat 7) (IntKind.bits .u64)) = ((u1 / 128 : Nat) : Int) := fdiv128 u1
   obtain ⟨f1, rfl⟩ : ∃ f1, f = f1 + 1 := by
    cases f with
    | zero => omega
    | succ f1 => exact ⟨f1, rfl⟩
   have hu : u1 / 128 < 128 ^ (f1 + 1) := by
    rw [Nat.pow_succ] at e2
    exact Nat.div_lt_of_lt_mul (by rw [Nat.mul_comm]; exact e2)
   refine ⟨(cells ++ [.d (.sc (.int .u8 ((UInt8.ofNat (u1 % 128 + 128)).toNat : Int)))], ((u1 / 128 : Nat) : Int), v + 1, len + 1), ⟨bs1 ++ [UInt8.ofNat (u1 % 128 + 128)], f1, u1 / 128, ?_, rfl, ?_, ?_, hu, ?_, ?_⟩, ?_, told_keep [0] rfl ?_ ?_⟩
   ·simp only [rowsB_append, rowsB_one, h1]
   ·simp [h3]
   ·rw [← e1, numF_step (f1 + 1) u1 (by omega)]
    simp only [List.append_assoc, List.singleton_append]
   ·omega
   ·simp only [List.length_append, List.length_singleton]; omega
   ·simp only; omega
   ·simp only [or128 u1]
    simp [keepSt, pullBox, pullL_eq, h1, pull_rows, pullD]
   ·rw [hf]
    simp [toldP, getS, pullD]
 ·cbv
  repeat' first
   | (refine And.intro ?_ ?_)
  all_goals subst hR hA hX hW hF
  all_goals simp only [A0, decide_eq_false_iff_not] at h ⊢
  all_goals try (first | rfl | (simp; done) | omega)
  ·rw [h1, rowsB_length, h3, Nat.mul_one]
  ·replace h2 : u = (u1 : Int) := h2
   subst h2
   have hb : numF (f + 1) u1 = [UInt8.ofNat u1] := by exact numF_last f u1 (by omega)
   rw [hb] at e1
   refine ret_keep [0] rfl ⟨v + 1, _, _, rfl, rfl, ?_, ?_⟩
   ·simp [pullD, ← e1, h3]
   ·rw [← e1, rowsB_append, rowsB_one, ← h1, low8 u1 (by omega)]
    simp [keepSt, pullBox, pullL_eq, h1, pull_rows, pullD]
theorem numF_length : ∀ (f u : Nat), (numF f u).length ≤ f
 | 0, _ => Nat.le_refl 0
 | f + 1, u => by
     unfold numF
     split
     ·simp
     ·have := numF_length f (u / 128)
      simp only [List.length_cons]
      omega
theorem numB_length (n : Int) : (numB n).length ≤ 10 := numF_length 10 _
def isB (xs : List (List PD)) : Prop := ∃ bs, xs = bytesP bs ∧ bs.length ≤ 8000000
noncomputable def numX (xs : List (List PD)) (n : Int) : List (List PD) := xs ++ bytesP (numB n)
def textB (s : ByteArray) : List UInt8 := numB s.size ++ s.data.toList
noncomputable def textX (xs : List (List PD)) (s : ByteArray) : List (List PD) := xs ++ bytesP (textB s)
noncomputable def flagX (xs : List (List PD)) (b : Bool) : List (List PD) := xs ++ bytesP [if b then 1 else 0]
def szT (s : ByteArray) : Prop := s.size ≤ 4194304
theorem ret_bytes {r : DV} {st : Store} {b ver n ty : Nat} {e : Bool} {cs : List DV} {bs : List UInt8} (hb : st[b]? = some ⟨ty, cs, e, ver, true⟩) (hn : n = bs.length) (hcells : cs = rowsD (bytesP bs)) (hr : r = .d (.slc 1 (bytesP bs))) :
  RetW 0 (fun x st => st = [] ∧ pureD x = true ∧ x = r) (.view 1 b ver 0 n) st :=
 ret_slice hb rfl rfl (by rw [bytesP_length]; exact hn) hcells (by intro x hx; simp only [bytesP, List.mem_map] at hx; obtain ⟨_, _, rfl⟩ := hx; rfl) hr
def within3 (n lo hi : Int) : Int := lo + n % (hi - lo + 1)
def span3 (lo hi : Int) : Prop := lo ≤ hi ∧ -1099511627776 ≤ lo ∧ hi ≤ 1099511627776
noncomputable def sameB (xs ys : List (List PD)) : Bool := @decide (xs = ys) (Classical.propDecidable _)
theorem tmod_cases (n W : Int) (hW : 0 < W) : (n.tmod W < 0 → n.tmod W + W = n % W) ∧ (¬ n.tmod W < 0 → n.tmod W = n % W) := by
 have h1 := Int.emod_nonneg n (show W ≠ 0 by omega)
 have h2 := Int.emod_lt_of_pos n hW
 rw [Int.tmod_eq_emod]
 have h3 : ((W.natAbs : Nat) : Int) = W := by omega
 split
 ·omega
 ·rw [h3]; omega
structure FsPq where
 num : List (List PD) → Int → List (List PD)
 text : List (List PD) → ByteArray → List (List PD)
 flag : List (List PD) → Bool → List (List PD)
 sameB : List (List PD) → List (List PD) → Bool
 within3 : Int → Int → Int → Int
 isB : List (List PD) → Prop
 r64 : Int → Prop
 sz : ByteArray → Prop
 span3 : Int → Int → Prop
noncomputable def FsPq0 : FsPq where
 num := numX
 text := textX
 flag := flagX
 sameB := sameB
 within3 := within3
 isB := isB
 r64 := r64
 sz := szT
 span3 := span3
set_option maxRecDepth 100000 in
theorem v_within3 (n : Int) (lo : Int) (hi : Int) (hp0 : FsPq0.r64 n) (hp1 : FsPq0.span3 lo hi) : FnV Try.prog 30 [intD n, intD lo, intD hi] (intD ((within3 n lo hi))) := by
 refine FnD_cbv (T := fun _ => tabY [] []) (H := fun _ => []) (tabY_ok _ _) noK_ok follows_mixed Try.func30 rfl Try.ntmps30 (by simp) fun A X W hA hX hW => ?_
 cbv
 repeat' first
  | (refine part (fun h => ?_) (fun h => ?_) <;> try cbv)
  | (refine And.intro ?_ ?_)
 all_goals subst hA hX hW
 all_goals try (show Region.lexB _ _ = true; kernel_rfl)
 all_goals try (show turnsB _ = true; kernel_rfl)
 all_goals simp only [A0, FsPq0, decide_eq_true_eq, decide_eq_false_iff_not, Bool.not_eq_true', Bool.not_eq_false'] at *
 all_goals
  have hr : r64 n := hp0
  have hs : span3 lo hi := hp1
  unfold span3 at hs
  have e1 : IntKind.wrap .i64 (hi - lo) = hi - lo := wrap_i64 (by unfold r64; omega)
  have e2 : IntKind.wrap .i64 (hi - lo + 1) = hi - lo + 1 := wrap_i64 (by unfold r64; omega)
  have hc := tmod_cases n (hi - lo + 1) (by omega)
  have h1 := Int.emod_nonneg n (show hi - lo + 1 ≠ 0 by omega)
  have h2 := Int.emod_lt_of_pos n (show 0 < hi - lo + 1 by omega)
  simp only [e1, e2] at *
 ·omega
 ·refine ret_v ?_ rfl
  have h3 := hc.1 h
  have e3 : IntKind.wrap .i64 (n.tmod (hi - lo + 1) + hi) = n.tmod (hi - lo + 1) + hi := wrap_i64 (by unfold r64; omega)
  have e4 : IntKind.wrap .i64 (n.tmod (hi - lo + 1) + hi - lo) = n.tmod (hi - lo + 1) + hi - lo := wrap_i64 (by unfold r64; omega)
  have e5 : IntKind.wrap .i64 (n.tmod (hi - lo + 1) + hi - lo + 1) = n % (hi - lo + 1) := by rw [wrap_i64 (by unfold r64; omega)]; omega
  have e6 : IntKind.wrap .i64 (lo + n % (hi - lo + 1)) = lo + n % (hi - lo + 1) := wrap_i64 (by unfold r64; omega)
  rw [e3, e4, e5, e6]
  rfl
 ·refine ret_v ?_ rfl
  rw [hc.2 h]
  have e6 : IntKind.wrap .i64 (lo + n % (hi - lo + 1)) = lo + n % (hi - lo + 1) := wrap_i64 (by unfold r64; omega)
  rw [e6]
  rfl
def kn_within3 (F : FsPq) : FuncId × (List DV → RV) := (30, fun args => match args with
 | [.d (.sc (.int .i64 n)), .d (.sc (.int .i64 lo)), .d (.sc (.int .i64 hi))] => some ([F.r64 n, F.span3 lo hi], intD ((F.within3 n lo hi)))
 | _ => none)
theorem ok_within3 (args : List DV) (cs : List Prop) (r : DV) (h : (kn_within3 FsPq0).2 args = some (cs, r)) (hc : allP cs True) : FnV Try.prog 30 args r ∧ closedL 0 args = true := by
 unfold kn_within3 at h
 simp only at h
 split at h
 ·cases h; exact ⟨v_within3 _ _ _ hc.1 hc.2.1, rfl⟩
 ·cases h
set_option maxRecDepth 100000 in
theorem v_num (xs : List (List PD)) (n : Int) (hp0 : FsPq0.isB xs) (hp1 : FsPq0.r64 n) : FnV Try.prog 73 [.d (.slc 1 xs), intD n] (.d (.slc 1 (numX xs n))) := by
 obtain ⟨bs, hxs, hb⟩ := hp0
 refine FnD_cbv (T := fun _ => tabY [] []) (H := fun _ => []) (tabY_ok _ _) noK_ok follows_mixed Try.func73 rfl Try.ntmps73 (by simp) fun A X W hA hX hW => ?_
 cbv
 refine callL hX ((w_grown bs xs 10 hxs (by decide) (by decide) (by omega)).mono ?_)
 rintro r st ⟨cs, m, hcs, hm, rfl, rfl⟩
 cbv
 refine callL hX ((w_num bs cs m n 1 hcs hm hp1 (by omega)).mono ?_)
 rintro r st ⟨v, cs2, m2, hcs2, hm2, rfl, rfl⟩
 cbv
 subst hA hX hW
 exact ret_bytes rfl hm2 hcs2 (by simp [numX, hxs, bytesP_append])
def kn_num (F : FsPq) : FuncId × (List DV → RV) := (73, fun args => match args with
 | [.d (.slc 1 xs), .d (.sc (.int .i64 n))] => some ([F.isB xs, F.r64 n], .d (.slc 1 (F.num xs n)))
 | [.d (.sc (.slice none 0 0)), .d (.sc (.int .i64 n))] => some ([F.isB [], F.r64 n], .d (.slc 1 (F.num [] n)))
 | _ => none)
theorem ok_num (args : List DV) (cs : List Prop) (r : DV) (h : (kn_num FsPq0).2 args = some (cs, r)) (hc : allP cs True) : FnV Try.prog 73 args r ∧ closedL 0 args = true := by
 unfold kn_num at h
 simp only at h
 split at h
 ·cases h; exact ⟨v_num _ _ hc.1 hc.2.1, rfl⟩
 ·cases h; exact ⟨FnP.nils (v_num [] _ hc.1 hc.2.1) ⟨.inr ⟨rfl, _, rfl⟩, ⟨.inl rfl, trivial⟩⟩, rfl⟩
 ·cases h
set_option maxRecDepth 100000 in
theorem v_text (xs : List (List PD)) (s : ByteArray) (hp0 : FsPq0.isB xs) (hp1 : FsPq0.sz s) : FnV Try.prog 75 [.d (.slc 1 xs), strD s] (.d (.slc 1 (textX xs s))) := by
 obtain ⟨bs, hxs, hb⟩ := hp0
 have hs : s.size ≤ 4194304 := hp1
 refine FnD_cbv (T := fun _ => tabY [] []) (H := fun _ => []) (tabY_ok _ _) noK_ok follows_mixed Try.func75 rfl Try.ntmps75 (by simp) fun A X W hA hX hW => ?_
 cbv
 have e1 : IntKind.wrap .i64 (10 + (s.size : Int)) = 10 + (s.size : Int) := wrap_i64 (by unfold r64; omega)
 refine callL hX ((w_grown bs xs _ hxs ?_ ?_ (by omega)).mono ?_)
 ·subst hA
  show 0 ≤ IntKind.wrap .i64 (10 + (s.size : Int))
  rw [e1]; omega
 ·subst hA
  show IntKind.wrap .i64 (10 + (s.size : Int)) ≤ 8388608
  rw [e1]; omega
 rintro r st ⟨cs, m, hcs, hm, rfl, rfl⟩
 cbv
 refine callL hX ((w_num bs cs m _ 1 hcs hm ?_ (by omega)).mono ?_)
 ·subst hA
  show r64 (s.size : Int)
  unfold r64; omega
 rintro r st ⟨v, cs2, m2, hcs2, hm2, rfl, rfl⟩
 cbv
 have hn := numB_length (s.size : Int)
 subst hA hX hW
 replace hcs2 : cs2 = rowsD (bytesP (bs ++ numB (s.size : Int))) := hcs2
 replace hm2 : m2 = (bs ++ numB (s.size : Int)).length := hm2
 have hsz : s.data.toList.length = s.size := by rw [Array.length_toList]; rfl
 refine And.intro rfl (And.intro ?_ (And.intro ?_ ?_))
 ·simp only [A0]
  rw [hcs2, rowsB_length, hm2, Nat.mul_one]
 ·simp only [A0]
  rw [hm2, List.length_append]
  omega
 ·refine ret_bytes (bs := bs ++ textB s) rfl ?_ ?_ (by simp [textX, hxs, bytesP_append])
  ·simp only [A0, hm2, textB, List.length_append, hsz]
   omega
  ·simp only [A0, hcs2, textB]
   rw [← List.append_assoc, rowsB_append (bs ++ numB s.size)]
def kn_text (F : FsPq) : FuncId × (List DV → RV) := (75, fun args => match args with
 | [.d (.slc 1 xs), .d (.sc (.string s))] => some ([F.isB xs, F.sz s], .d (.slc 1 (F.text xs s)))
 | [.d (.sc (.slice none 0 0)), .d (.sc (.string s))] => some ([F.isB [], F.sz s], .d (.slc 1 (F.text [] s)))
 | _ => none)
theorem ok_text (args : List DV) (cs : List Prop) (r : DV) (h : (kn_text FsPq0).2 args = some (cs, r)) (hc : allP cs True) : FnV Try.prog 75 args r ∧ closedL 0 args = true := by
 unfold kn_text at h
 simp only at h
 split at h
 ·cases h; exact ⟨v_text _ _ hc.1 hc.2.1, rfl⟩
 ·cases h; exact ⟨FnP.nils (v_text [] _ hc.1 hc.2.1) ⟨.inr ⟨rfl, _, rfl⟩, ⟨.inl rfl, trivial⟩⟩, rfl⟩
 ·cases h
end Go.Proofs.Ytadnpgkddgbhkaa
namespace Go.Proofs.Ytadnpgkddgbhkaa
open Go.RowKit
set_option linter.all false
inductive Got where
 | short
 | form
 | num (u k : Nat)
def sev : Nat → Nat → List UInt8 → Got
 | _, _, [] => .short
 | i, u, c :: l => if (0 < i ∧ c.toNat = 0) ∨ (i = 9 ∧ 1 < c.toNat) then .form else if c.toNat < 128 then .num (u + c.toNat % 128 * 2 ^ (7 * i)) (i + 1) else sev (i + 1) (u + c.toNat % 128 * 2 ^ (7 * i)) l
def zagI (u : Int) : Int := if u % 2 = 1 then -(u / 2) - 1 else u / 2
def u64 (u : Int) : Prop := 0 ≤ u ∧ u < 18446744073709551616
def numL (bs : List UInt8) (a w : Int) : Int × Int × Int :=
 if w ≠ 0 then (0, a, w) else match sev 0 0 (bs.drop a.toNat) with
  | .short => (0, a, 3)
  | .form => (0, a, 4)
  | .num u k => (zagI u, a + k, 0)
def numR (xs : List (List PD)) (a w : Int) : Int × Int × Int := numL (bytesOf xs) a w
def cntL (bs : List UInt8) (a w most : Int) : Int × Int × Int :=
 if (numL bs a w).2.2 = 0 ∧ ((numL bs a w).1 < 0 ∨ most < (numL bs a w).1) then (0, a, 2) else numL bs a w
def cntR (xs : List (List PD)) (a w most : Int) : Int × Int × Int := cntL (bytesOf xs) a w most
def textL (bs : List UInt8) (a w most : Int) : ByteArray × Int × Int :=
 if (cntL bs a w most).2.2 ≠ 0 then (.empty, (cntL bs a w most).2.1, (cntL bs a w most).2.2) else
  if (bs.length : Int) - (cntL bs a w most).2.1 < (cntL bs a w most).1 then (.empty, a, 3) else
   (⟨((bs.drop (cntL bs a w most).2.1.toNat).take (cntL bs a w most).1.toNat).toArray⟩, (cntL bs a w most).2.1 + (cntL bs a w most).1, 0)
def textR (xs : List (List PD)) (a w most : Int) : ByteArray × Int × Int := textL (bytesOf xs) a w most
def flagL (bs : List UInt8) (a w : Int) : Bool × Int × Int :=
 if w ≠ 0 then (false, a, w) else match bs[a.toNat]? with
  | none => (false, a, 3)
  | some c => if 1 < (c.toNat : Int) then (false, a, 4) else (decide ((c.toNat : Int) = 1), a + 1, 0)
def flagR (xs : List (List PD)) (a w : Int) : Bool × Int × Int := flagL (bytesOf xs) a w
def endR (xs : List (List PD)) (a w : Int) : Int := if w = 0 ∧ a < xs.length then 5 else w
theorem ofInt_nat (n : Nat) : BitVec.ofInt 64 (n : Int) = BitVec.ofNat 64 n := by simp
theorem or_add (u w k : Nat) (hu : u < 2 ^ k) (hw : u + w * 2 ^ k < 18446744073709551616) : bitsV .u64 (· ||| ·) (u : Int) ((w * 2 ^ k : Nat) : Int) = ((u + w * 2 ^ k : Nat) : Int) := by
 show IntKind.wrap .u64 ((BitVec.ofInt 64 (u : Int) ||| BitVec.ofInt 64 ((w * 2 ^ k : Nat) : Int)).toNat : Int) = _
 rw [ofInt_nat, ofInt_nat, BitVec.toNat_or, BitVec.toNat_ofNat, BitVec.toNat_ofNat, Nat.mod_eq_of_lt (show u < 2 ^ 64 by omega), Nat.mod_eq_of_lt (show w * 2 ^ k < 2 ^ 64 by omega)]
 have := Nat.shiftLeft_add_eq_or_of_lt hu w
 rw [Nat.shiftLeft_eq] at this
 rw [Nat.or_comm, ← this, wrap64_of (by omega) (by omega)]
 omega
theorem xor_i64 (a : Int) (h : r64 a) : bitsV .i64 (· ^^^ ·) a 0 = a ∧ bitsV .i64 (· ^^^ ·) a (-1) = -a - 1 ∧ bitsV .i64 (· ^^^ ·) (-1) a = -a - 1 := by
 have hb : ((BitVec.ofInt 64 a).toNat : Int) = a % 18446744073709551616 := by
  rw [BitVec.toNat_ofInt]
  omega
 have hx : (BitVec.ofInt 64 (-1) : BitVec 64) = BitVec.allOnes 64 := by decide
 unfold r64 at h
 have hn : IntKind.wrap .i64 ((~~~ BitVec.ofInt 64 a).toNat : Int) = -a - 1 := by
  rw [BitVec.toNat_not]
  simp only [IntKind.wrap, IntKind.bits, IntKind.signed]
  simp
  omega
 refine ⟨?_, ?_, ?_⟩
 ·show IntKind.wrap .i64 ((BitVec.ofInt 64 a ^^^ BitVec.ofInt 64 0).toNat : Int) = a
  rw [show BitVec.ofInt 64 0 = 0#64 from rfl, BitVec.xor_zero, hb]
  simp only [IntKind.wrap, IntKind.bits, IntKind.signed]
  simp
  omega
 ·show IntKind.wrap .i64 ((BitVec.ofInt 64 a ^^^ BitVec.ofInt 64 (-1)).toNat : Int) = _
  rw [hx, BitVec.xor_allOnes, hn]
 ·show IntKind.wrap .i64 ((BitVec.ofInt 64 (-1) ^^^ BitVec.ofInt 64 a).toNat : Int) = _
  rw [hx, BitVec.allOnes_xor, hn]
theorem zag_zig (n : Int) (h : r64 n) : zagI (zig n) = n := by
 unfold r64 at h
 unfold zagI zig
 split <;> split <;> omega
structure FsRr where
 zag : Int → Int
 zag2 : Int → Int
 u64 : Int → Prop
 zig : Int → Int
 r64 : Int → Prop
 rd : List (List PD) → Int → Int → Prop
 num : List (List PD) → Int → Int → Int × Int × Int
 cnt : List (List PD) → Int → Int → Int → Int × Int × Int
 text : List (List PD) → Int → Int → Int → ByteArray × Int × Int
 flag : List (List PD) → Int → Int → Bool × Int × Int
 fin : List (List PD) → Int → Int → Int
 fail : Int → Int
 err : Int → Int → Int
end Go.Proofs.Ytadnpgkddgbhkaa
namespace Go.Proofs.Ytadnpgkddgbhkaa
open Go.RowKit
set_option linter.all false
set_option maxHeartbeats 8000000
theorem told_stR {k : Nat} {s s' : SL} {st st' : Store} (h : st = st') (hs : toldP id s s') : Told k s st s' st' := by subst h; exact told_less hs
theorem or1 (w : Nat) (h : w * 2 + 1 < 18446744073709551616) : bitsV .u64 (· ||| ·) ((w * 2 : Nat) : Int) 1 = ((w * 2 + 1 : Nat) : Int) := by
 have := or_add 1 w 1 (by decide) (by omega)
 show IntKind.wrap .u64 ((BitVec.ofInt 64 ((w * 2 : Nat) : Int) ||| BitVec.ofInt 64 1).toNat : Int) = _
 rw [BitVec.or_comm]
 have e : ((w * 2 + 1 : Nat) : Int) = ((1 + w * 2 ^ 1 : Nat) : Int) := by omega
 rw [e, ← this]
 rfl
theorem zig2_neg (n : Int) (h : r64 n) (hn : n < 0) : bitsV .u64 (· ||| ·) (IntKind.wrap .u64 (IntKind.wrap .u64 (bitsV .i64 (· ^^^ ·) (-1) n) * 2 ^ min (Int.toNat 1) (IntKind.bits .u64))) 1 = zig n := by
 unfold r64 at h
 rw [(xor_i64 n h).2.2]
 obtain ⟨w, hw⟩ : ∃ w : Nat, -n - 1 = w := ⟨(-n - 1).toNat, by omega⟩
 rw [hw, wrap64_of (a := (w : Int)) (by omega) (by omega)]
 have e1 : (w : Int) * 2 ^ min (Int.toNat 1) (IntKind.bits .u64) = ((w * 2 : Nat) : Int) := by
  rw [show (2 : Int) ^ min (Int.toNat 1) (IntKind.bits .u64) = 2 by decide]; omega
 rw [e1, wrap64_of (by omega) (by omega), or1 w (by omega)]
 unfold zig
 rw [if_pos hn]
 omega
theorem zig2_pos (n : Int) (h : r64 n) (hn : ¬ n < 0) : IntKind.wrap .u64 (IntKind.wrap .u64 n * 2 ^ min (Int.toNat 1) (IntKind.bits .u64)) = zig n := by
 unfold r64 at h
 rw [wrap64_of (a := n) (by omega) (by omega), show (2 : Int) ^ min (Int.toNat 1) (IntKind.bits .u64) = 2 by decide, wrap64_of (by omega) (by omega)]
 unfold zig
 rw [if_neg hn]
 omega
theorem and127n (u : Nat) : IntKind.wrap .u8 (bitsV .u64 (· &&& ·) (u : Int) 127) = ((u % 128 : Nat) : Int) := by
 have e : bitsV .u64 (· &&& ·) (u : Int) 127 = ((u % 18446744073709551616 % 128 : Nat) : Int) := by
  show IntKind.wrap .u64 ((BitVec.ofInt 64 (u : Int) &&& BitVec.ofInt 64 127).toNat : Int) = _
  rw [ofInt_nat, show (BitVec.ofInt 64 127 : BitVec 64) = BitVec.ofNat 64 127 from rfl, BitVec.toNat_and, BitVec.toNat_ofNat, BitVec.toNat_ofNat]
  have := Nat.and_two_pow_sub_one_eq_mod (u % 2 ^ 64) 7
  rw [show (127 % 2 ^ 64 : Nat) = 2 ^ 7 - 1 by decide, this, wrap64_of (by omega) (by omega)]
 rw [e]
 have : u % 18446744073709551616 % 128 = u % 128 := by omega
 rw [this]
 simp [IntKind.wrap, IntKind.bits, IntKind.signed]
 try omega
theorem or128n (u : Nat) : bitsV .u8 (· ||| ·) ((u % 128 : Nat) : Int) 128 = (((UInt8.ofNat (u % 128 + 128)).toNat : Nat) : Int) := by
 have := or128f ⟨u % 128, by omega⟩
 simp only at this
 rw [this, show u % 128 % 128 = u % 128 by omega]
structure FsW where
 zig2 : Int → Int
 rnum : List (List PD) → Int → List (List PD)
 rtext : List (List PD) → ByteArray → List (List PD)
 rflag : List (List PD) → Bool → List (List PD)
 pflag : List (List PD) → Bool → List (List PD)
 isB : List (List PD) → Prop
 r64 : Int → Prop
 sz : ByteArray → Prop
noncomputable def FsW0 : FsW where
 zig2 := zig
 rnum := numX
 rtext := textX
 rflag := flagX
 pflag := flagX
 isB := isB
 r64 := r64
 sz := szT
set_option maxRecDepth 100000 in
theorem v_zig2 (n : Int) (hp0 : FsW0.r64 n) : FnV Try.prog 88 [intD n] (.d (.sc (.int .u64 ((zig n))))) := by
 refine FnD_cbv (T := fun _ => tabY [] []) (H := fun _ => []) (tabY_ok _ _) noK_ok follows_mixed Try.func88 rfl Try.ntmps88 (by simp) fun A X W hA hX hW => ?_
 cbv
 repeat' first
  | (refine part (fun h => ?_) (fun h => ?_) <;> try cbv)
  | (refine And.intro ?_ ?_)
 all_goals subst hA hX hW
 all_goals try (show Region.lexB _ _ = true; kernel_rfl)
 all_goals try (show turnsB _ = true; kernel_rfl)
 all_goals simp only [A0, FsW0, decide_eq_true_eq, decide_eq_false_iff_not, Bool.not_eq_true', Bool.not_eq_false'] at *
 all_goals try (first | decide | done)
 ·refine ret_v ?_ rfl
  rw [show (if IntKind.i64.signed = true then (-1 : Int) else IntKind.i64.max) = -1 from rfl, zig2_neg n hp0 h]
 ·refine ret_v ?_ rfl
  rw [zig2_pos n hp0 h]
def kn_zig2 (F : FsW) : FuncId × (List DV → RV) := (88, fun args => match args with
 | [.d (.sc (.int .i64 n))] => some ([F.r64 n], .d (.sc (.int .u64 ((F.zig2 n)))))
 | _ => none)
theorem ok_zig2 (args : List DV) (cs : List Prop) (r : DV) (h : (kn_zig2 FsW0).2 args = some (cs, r)) (hc : allP cs True) : FnV Try.prog 88 args r ∧ closedL 0 args = true := by
 unfold kn_zig2 at h
 simp only at h
 split at h
 ·cases h; exact ⟨v_zig2 _ hc.1, rfl⟩
 ·cases h
set_option maxRecDepth 100000 in
theorem w_rnum (bs : List UInt8) (xs : List (List PD)) (n : Int) (hxs : xs = bytesP bs) (hb : bs.length ≤ 8000000) (hp1 : r64 n) : FnD Try.prog 78 [.d (.slc 1 xs), intD n] [] (fun r st' => ∃ v cs m, cs = rowsD (bytesP (bs ++ numB n)) ∧ m = (bs ++ numB n).length ∧ r = .view 1 0 v 0 m ∧ st' = [⟨5, cs, true, v, true⟩]) := by
 obtain ⟨GFsW, hFsW⟩ : ∃ F, F = FsW0 := ⟨_, rfl⟩
 have hH : SoundK Try.prog [kn_zig2 GFsW] := by subst hFsW; exact orK_ok ok_zig2 noK_ok
 have hB : SoundB Try.prog [] := by subst hFsW; exact noB_ok
 refine FnD_cbv (T := fun _ => tabY [] []) (H := fun _ => [kn_zig2 GFsW]) (tabY_ok _ _) hH follows_mixed Try.func78 rfl Try.ntmps78 (by simp) fun A X W hA hX hW => ?_
 cbv
 have hz := zig_range hp1
 have hz2 : ((zig n).toNat : Int) = zig n := Int.toNat_of_nonneg hz.1
 have hl : xs.length = bs.length := by rw [hxs]; exact bytesP_length bs
 refine And.intro ?_ (And.intro ?_ (And.intro ?_ (And.intro ?_ ?_)))
 ·subst hA; simp only [A0]
 ·subst hA; simp only [A0]; rfl
 ·subst hA; simp only [A0]; omega
 ·subst hFsW; exact hp1
 refine loopL (T := fun _ => tabY [] []) (H := fun _ => [kn_zig2 GFsW]) (tabY_ok _ _) hH follows_mixed hA hX (fun x : List DV × Int × Nat × Nat => ∃ (bs1 : List UInt8) (f u : Nat), x.1 = rowsD (bytesP bs1) ∧ x.2.1 = u ∧ x.2.2.2 = bs1.length ∧ bs1 ++ numF (f + 1) u = bs ++ numB n ∧ u < 128 ^ (f + 1) ∧ u < 18446744073709551616 ∧ f + bs1.length ≤ 8388620)
  (fun x => [(5, .view 1 0 x.2.2.1 0 x.2.2.2), (6, .d (.sc (.int .u64 x.2.1)))]) (fun x => [⟨5, x.1, true, x.2.2.1, true⟩])
  (fun x => x.2.1.toNat) (rowsD (bytesP bs), zig n, 1, bs.length) ?_ ?_ ?_
 ·refine ⟨bs, 9, (zig n).toNat, rfl, hz2.symm, rfl, rfl, ?_, ?_, ?_⟩
  all_goals omega
 ·subst hA hFsW
  refine told_stR ?_ ?_
  ·simp [A0, hxs]
  ·simp [toldP, getS, A0, FsW0, hl]
 rintro R ⟨cells, u, v, len⟩ hR ⟨bs1, f, u1, h1, h2, h3, e1, e2, e3, e4⟩
 replace h1 : cells = rowsD (bytesP bs1) := h1
 replace h3 : len = bs1.length := h3
 cbv
 repeat' first
  | (refine part (fun h => ?_) (fun h => ?_) <;> try cbv)
  | (refine And.intro ?_ ?_)
  | (with_reducible refine callB hX hB ?_) <;> cbv
 all_goals subst hR hA hX hW hFsW
 all_goals clear hH hB
 all_goals simp only [A0, FsW0, decide_eq_true_eq, decide_eq_false_iff_not] at *
 all_goals replace h2 : u = (u1 : Int) := h2
 all_goals subst h2
 all_goals first
  | rfl
  | decide
  | omega
  | (rw [h1, rowsB_length, h3, Nat.mul_one]; done)
  | (simp; done)
  | (have hf : (u1 : Int).fdiv (2 ^ min (Int.toNat 7) (IntKind.bits .u64)) = ((u1 / 128 : Nat) : Int) := fdiv128 u1
     obtain ⟨f1, rfl⟩ : ∃ f1, f = f1 + 1 := by
      cases f with
      | zero => omega
      | succ f1 => exact ⟨f1, rfl⟩
     have hu : u1 / 128 < 128 ^ (f1 + 1) := by
      rw [Nat.pow_succ] at e2
      exact Nat.div_lt_of_lt_mul (by rw [Nat.mul_comm]; exact e2)
     refine ⟨(cells ++ [.d (.sc (.int .u8 ((UInt8.ofNat (u1 % 128 + 128)).toNat : Int)))], ((u1 / 128 : Nat) : Int), v + 1, len + 1), ⟨bs1 ++ [UInt8.ofNat (u1 % 128 + 128)], f1, u1 / 128, ?_, rfl, ?_, ?_, hu, ?_, ?_⟩, ?_, told_keep [0] rfl ?_ ?_⟩
     ·simp only [rowsB_append, rowsB_one, h1]
     ·simp [h3]
     ·rw [← e1, numF_step (f1 + 1) u1 (by omega)]
      simp only [List.append_assoc, List.singleton_append]
     ·omega
     ·simp only [List.length_append, List.length_singleton]; omega
     ·simp only; omega
     ·simp only [and127n, or128n]
      simp [keepSt, pullBox, pullL_eq, h1, pull_rows, pullD]
     ·rw [hf]
      simp [toldP, getS, pullD])
  | (have hb2 : numF (f + 1) u1 = [UInt8.ofNat u1] := numF_last f u1 (by omega)
     rw [hb2] at e1
     refine ret_keep [0] rfl ⟨v + 1, _, _, rfl, rfl, ?_, ?_⟩
     ·simp [pullD, ← e1, h3]
     ·rw [← e1, rowsB_append, rowsB_one, ← h1, low8 u1 (by omega)]
      simp [keepSt, pullBox, pullL_eq, h1, pull_rows, pullD])
theorem v_rnum (xs : List (List PD)) (n : Int) (hp0 : isB xs) (hp1 : r64 n) : FnV Try.prog 78 [.d (.slc 1 xs), intD n] (.d (.slc 1 (numX xs n))) := by
 obtain ⟨bs, hxs, hb⟩ := hp0
 refine FnD.ret ((w_rnum bs xs n hxs hb hp1).mono ?_)
 rintro r st ⟨v, cs, m, hcs, hm, rfl, rfl⟩
 exact ret_bytes rfl hm hcs (by simp [numX, hxs, bytesP_append])
def kn_rnum (F : FsW) : FuncId × (List DV → RV) := (78, fun args => match args with
 | [.d (.slc 1 xs), .d (.sc (.int .i64 n))] => some ([F.isB xs, F.r64 n], .d (.slc 1 (F.rnum xs n)))
 | [.d (.sc (.slice none 0 0)), .d (.sc (.int .i64 n))] => some ([F.isB [], F.r64 n], .d (.slc 1 (F.rnum [] n)))
 | _ => none)
theorem ok_rnum (args : List DV) (cs : List Prop) (r : DV) (h : (kn_rnum FsW0).2 args = some (cs, r)) (hc : allP cs True) : FnV Try.prog 78 args r ∧ closedL 0 args = true := by
 unfold kn_rnum at h
 simp only at h
 split at h
 ·cases h; exact ⟨v_rnum _ _ hc.1 hc.2.1, rfl⟩
 ·cases h; exact ⟨FnP.nils (v_rnum [] _ hc.1 hc.2.1) ⟨.inr ⟨rfl, _, rfl⟩, ⟨.inl rfl, trivial⟩⟩, rfl⟩
 ·cases h
set_option maxRecDepth 100000 in
theorem v_rtext (xs : List (List PD)) (s : ByteArray) (hp0 : isB xs) (hp1 : szT s) : FnV Try.prog 79 [.d (.slc 1 xs), strD s] (.d (.slc 1 (textX xs s))) := by
 have hs : s.size ≤ 4194304 := hp1
 obtain ⟨bs, hxs, hb⟩ := hp0
 have hH : SoundK Try.prog [] := by exact noK_ok
 have hB : SoundB Try.prog [] := by exact noB_ok
 refine FnD_cbv (T := fun _ => tabY [] []) (H := fun _ => []) (tabY_ok _ _) hH follows_mixed Try.func79 rfl Try.ntmps79 (by simp) fun A X W hA hX hW => ?_
 cbv
 refine callL hX ((w_rnum bs xs _ hxs hb ?_).mono ?_)
 ·subst hA
  show r64 (s.size : Int)
  unfold r64; omega
 rintro r st ⟨v, cs2, m2, hcs2, hm2, rfl, rfl⟩
 cbv
 have hn := numB_length (s.size : Int)
 subst hA hX hW
 replace hcs2 : cs2 = rowsD (bytesP (bs ++ numB (s.size : Int))) := hcs2
 replace hm2 : m2 = (bs ++ numB (s.size : Int)).length := hm2
 have hsz : s.data.toList.length = s.size := by rw [Array.length_toList]; rfl
 refine And.intro rfl (And.intro ?_ (And.intro ?_ ?_))
 ·simp only [A0]
  rw [hcs2, rowsB_length, hm2, Nat.mul_one]
 ·simp only [A0]
  rw [hm2, List.length_append]
  omega
 ·refine ret_bytes (bs := bs ++ textB s) rfl ?_ ?_ (by simp [textX, hxs, bytesP_append])
  ·simp only [A0, hm2, textB, List.length_append, hsz]
   omega
  ·simp only [A0, hcs2, textB]
   rw [← List.append_assoc, rowsB_append (bs ++ numB s.size)]
def kn_rtext (F : FsW) : FuncId × (List DV → RV) := (79, fun args => match args with
 | [.d (.slc 1 xs), .d (.sc (.string s))] => some ([F.isB xs, F.sz s], .d (.slc 1 (F.rtext xs s)))
 | [.d (.sc (.slice none 0 0)), .d (.sc (.string s))] => some ([F.isB [], F.sz s], .d (.slc 1 (F.rtext [] s)))
 | _ => none)
theorem ok_rtext (args : List DV) (cs : List Prop) (r : DV) (h : (kn_rtext FsW0).2 args = some (cs, r)) (hc : allP cs True) : FnV Try.prog 79 args r ∧ closedL 0 args = true := by
 unfold kn_rtext at h
 simp only at h
 split at h
 ·cases h; exact ⟨v_rtext _ _ hc.1 hc.2.1, rfl⟩
 ·cases h; exact ⟨FnP.nils (v_rtext [] _ hc.1 hc.2.1) ⟨.inr ⟨rfl, _, rfl⟩, ⟨.inl rfl, trivial⟩⟩, rfl⟩
 ·cases h
set_option maxRecDepth 100000 in
theorem v_pflag (xs : List (List PD)) (b : Bool) (hp0 : isB xs) : FnV Try.prog 74 [.d (.slc 1 xs), boolD b] (.d (.slc 1 (flagX xs b))) := by
 obtain ⟨bs, hxs, hb⟩ := hp0
 cases b
 ·have hH : SoundK Try.prog [] := by exact noK_ok
  have hB : SoundB Try.prog [] := by exact noB_ok
  refine FnD_cbv (T := fun _ => tabY [] []) (H := fun _ => []) (tabY_ok _ _) hH follows_mixed Try.func74 rfl Try.ntmps74 (by simp) fun A X W hA hX hW => ?_
  cbv
  refine callL hX ((w_grown bs xs _ hxs (by decide) (by decide) (by omega)).mono ?_)
  rintro r st ⟨cs, m, hcs, hm, rfl, rfl⟩
  cbv
  repeat' first
   | (refine And.intro ?_ ?_)
  all_goals subst hA hX hW
  all_goals clear hH hB
  all_goals simp only [A0] at *
  all_goals first
   | rfl
   | omega
   | (simp; done)
   | (simp; omega)
   | (rw [hxs, rowsB_length, bytesP_length]; simp; done)
   | (simp [hxs, rowsB_length, bytesP_length]; done)
   | (simp [hcs, rowsB_length, hm]; done)
   | (simp [hcs, rowsB_length, hm]; omega)
   | (refine ret_bytes (bs := bs ++ [1]) rfl ?_ ?_ (by simp [flagX, hxs, bytesP_append]) <;> simp [hxs, bytesP_length, rowsB_append, rowsB_one]; done)
   | (refine ret_bytes (bs := bs ++ [0]) rfl ?_ ?_ (by simp [flagX, hxs, bytesP_append]) <;> simp [hxs, bytesP_length, rowsB_append, rowsB_one]; done)
   | (refine ret_bytes (bs := bs ++ [1]) rfl ?_ ?_ (by simp [flagX, hxs, bytesP_append]) <;> simp [hcs, hm, rowsB_append, rowsB_one]; done)
   | (refine ret_bytes (bs := bs ++ [0]) rfl ?_ ?_ (by simp [flagX, hxs, bytesP_append]) <;> simp [hcs, hm, rowsB_append, rowsB_one]; done)
 ·have hH : SoundK Try.prog [] := by exact noK_ok
  have hB : SoundB Try.prog [] := by exact noB_ok
  refine FnD_cbv (T := fun _ => tabY [] []) (H := fun _ => []) (tabY_ok _ _) hH follows_mixed Try.func74 rfl Try.ntmps74 (by simp) fun A X W hA hX hW => ?_
  cbv
  refine callL hX ((w_grown bs xs _ hxs (by decide) (by decide) (by omega)).mono ?_)
  rintro r st ⟨cs, m, hcs, hm, rfl, rfl⟩
  cbv
  repeat' first
   | (refine And.intro ?_ ?_)
  all_goals subst hA hX hW
  all_goals clear hH hB
  all_goals simp only [A0] at *
  all_goals first
   | rfl
   | omega
   | (simp; done)
   | (simp; omega)
   | (rw [hxs, rowsB_length, bytesP_length]; simp; done)
   | (simp [hxs, rowsB_length, bytesP_length]; done)
   | (simp [hcs, rowsB_length, hm]; done)
   | (simp [hcs, rowsB_length, hm]; omega)
   | (refine ret_bytes (bs := bs ++ [1]) rfl ?_ ?_ (by simp [flagX, hxs, bytesP_append]) <;> simp [hxs, bytesP_length, rowsB_append, rowsB_one]; done)
   | (refine ret_bytes (bs := bs ++ [0]) rfl ?_ ?_ (by simp [flagX, hxs, bytesP_append]) <;> simp [hxs, bytesP_length, rowsB_append, rowsB_one]; done)
   | (refine ret_bytes (bs := bs ++ [1]) rfl ?_ ?_ (by simp [flagX, hxs, bytesP_append]) <;> simp [hcs, hm, rowsB_append, rowsB_one]; done)
   | (refine ret_bytes (bs := bs ++ [0]) rfl ?_ ?_ (by simp [flagX, hxs, bytesP_append]) <;> simp [hcs, hm, rowsB_append, rowsB_one]; done)
def kn_pflag (F : FsW) : FuncId × (List DV → RV) := (74, fun args => match args with
 | [.d (.slc 1 xs), .d (.sc (.bool b))] => some ([F.isB xs], .d (.slc 1 (F.pflag xs b)))
 | [.d (.sc (.slice none 0 0)), .d (.sc (.bool b))] => some ([F.isB []], .d (.slc 1 (F.pflag [] b)))
 | _ => none)
theorem ok_pflag (args : List DV) (cs : List Prop) (r : DV) (h : (kn_pflag FsW0).2 args = some (cs, r)) (hc : allP cs True) : FnV Try.prog 74 args r ∧ closedL 0 args = true := by
 unfold kn_pflag at h
 simp only at h
 split at h
 ·cases h; exact ⟨v_pflag _ _ hc.1, rfl⟩
 ·cases h; exact ⟨FnP.nils (v_pflag [] _ hc.1) ⟨.inr ⟨rfl, _, rfl⟩, ⟨.inl rfl, trivial⟩⟩, rfl⟩
 ·cases h
set_option maxRecDepth 100000 in
theorem v_rflag (xs : List (List PD)) (b : Bool) (hp0 : isB xs) : FnV Try.prog 80 [.d (.slc 1 xs), boolD b] (.d (.slc 1 (flagX xs b))) := by
 obtain ⟨bs, hxs, hb⟩ := hp0
 have hl : xs.length = bs.length := by rw [hxs]; exact bytesP_length bs
 cases b
 ·have hH : SoundK Try.prog [] := by exact noK_ok
  have hB : SoundB Try.prog [] := by exact noB_ok
  refine FnD_cbv (T := fun _ => tabY [] []) (H := fun _ => []) (tabY_ok _ _) hH follows_mixed Try.func80 rfl Try.ntmps80 (by simp) fun A X W hA hX hW => ?_
  cbv
  repeat' first
   | (refine part (fun h => ?_) (fun h => ?_) <;> try cbv)
   | (refine And.intro ?_ ?_)
  all_goals subst hA hX hW
  all_goals clear hH hB
  all_goals simp only [A0] at *
  all_goals first
   | rfl
   | omega
   | (simp; done)
   | (simp; omega)
   | (rw [hxs, rowsB_length, bytesP_length]; simp; done)
   | (simp [hxs, rowsB_length, bytesP_length]; done)
   | (simp [hcs, rowsB_length, hm]; done)
   | (simp [hcs, rowsB_length, hm]; omega)
   | (refine ret_bytes (bs := bs ++ [1]) rfl ?_ ?_ (by simp [flagX, hxs, bytesP_append]) <;> simp [hxs, bytesP_length, rowsB_append, rowsB_one]; done)
   | (refine ret_bytes (bs := bs ++ [0]) rfl ?_ ?_ (by simp [flagX, hxs, bytesP_append]) <;> simp [hxs, bytesP_length, rowsB_append, rowsB_one]; done)
   | (refine ret_bytes (bs := bs ++ [1]) rfl ?_ ?_ (by simp [flagX, hxs, bytesP_append]) <;> simp [hcs, hm, rowsB_append, rowsB_one]; done)
   | (refine ret_bytes (bs := bs ++ [0]) rfl ?_ ?_ (by simp [flagX, hxs, bytesP_append]) <;> simp [hcs, hm, rowsB_append, rowsB_one]; done)
 ·have hH : SoundK Try.prog [] := by exact noK_ok
  have hB : SoundB Try.prog [] := by exact noB_ok
  refine FnD_cbv (T := fun _ => tabY [] []) (H := fun _ => []) (tabY_ok _ _) hH follows_mixed Try.func80 rfl Try.ntmps80 (by simp) fun A X W hA hX hW => ?_
  cbv
  repeat' first
   | (refine part (fun h => ?_) (fun h => ?_) <;> try cbv)
   | (refine And.intro ?_ ?_)
  all_goals subst hA hX hW
  all_goals clear hH hB
  all_goals simp only [A0] at *
  all_goals first
   | rfl
   | omega
   | (simp; done)
   | (simp; omega)
   | (rw [hxs, rowsB_length, bytesP_length]; simp; done)
   | (simp [hxs, rowsB_length, bytesP_length]; done)
   | (simp [hcs, rowsB_length, hm]; done)
   | (simp [hcs, rowsB_length, hm]; omega)
   | (refine ret_bytes (bs := bs ++ [1]) rfl ?_ ?_ (by simp [flagX, hxs, bytesP_append]) <;> simp [hxs, bytesP_length, rowsB_append, rowsB_one]; done)
   | (refine ret_bytes (bs := bs ++ [0]) rfl ?_ ?_ (by simp [flagX, hxs, bytesP_append]) <;> simp [hxs, bytesP_length, rowsB_append, rowsB_one]; done)
   | (refine ret_bytes (bs := bs ++ [1]) rfl ?_ ?_ (by simp [flagX, hxs, bytesP_append]) <;> simp [hcs, hm, rowsB_append, rowsB_one]; done)
   | (refine ret_bytes (bs := bs ++ [0]) rfl ?_ ?_ (by simp [flagX, hxs, bytesP_append]) <;> simp [hcs, hm, rowsB_append, rowsB_one]; done)
def kn_rflag (F : FsW) : FuncId × (List DV → RV) := (80, fun args => match args with
 | [.d (.slc 1 xs), .d (.sc (.bool b))] => some ([F.isB xs], .d (.slc 1 (F.rflag xs b)))
 | [.d (.sc (.slice none 0 0)), .d (.sc (.bool b))] => some ([F.isB []], .d (.slc 1 (F.rflag [] b)))
 | _ => none)
theorem ok_rflag (args : List DV) (cs : List Prop) (r : DV) (h : (kn_rflag FsW0).2 args = some (cs, r)) (hc : allP cs True) : FnV Try.prog 80 args r ∧ closedL 0 args = true := by
 unfold kn_rflag at h
 simp only at h
 split at h
 ·cases h; exact ⟨v_rflag _ _ hc.1, rfl⟩
 ·cases h; exact ⟨FnP.nils (v_rflag [] _ hc.1) ⟨.inr ⟨rfl, _, rfl⟩, ⟨.inl rfl, trivial⟩⟩, rfl⟩
 ·cases h
end Go.Proofs.Ytadnpgkddgbhkaa
namespace Go.Proofs.Ytadnpgkddgbhkaa
open Go.RowKit
set_option linter.all false
set_option maxHeartbeats 4000000
def prB1 (p : Pair) : List UInt8 := textB p.key ++ textB p.value ++ numB p.version
def prB (ps : List Pair) : List UInt8 := numB ps.length ++ (ps.map prB1).flatten
def prX (xs l : List (List PD)) : List (List PD) := xs ++ bytesP (prB (pairsOf l))
def isPs (l : List (List PD)) : Prop := ∃ ps, l = pairsX ps ∧ ps.length ≤ 32 ∧ ∀ p ∈ ps, p.key.size ≤ 16 ∧ p.value.size ≤ 64 ∧ r64 p.version
def isBs (xs : List (List PD)) : Prop := ∃ bs, xs = bytesP bs ∧ bs.length ≤ 1000000
theorem textB_length (s : ByteArray) : (textB s).length ≤ 10 + s.size := by
 have := numB_length s.size
 have e : s.data.toList.length = s.size := rfl
 simp only [textB, List.length_append, e]
 omega
theorem prB1_length {p : Pair} (h1 : p.key.size ≤ 16) (h2 : p.value.size ≤ 64) : (prB1 p).length ≤ 110 := by
 have a := textB_length p.key
 have b := textB_length p.value
 have c := numB_length p.version
 simp only [prB1, List.length_append]
 omega
theorem prB1s_length : ∀ {ps : List Pair}, (∀ p ∈ ps, p.key.size ≤ 16 ∧ p.value.size ≤ 64 ∧ r64 p.version) → ((ps.map prB1).flatten).length ≤ 110 * ps.length
 | [], _ => by simp
 | p :: ps, h => by
     have h1 := prB1_length (h p (by simp)).1 (h p (by simp)).2.1
     have h2 := prB1s_length (ps := ps) fun q hq => h q (by simp [hq])
     simp only [List.map_cons, List.flatten_cons, List.length_append, List.length_cons]
     omega
theorem prB_length {ps : List Pair} (h : ps.length ≤ 32) (h2 : ∀ p ∈ ps, p.key.size ≤ 16 ∧ p.value.size ≤ 64 ∧ r64 p.version) : (prB ps).length ≤ 4000 := by
 have a := prB1s_length h2
 have c := numB_length ps.length
 simp only [prB, List.length_append]
 omega
theorem take_pr {ps : List Pair} {i : Nat} (h : i < ps.length) : ((ps.take (i + 1)).map prB1).flatten = ((ps.take i).map prB1).flatten ++ prB1 (ps[i]'h) := by
 rw [List.take_succ_eq_append_getElem h, List.map_append, List.flatten_append]
 simp only [List.map_cons, List.map_nil, List.flatten_cons, List.flatten_nil, List.append_nil]
def isLn (k : Nat) (xs : List (List PD)) : Prop := ∃ bs, xs = bytesP bs ∧ bs.length ≤ k
theorem isLn.le {k : Nat} {xs : List (List PD)} (h : isLn k xs) (hk : k ≤ 8000000) : isB xs := by
 obtain ⟨bs, h1, h2⟩ := h
 exact ⟨bs, h1, by omega⟩
theorem isLn.num {k : Nat} {xs : List (List PD)} (h : isLn k xs) (n : Int) : isLn (k + 10) (numX xs n) := by
 obtain ⟨bs, rfl, h2⟩ := h
 have := numB_length n
 exact ⟨bs ++ numB n, by simp only [numX, bytesP_append], by rw [List.length_append]; omega⟩
theorem isLn.text {k : Nat} {xs : List (List PD)} (h : isLn k xs) {s : ByteArray} (hs : s.size ≤ 64) : isLn (k + 74) (textX xs s) := by
 obtain ⟨bs, rfl, h2⟩ := h
 have := textB_length s
 exact ⟨bs ++ textB s, by simp only [textX, bytesP_append], by rw [List.length_append]; omega⟩
def prK (b0 : List (List PD)) (ps : List Pair) (i : Nat) : List (List PD) := b0 ++ bytesP (((ps.take i).map prB1).flatten)
theorem prK_zero (b0 : List (List PD)) (ps : List Pair) : prK b0 ps 0 = b0 := by simp [prK, bytesP]
theorem prK_succ (b0 : List (List PD)) {ps : List Pair} {i : Nat} (h : i < ps.length) : prK b0 ps (i + 1) = numX (textX (textX (prK b0 ps i) (ps[i]'h).key) (ps[i]'h).value) (ps[i]'h).version := by
 simp only [prK, take_pr h, numX, textX, prB1, bytesP_append, List.append_assoc]
theorem prK_end (b0 : List (List PD)) (ps : List Pair) : prK b0 ps ps.length = b0 ++ bytesP ((ps.map prB1).flatten) := by
 simp [prK]
theorem prK_ln {k : Nat} {b0 : List (List PD)} (h : isLn k b0) {ps : List Pair} (hl : ps.length ≤ 32) (hps : ∀ p ∈ ps, p.key.size ≤ 16 ∧ p.value.size ≤ 64 ∧ r64 p.version) (i : Nat) : isLn (k + 3520) (prK b0 ps i) := by
 obtain ⟨bs, rfl, h2⟩ := h
 have h3 : ((((ps.take i).map prB1).flatten)).length ≤ 110 * (ps.take i).length := prB1s_length fun p hp => hps p (List.mem_of_mem_take hp)
 have h4 : (ps.take i).length ≤ ps.length := by rw [List.length_take]; omega
 exact ⟨bs ++ ((ps.take i).map prB1).flatten, by simp only [prK, bytesP_append], by rw [List.length_append]; omega⟩
structure FsFb where
 prs : List (List PD) → List (List PD) → List (List PD)
 prsR : List (List PD) → List (List PD) → List (List PD)
 isPs : List (List PD) → Prop
 isBs : List (List PD) → Prop
noncomputable def FsFb0 : FsFb where
 prs := prX
 prsR := prX
 isPs := isPs
 isBs := isBs
set_option maxRecDepth 100000 in
theorem v_prs (xs : List (List PD)) (l : List (List PD)) (hp0 : FsFb0.isBs xs) (hp1 : FsFb0.isPs l) : FnV Try.prog 72 [.d (.slc 1 xs), .d (.slc 3 l)] (.d (.slc 1 (prX xs l))) := by
 obtain ⟨bs, hxs, hbl⟩ := hp0
 obtain ⟨ps, hls, hpl, hps⟩ := hp1
 have hll : l.length = ps.length := by rw [hls]; exact pairsX_length ps
 obtain ⟨n, hn⟩ : ∃ n : Int, n = ps.length := ⟨_, rfl⟩
 have hn32 : 0 ≤ n ∧ n ≤ 32 := by omega
 obtain ⟨b0, hb0⟩ : ∃ b0, b0 = numX xs (l.length : Int) := ⟨_, rfl⟩
 have hb0l : isLn 1000010 b0 := by rw [hb0]; exact isLn.num ⟨bs, hxs, hbl⟩ _
 have hfin : prX xs l = prK b0 ps ps.length := by
  rw [prK_end, hb0, hll, hls]
  simp only [prX, pairsOf_X, prB, numX, bytesP_append, List.append_assoc]
 obtain ⟨GFsPq, hGFsPq⟩ : ∃ F, F = FsPq0 := ⟨_, rfl⟩
 have hH : SoundK Try.prog [kn_num GFsPq, kn_text GFsPq] := by subst hGFsPq; exact orK_ok ok_num (orK_ok ok_text noK_ok)
 refine FnD_cbv (T := fun _ => tabY [15] []) (H := fun _ => [kn_num GFsPq, kn_text GFsPq]) (tabY_ok _ _) hH follows_mixed Try.func72 rfl Try.ntmps72 (by simp) fun A X W hA hX hW => ?_
 cbv
 have e0 : GFsPq.num xs n = b0 := by rw [hn, ← hll]; subst hGFsPq; exact hb0.symm
 have e1 : A.len l = n := by subst hA; exact (congrArg (Nat.cast (R := Int)) hll).trans hn.symm
 cbv at e0 e1
 rw [hfin] at *
 simp only [e1, e0]
 refine And.intro (by subst hGFsPq; exact ⟨bs, hxs, by omega⟩) (And.intro (by subst hGFsPq; show r64 n; unfold r64; omega) ?_)
 refine loopL (T := fun _ => tabY [15] []) (H := fun _ => [kn_num GFsPq, kn_text GFsPq]) (tabY_ok _ _) hH follows_mixed hA hX (fun x : Int × List (List PD) => 0 ≤ x.1 ∧ x.1 ≤ ps.length ∧ x.2 = prK b0 ps x.1.toNat)
  (fun x => [(0, .d (.slc 1 x.2)), (11, .d (.slc 3 l)), (12, .d (.sc (.int .i64 n))), (13, .d (.sc (.int .i64 x.1)))]) (fun _ => [])
  (fun x => (ps.length : Int).toNat - x.1.toNat) (0, b0) ?_ ?_ ?_
 ·exact ⟨by omega, by omega, (prK_zero b0 ps).symm⟩
 ·exact told_less (by simp [toldP, getS])
 rintro R ⟨i, r⟩ hR ⟨i0, i1, i2⟩
 cbv
 try simp only [e1]
 repeat' first
  | (refine part (fun h => ?_) (fun h => ?_) <;> try cbv)
  | (refine And.intro ?_ ?_)
 all_goals subst hA hX hW hR hGFsPq
 all_goals simp only [A0, nc, decide_eq_true_eq, decide_eq_false_iff_not, Bool.not_eq_true', Bool.not_eq_false'] at *
 all_goals replace i1 : i ≤ (ps.length : Int) := i1
 all_goals have ei : IntKind.wrap .i64 (i + 1) = i + 1 := wrap_i64 (by unfold r64; omega)
 all_goals have hr := prK_ln hb0l hpl hps i.toNat
 all_goals rw [← i2] at hr
 all_goals try
  have hi : i < ps.length := by omega
  have hj : i.toNat < ps.length := by omega
  have hrx := prow hls i0 hi
  have hpp := hps _ (List.getElem_mem hj)
  have hsu := prK_succ b0 hj
  generalize ps[i.toNat]'(by omega) = p at hrx hpp hsu
  obtain ⟨hk, hv, hve⟩ := hpp
  rw [← i2] at hsu
  simp only [hrx, Pair.row, List.drop_zero, List.drop_succ_cons, List.map_cons, List.map_nil, Nat.zero_add, List.getElem?_cons_zero, List.getElem?_cons_succ] at *
 all_goals first
  | rfl
  | (show Region.lexB _ _ = true; kernel_rfl)
  | (show turnsB _ = true; kernel_rfl)
  | (refine ⟨by omega, by omega⟩; done)
  | omega
  | exact hve
  | (show szT _; unfold szT; omega)
  | exact hr.le (by omega)
  | exact (hr.text (s := p.key) (by omega)).le (by omega)
  | exact ((hr.text (s := p.key) (by omega)).text hv).le (by omega)
  | (refine ⟨(i + 1, prK b0 ps (i.toNat + 1)), ⟨by simp only; omega, by simp only; omega, by simp only; rw [show (i + 1).toNat = i.toNat + 1 by omega]⟩, by simp only [Int.toNat_natCast]; omega, told_less ?_⟩
     rw [hsu]
     simp [toldP, getS, ei]
     try rfl
     done)
  | (simp; done)
  | (refine ret_v ?_ rfl
     have hil : i.toNat = ps.length := by omega
     rw [i2, hil])
  | (refine ⟨(i + 1, prK b0 ps (i.toNat + 1)), ⟨by simp only; omega, by simp only; omega, by simp only; rw [show (i + 1).toNat = i.toNat + 1 by omega]⟩, by simp only [Int.toNat_natCast]; omega, told_keep [] rfl rfl ?_⟩
     rw [hsu]
     simp [toldP, pullD, getS, ei]
     try rfl
     done)
  | skip
def kn_prs (F : FsFb) : FuncId × (List DV → RV) := (72, fun args => match args with
 | [.d (.slc 1 xs), .d (.slc 3 l)] => some ([F.isBs xs, F.isPs l], .d (.slc 1 (F.prs xs l)))
 | [.d (.sc (.slice none 0 0)), .d (.slc 3 l)] => some ([F.isBs [], F.isPs l], .d (.slc 1 (F.prs [] l)))
 | [.d (.slc 1 xs), .d (.sc (.slice none 0 0))] => some ([F.isBs xs, F.isPs []], .d (.slc 1 (F.prs xs [])))
 | [.d (.sc (.slice none 0 0)), .d (.sc (.slice none 0 0))] => some ([F.isBs [], F.isPs []], .d (.slc 1 (F.prs [] [])))
 | _ => none)
theorem ok_prs (args : List DV) (cs : List Prop) (r : DV) (h : (kn_prs FsFb0).2 args = some (cs, r)) (hc : allP cs True) : FnV Try.prog 72 args r ∧ closedL 0 args = true := by
 unfold kn_prs at h
 simp only at h
 split at h
 ·cases h; exact ⟨v_prs _ _ hc.1 hc.2.1, rfl⟩
 ·cases h; exact ⟨FnP.nils (v_prs [] _ hc.1 hc.2.1) ⟨.inr ⟨rfl, _, rfl⟩, ⟨.inl rfl, trivial⟩⟩, rfl⟩
 ·cases h; exact ⟨FnP.nils (v_prs _ [] hc.1 hc.2.1) ⟨.inl rfl, ⟨.inr ⟨rfl, _, rfl⟩, trivial⟩⟩, rfl⟩
 ·cases h; exact ⟨FnP.nils (v_prs [] [] hc.1 hc.2.1) ⟨.inr ⟨rfl, _, rfl⟩, ⟨.inr ⟨rfl, _, rfl⟩, trivial⟩⟩, rfl⟩
 ·cases h
set_option maxRecDepth 100000 in
theorem v_prsR (xs : List (List PD)) (l : List (List PD)) (hp0 : FsFb0.isBs xs) (hp1 : FsFb0.isPs l) : FnV Try.prog 77 [.d (.slc 1 xs), .d (.slc 3 l)] (.d (.slc 1 (prX xs l))) := by
 obtain ⟨bs, hxs, hbl⟩ := hp0
 obtain ⟨ps, hls, hpl, hps⟩ := hp1
 have hll : l.length = ps.length := by rw [hls]; exact pairsX_length ps
 obtain ⟨n, hn⟩ : ∃ n : Int, n = ps.length := ⟨_, rfl⟩
 have hn32 : 0 ≤ n ∧ n ≤ 32 := by omega
 obtain ⟨b0, hb0⟩ : ∃ b0, b0 = numX xs (l.length : Int) := ⟨_, rfl⟩
 have hb0l : isLn 1000010 b0 := by rw [hb0]; exact isLn.num ⟨bs, hxs, hbl⟩ _
 have hfin : prX xs l = prK b0 ps ps.length := by
  rw [prK_end, hb0, hll, hls]
  simp only [prX, pairsOf_X, prB, numX, bytesP_append, List.append_assoc]
 obtain ⟨GFsW, hGFsW⟩ : ∃ F, F = FsW0 := ⟨_, rfl⟩
 have hH : SoundK Try.prog [kn_rnum GFsW, kn_rtext GFsW] := by subst hGFsW; exact orK_ok ok_rnum (orK_ok ok_rtext noK_ok)
 refine FnD_cbv (T := fun _ => tabY [20, 26, 32] []) (H := fun _ => [kn_rnum GFsW, kn_rtext GFsW]) (tabY_ok _ _) hH follows_mixed Try.func77 rfl Try.ntmps77 (by simp) fun A X W hA hX hW => ?_
 cbv
 have e0 : GFsW.rnum xs n = b0 := by rw [hn, ← hll]; subst hGFsW; exact hb0.symm
 have e1 : A.len l = n := by subst hA; exact (congrArg (Nat.cast (R := Int)) hll).trans hn.symm
 cbv at e0 e1
 rw [hfin] at *
 simp only [e1, e0]
 refine And.intro (by subst hGFsW; exact ⟨bs, hxs, by omega⟩) (And.intro (by subst hGFsW; show r64 n; unfold r64; omega) ?_)
 refine loopL (T := fun _ => tabY [20, 26, 32] []) (H := fun _ => [kn_rnum GFsW, kn_rtext GFsW]) (tabY_ok _ _) hH follows_mixed hA hX (fun x : Int × List (List PD) => 0 ≤ x.1 ∧ x.1 ≤ ps.length ∧ x.2 = prK b0 ps x.1.toNat)
  (fun x => [(0, .d (.slc 1 x.2)), (1, .d (.slc 3 l)), (5, .d (.sc (.int .i64 x.1)))]) (fun _ => [])
  (fun x => (ps.length : Int).toNat - x.1.toNat) (0, b0) ?_ ?_ ?_
 ·exact ⟨by omega, by omega, (prK_zero b0 ps).symm⟩
 ·exact told_less (by simp [toldP, getS])
 rintro R ⟨i, r⟩ hR ⟨i0, i1, i2⟩
 cbv
 try simp only [e1]
 repeat' first
  | (refine part (fun h => ?_) (fun h => ?_) <;> try cbv)
  | (refine And.intro ?_ ?_)
 all_goals subst hA hX hW hR hGFsW
 all_goals simp only [A0, nc, decide_eq_true_eq, decide_eq_false_iff_not, Bool.not_eq_true', Bool.not_eq_false'] at *
 all_goals replace i1 : i ≤ (ps.length : Int) := i1
 all_goals have ei : IntKind.wrap .i64 (i + 1) = i + 1 := wrap_i64 (by unfold r64; omega)
 all_goals have hr := prK_ln hb0l hpl hps i.toNat
 all_goals rw [← i2] at hr
 all_goals try
  have hi : i < ps.length := by omega
  have hj : i.toNat < ps.length := by omega
  have hrx := prow hls i0 hi
  have hpp := hps _ (List.getElem_mem hj)
  have hsu := prK_succ b0 hj
  generalize ps[i.toNat]'(by omega) = p at hrx hpp hsu
  obtain ⟨hk, hv, hve⟩ := hpp
  rw [← i2] at hsu
  simp only [hrx, Pair.row, List.drop_zero, List.drop_succ_cons, List.map_cons, List.map_nil, Nat.zero_add, List.getElem?_cons_zero, List.getElem?_cons_succ] at *
 all_goals first
  | rfl
  | (show Region.lexB _ _ = true; kernel_rfl)
  | (show turnsB _ = true; kernel_rfl)
  | (refine ⟨by omega, by omega⟩; done)
  | omega
  | exact hve
  | (show szT _; unfold szT; omega)
  | exact hr.le (by omega)
  | exact (hr.text (s := p.key) (by omega)).le (by omega)
  | exact ((hr.text (s := p.key) (by omega)).text hv).le (by omega)
  | (refine ⟨(i + 1, prK b0 ps (i.toNat + 1)), ⟨by simp only; omega, by simp only; omega, by simp only; rw [show (i + 1).toNat = i.toNat + 1 by omega]⟩, by simp only [Int.toNat_natCast]; omega, told_less ?_⟩
     rw [hsu]
     simp [toldP, getS, ei]
     try rfl
     done)
  | (simp; done)
  | (refine ret_v ?_ rfl
     have hil : i.toNat = ps.length := by omega
     rw [i2, hil])
  | (refine ⟨(i + 1, prK b0 ps (i.toNat + 1)), ⟨by simp only; omega, by simp only; omega, by simp only; rw [show (i + 1).toNat = i.toNat + 1 by omega]⟩, by simp only [Int.toNat_natCast]; omega, told_keep [] rfl rfl ?_⟩
     rw [hsu]
     simp [toldP, pullD, getS, ei]
     try rfl
     done)
  | skip
def kn_prsR (F : FsFb) : FuncId × (List DV → RV) := (77, fun args => match args with
 | [.d (.slc 1 xs), .d (.slc 3 l)] => some ([F.isBs xs, F.isPs l], .d (.slc 1 (F.prsR xs l)))
 | [.d (.sc (.slice none 0 0)), .d (.slc 3 l)] => some ([F.isBs [], F.isPs l], .d (.slc 1 (F.prsR [] l)))
 | [.d (.slc 1 xs), .d (.sc (.slice none 0 0))] => some ([F.isBs xs, F.isPs []], .d (.slc 1 (F.prsR xs [])))
 | [.d (.sc (.slice none 0 0)), .d (.sc (.slice none 0 0))] => some ([F.isBs [], F.isPs []], .d (.slc 1 (F.prsR [] [])))
 | _ => none)
theorem ok_prsR (args : List DV) (cs : List Prop) (r : DV) (h : (kn_prsR FsFb0).2 args = some (cs, r)) (hc : allP cs True) : FnV Try.prog 77 args r ∧ closedL 0 args = true := by
 unfold kn_prsR at h
 simp only at h
 split at h
 ·cases h; exact ⟨v_prsR _ _ hc.1 hc.2.1, rfl⟩
 ·cases h; exact ⟨FnP.nils (v_prsR [] _ hc.1 hc.2.1) ⟨.inr ⟨rfl, _, rfl⟩, ⟨.inl rfl, trivial⟩⟩, rfl⟩
 ·cases h; exact ⟨FnP.nils (v_prsR _ [] hc.1 hc.2.1) ⟨.inl rfl, ⟨.inr ⟨rfl, _, rfl⟩, trivial⟩⟩, rfl⟩
 ·cases h; exact ⟨FnP.nils (v_prsR [] [] hc.1 hc.2.1) ⟨.inr ⟨rfl, _, rfl⟩, ⟨.inr ⟨rfl, _, rfl⟩, trivial⟩⟩, rfl⟩
 ·cases h
end Go.Proofs.Ytadnpgkddgbhkaa
namespace Go.Proofs.Ytadnpgkddgbhkaa
open Go.RowKit
set_option linter.all false
def rv64 (l : List (List PD)) : Prop := ∀ p ∈ pairsOf l, r64 p.version
theorem isLn.flag {k : Nat} {xs : List (List PD)} (h : isLn k xs) (b : Bool) : isLn (k + 1) (flagX xs b) := by
 obtain ⟨bs, rfl, h2⟩ := h
 exact ⟨bs ++ [if b then 1 else 0], by simp only [flagX, bytesP_append], by rw [List.length_append]; simp only [List.length_cons, List.length_nil]; omega⟩
theorem isLn.prs {k : Nat} {xs l : List (List PD)} (h : isLn k xs) (hl : isPs l) : isLn (k + 4000) (prX xs l) := by
 obtain ⟨bs, rfl, h2⟩ := h
 obtain ⟨ps, rfl, h3, h4⟩ := hl
 have h5 := prB_length h3 h4
 exact ⟨bs ++ prB ps, by simp only [prX, pairsOf_X, bytesP_append], by rw [List.length_append]; omega⟩
theorem isLn.mono {k n : Nat} {xs : List (List PD)} (h : isLn k xs) (hn : k ≤ n) : isLn n xs := by
 obtain ⟨bs, h1, h2⟩ := h
 exact ⟨bs, h1, by omega⟩
theorem isLn.nil : isLn 0 [] := ⟨[], rfl, by simp⟩
theorem isLn.bs {k : Nat} {xs : List (List PD)} (h : isLn k xs) (hk : k ≤ 1000000) : isBs xs := by
 obtain ⟨bs, h1, h2⟩ := h
 exact ⟨bs, h1, by omega⟩
theorem rise_mem : ∀ {ps : List Pair} {a : ByteArray}, riseP a ps = true → ∀ p ∈ ps, p.key.size ≤ 16 ∧ p.value.size ≤ 64
 | [], _, _, p, h => absurd h (by simp)
 | q :: ps, a, hr, p, h => by
     simp only [riseP, okP1, Bool.and_eq_true, decide_eq_true_eq] at hr
     rcases List.mem_cons.1 h with e | h
     ·subst e; exact ⟨hr.1.1.1.2, hr.1.1.2⟩
     ·exact rise_mem hr.2 p h
theorem right_isPs {l : List (List PD)} (h : isP l) (hr : rightX l = true) (hv : rv64 l) : isPs l := by
 obtain ⟨ps, rfl, _⟩ := h
 unfold rightX rightP at hr
 unfold rv64 at hv
 rw [pairsOf_X] at hr hv
 simp only [Bool.and_eq_true, decide_eq_true_eq] at hr
 exact ⟨ps, rfl, hr.1, fun p hp => ⟨(rise_mem hr.2 p hp).1, (rise_mem hr.2 p hp).2, hv p hp⟩⟩
noncomputable def owX (b : List (List PD)) (o : Owner) : List (List PD) :=
 bif decide (o.seq = 0) then numX b o.seq else prX (numX (textX (flagX (numX (numX b o.seq) o.reply.why) o.reply.found) o.reply.value) o.reply.version) o.reply.pairs
def okBo (o : Owner) : Prop := 0 ≤ o.seq ∧ r64 o.seq ∧ r64 o.reply.why ∧ o.reply.value.size ≤ 64 ∧ r64 o.reply.version ∧ isPs o.reply.pairs
theorem okO_bo {o : Owner} (h : okO o = true) (hp : isP o.reply.pairs) (h1 : r64 o.reply.version) (h2 : rv64 o.reply.pairs) : okBo o := by
 simp only [okO, rightRep, Bool.and_eq_true, Bool.or_eq_true, decide_eq_true_eq] at h
 obtain ⟨⟨⟨a1, a2⟩, ⟨⟨⟨a3, a4⟩, a5⟩, a6⟩, a7⟩, _⟩ := h
 refine ⟨a1, by unfold r64; omega, ?_, a4, h1, right_isPs hp a7 h2⟩
 rcases a3 with e | e <;> rw [e] <;> unfold r64 <;> decide
theorem isLn.ow {k : Nat} {b : List (List PD)} (h : isLn k b) {o : Owner} (ho : okBo o) : isLn (k + 4200) (owX b o) := by
 unfold owX
 cases decide (o.seq = 0)
 ·exact ((((((h.num _).num _).flag _).text ho.2.2.2.1).num _).prs ho.2.2.2.2.2).mono (by omega)
 ·exact (h.num _).mono (by omega)
noncomputable def owsX (b : List (List PD)) (os : List Owner) : List (List PD) := os.foldl owX b
theorem owsX_succ (b : List (List PD)) {os : List Owner} {i : Nat} (h : i < os.length) : owsX b (os.take (i + 1)) = owX (owsX b (os.take i)) (os[i]'h) := by
 rw [List.take_succ_eq_append_getElem h, owsX, List.foldl_append]; rfl
theorem isLn.ows {k : Nat} : ∀ {os : List Owner} {b : List (List PD)}, isLn k b → (∀ o ∈ os, okBo o) → isLn (k + 4200 * os.length) (owsX b os) := by
 intro os
 induction os generalizing k with
 | nil => intro b h _; exact h.mono (by simp)
 | cons o os ih =>
   intro b h ho
   have h1 := ih (h.ow (ho o (by simp))) fun q hq => ho q (by simp [hq])
   exact h1.mono (by simp only [List.length_cons]; omega)
noncomputable def bytesSt (s : List DV) : List (List PD) := bif rightSt s then owsX (prX [] (prsS s)) (ownersOf (ownS s)) else []
def owB (o : Owner) : List UInt8 := numB o.seq ++ (bif decide (o.seq = 0) then [] else numB o.reply.why ++ ([if o.reply.found then 1 else 0] ++ (textB o.reply.value ++ (numB o.reply.version ++ prB (pairsOf o.reply.pairs)))))
theorem owX_B (b : List UInt8) (o : Owner) : owX (bytesP b) o = bytesP (b ++ owB o) := by
 unfold owX owB
 cases decide (o.seq = 0) <;> simp only [cond_true, cond_false, numX, textX, flagX, prX, ← bytesP_append, List.append_assoc, List.append_nil]
theorem owsX_B : ∀ (os : List Owner) (b : List UInt8), owsX (bytesP b) os = bytesP (b ++ (os.map owB).flatten)
 | [], b => by simp [owsX]
 | o :: os, b => by
     have h : owsX (bytesP b) (o :: os) = owsX (owX (bytesP b) o) os := rfl
     rw [h, owX_B, owsX_B os]
     simp
end Go.Proofs.Ytadnpgkddgbhkaa
namespace Go.Proofs.Ytadnpgkddgbhkaa
open Go.RowKit
set_option linter.all false
set_option maxHeartbeats 4000000
set_option maxRecDepth 100000 in
theorem v_putL (xs : List (List PD)) (cs : List DV) (hp0 : isP xs) (hp1 : isOwn cs) (hv : rv64 xs) (hw : ∀ o ∈ ownersOf cs, r64 o.reply.version ∧ rv64 o.reply.pairs) : FnV Try.prog 63 [.agg (.d (.slc 3 xs) :: cs)] (.d (.slc 1 (bytesSt (.d (.slc 3 xs) :: cs)))) := by
 have hcl := hp1.len
 have hst := isSt.mk hp0 hp1
 have hup : upS (.d (.slc 3 xs) :: cs) = .d (.slc 3 xs) :: cs := st_up hp1
 have h9 := isOwn.closed hp1
 obtain ⟨os, hos, hcs, hop⟩ := hp1
 have hof := ownersOf_D hos hcs
 obtain ⟨GFsS4, hGFsS4⟩ : ∃ F, F = FsS40 := ⟨_, rfl⟩
 obtain ⟨GFsPq, hGFsPq⟩ : ∃ F, F = FsPq0 := ⟨_, rfl⟩
 obtain ⟨GFsW, hGFsW⟩ : ∃ F, F = FsW0 := ⟨_, rfl⟩
 obtain ⟨GFsFb, hGFsFb⟩ : ∃ F, F = FsFb0 := ⟨_, rfl⟩
 have hH : SoundK Try.prog [kn_rightSt GFsS4, kn_num GFsPq, kn_text GFsPq, kn_pflag GFsW, kn_prs GFsFb] := by subst hGFsS4 hGFsPq hGFsW hGFsFb; exact orK_ok ok_rightSt (orK_ok ok_num (orK_ok ok_text (orK_ok ok_pflag (orK_ok ok_prs noK_ok))))
 refine FnD_cbv (T := fun _ => tabY [0, 1001, 1013, 17] []) (H := fun _ => [kn_rightSt GFsS4, kn_num GFsPq, kn_text GFsPq, kn_pflag GFsW, kn_prs GFsFb]) (tabY_ok _ _) hH follows_mixed Try.func63 rfl Try.ntmps63 (by simp) fun A X W hA hX hW => ?_
 cbv
 have e48 : A.tk (.d (.slc 3 xs) :: cs) 1 1 48 = cs := by subst hA; exact tk48s _ hcl
 have e49 : A.tk (.d (.slc 3 xs) :: cs) 0 1 49 = .d (.slc 3 xs) :: cs := by subst hA; exact List.take_of_length_le (by simp [hcl])
 have hno : ∀ b, A.not (GFsS4.rightSt (.d (.slc 3 xs) :: cs)) = b → rightSt (.d (.slc 3 xs) :: cs) = !b := by
  intro b hb
  rw [← hb]
  subst hA hGFsS4
  show _ = !!(rightSt (.d (.slc 3 xs) :: cs))
  simp
 have hpr : prsS (.d (.slc 3 xs) :: cs) = xs := by unfold prsS; rw [show upCs (.d (.slc 3 xs) :: cs) = .d (.slc 3 xs) :: cs from hup]; rfl
 have how : ownS (.d (.slc 3 xs) :: cs) = cs := by unfold ownS; rw [show upCs (.d (.slc 3 xs) :: cs) = .d (.slc 3 xs) :: cs from hup]; rfl
 have hri : rightSt (.d (.slc 3 xs) :: cs) = true → rightX xs = true ∧ rightOs os = true := by
  intro h
  unfold rightSt stateX at h
  rw [hpr, how, hof] at h
  simp only [Bool.and_eq_true] at h
  exact ⟨h.2, h.1⟩
 obtain ⟨b0, hb0⟩ : ∃ b0, b0 = prX [] xs := ⟨_, rfl⟩
 have eb : GFsFb.prs [] xs = b0 := by subst hGFsFb; exact hb0.symm
 have hbt : rightSt (.d (.slc 3 xs) :: cs) = true → bytesSt (.d (.slc 3 xs) :: cs) = owsX b0 os := by intro h; unfold bytesSt; rw [h, hpr, how, hof, ← hb0]; rfl
 have hbf : rightSt (.d (.slc 3 xs) :: cs) = false → bytesSt (.d (.slc 3 xs) :: cs) = [] := by intro h; unfold bytesSt; rw [h]; rfl
 cbv at e48 e49 eb
 simp only [e48, e49, eb]
 repeat' first
  | (refine part (fun h => ?_) (fun h => ?_) <;> try cbv)
  | (refine And.intro ?_ ?_)
 rotate_right
 ·have hrg : rightSt (.d (.slc 3 xs) :: cs) = true := hno _ h
  obtain ⟨hrx, hro⟩ := hri hrg
  rw [hbt hrg] at hW
  have hps := right_isPs hp0 hrx hv
  have hbl : isLn 4000 b0 := by rw [hb0]; exact (isLn.nil.prs hps).mono (by omega)
  have hok : ∀ o ∈ os, okBo o := by
   intro o ho
   rw [hof] at hw
   have h7 : ∀ {os : List Owner}, rightOs os = true → ∀ o ∈ os, okO o = true := by
    intro os
    induction os with
    | nil => intro _ o h; cases h
    | cons q os ih =>
      intro h o ho
      simp only [rightOs, Bool.and_eq_true] at h
      rcases List.mem_cons.1 ho with e | e
      ·subst e; exact h.1
      ·exact ih h.2 o e
   exact okO_bo (h7 hro o ho) (hop o ho) (hw o ho).1 (hw o ho).2
  clear hno hri hbt hbf hpr how
  refine loopL (T := fun _ => tabY [0, 1001, 1013, 17] []) (H := fun _ => [kn_rightSt GFsS4, kn_num GFsPq, kn_text GFsPq, kn_pflag GFsW, kn_prs GFsFb]) (tabY_ok _ _) hH follows_mixed hA hX (fun x : Int × List (List PD) => 0 ≤ x.1 ∧ x.1 ≤ 8 ∧ x.2 = owsX b0 (os.take x.1.toNat))
   (fun x => [(3, .d (.slc 1 x.2)), (14, .agg cs), (15, .d (.sc (.int .i64 x.1)))]) (fun _ => [⟨32, .d (.slc 3 xs) :: cs, false, 0, true⟩])
   (fun x => 8 - x.1.toNat) (0, b0) ?_ ?_ ?_
  ·exact ⟨by omega, by omega, rfl⟩
  ·exact told_less ⟨.inl (congrArg (fun z => DV.d (.slc 1 z)) eb).symm, .inl (congrArg DV.agg e48).symm, .inl rfl, trivial⟩
  rintro R ⟨i, r⟩ hR ⟨i0, i1, i2⟩
  cbv
  replace i0 : 0 ≤ i := i0
  replace i1 : i ≤ 8 := i1
  replace i2 : r = owsX b0 (os.take i.toNat) := i2
  replace hos : os.length = 8 := hos
  replace hcs : cs = ownsD os := hcs
  have hr : isLn 40000 r := by rw [i2]; exact (hbl.ows (os := os.take i.toNat) (fun o ho => hok o (List.mem_of_mem_take ho))).mono (by rw [List.length_take]; omega)
  refine part (fun h2 => ?_) (fun h2 => ?_) <;> cbv
  ·have hi : i < 8 := by
    subst hA
    simp only [A0, decide_eq_true_eq] at h2
    exact h2
   have hin : i.toNat < os.length := by omega
   obtain ⟨g0, g1, g2, g3, g4, g5, gt, gl⟩ := own_cell hcs i.toNat hin
   have ho := hop _ (List.getElem_mem hin)
   obtain ⟨k1, k2, k3, k4, k5, k6⟩ := hok _ (List.getElem_mem hin)
   have hsu := owsX_succ b0 hin
   generalize os[i.toNat]'hin = o at g0 g1 g2 g3 g4 g5 gt ho hsu k1 k2 k3 k4 k5 k6
   rw [← i2] at hsu
   have wi : IntKind.wrap .i64 (i + 1) = i + 1 := wrap_i64 (by unfold r64; omega)
   have hr1 := hr.num o.seq
   have hr2 := hr1.num o.reply.why
   have hr3 := hr2.flag o.reply.found
   have hr4 := hr3.text k4
   have hr5 := hr4.num o.reply.version
   repeat' first
    | (refine part (fun h3 => ?_) (fun h3 => ?_) <;> try cbv)
    | (refine And.intro ?_ ?_)
   all_goals subst hA hX hW hR hGFsPq hGFsW hGFsFb hGFsS4
   all_goals first
    | exact ⟨i0, hi⟩
    | (show Region.lexB _ _ = true; kernel_rfl)
    | (show turnsB _ = true; kernel_rfl)
    | (simp only [A0, Nat.zero_add, g0, g1, g2, g3, g4, g5, gt]; exact ⟨rfl, gl, rfl⟩)
    | exact hr.le (by omega)
    | (simp only [A0, Nat.zero_add, g0, g1, g2, g3, g4, g5]; first
        | exact k2
        | exact k3
        | exact k5
        | exact k6
        | exact hr1.le (by omega)
        | exact hr2.le (by omega)
        | exact hr3.le (by omega)
        | exact hr4.le (by omega)
        | exact hr5.bs (by omega)
        | (show szT _; unfold szT; omega))
    | skip
   all_goals
    simp only [A0, Nat.zero_add, g0, g1, g2, g3, g4, g5] at h3
    have eo := show owX r o = _ by unfold owX; rw [h3]
    simp only [cond_true, cond_false] at eo
    refine ⟨(i + 1, owX r o), ⟨by simp only; omega, by simp only; omega, by simp only; rw [show (i + 1).toNat = i.toNat + 1 by omega]; exact hsu.symm⟩, by simp only; omega, told_keep [0] rfl ?_ ?_⟩
    ·simp [keepSt, pullBox, pullL, pullD, own_pull [0] hcs, own_pullL [0] hcs]
    ·rw [eo]
     simp [toldP, getS, A0, wi, pullD, own_pullL [0] hcs, g0, g1, g2, g3, g4, g5]
     try rfl
  ·subst hA hX hW hR
   simp only [A0, decide_eq_false_iff_not] at h2
   replace h2 : ¬ i < 8 := h2
   refine ret_v ?_ rfl
   have hil : i.toNat = os.length := by omega
   rw [i2, hil, List.take_length]
 all_goals subst hA hX hW hGFsS4 hGFsFb
 all_goals first
  | exact rfl
  | exact hst
  | exact isLn.nil.bs (by omega)
  | exact right_isPs hp0 (hri (hno _ h)).1 hv
  | (show List.length _ ≤ 1000000; rw [List.length_cons, hcl]; decide)
  | (show List.length _ = 49 * 1; rw [List.length_cons, hcl])
  | (rw [hbf (hno _ h)]; exact ret_nil rfl)
  | (simp [A0, hcl]; done)
  | (show _ ≤ List.length _; rw [List.length_cons, hcl]; decide)
  | fail
end Go.Proofs.Ytadnpgkddgbhkaa
namespace Go.Proofs.Ytadnpgkddgbhkaa
open Go.RowKit
set_option linter.all false
set_option maxHeartbeats 4000000
set_option maxRecDepth 100000 in
theorem v_putRL (xs : List (List PD)) (cs : List DV) (hp0 : isP xs) (hp1 : isOwn cs) (hv : rv64 xs) (hw : ∀ o ∈ ownersOf cs, r64 o.reply.version ∧ rv64 o.reply.pairs) : FnV Try.prog 65 [.agg (.d (.slc 3 xs) :: cs)] (.d (.slc 1 (bytesSt (.d (.slc 3 xs) :: cs)))) := by
 have hcl := hp1.len
 have hst := isSt.mk hp0 hp1
 have hup : upS (.d (.slc 3 xs) :: cs) = .d (.slc 3 xs) :: cs := st_up hp1
 have h9 := isOwn.closed hp1
 obtain ⟨os, hos, hcs, hop⟩ := hp1
 have hof := ownersOf_D hos hcs
 obtain ⟨GFsC2, hGFsC2⟩ : ∃ F, F = FsC20 := ⟨_, rfl⟩
 obtain ⟨GFsW, hGFsW⟩ : ∃ F, F = FsW0 := ⟨_, rfl⟩
 obtain ⟨GFsFb, hGFsFb⟩ : ∃ F, F = FsFb0 := ⟨_, rfl⟩
 have hH : SoundK Try.prog [kn_rightR2 GFsC2, kn_rnum GFsW, kn_rtext GFsW, kn_rflag GFsW, kn_prsR GFsFb] := by subst hGFsC2 hGFsW hGFsFb; exact orK_ok ok_rightR2 (orK_ok ok_rnum (orK_ok ok_rtext (orK_ok ok_rflag (orK_ok ok_prsR noK_ok))))
 refine FnD_cbv (T := fun _ => tabY [0, 1001, 18] []) (H := fun _ => [kn_rightR2 GFsC2, kn_rnum GFsW, kn_rtext GFsW, kn_rflag GFsW, kn_prsR GFsFb]) (tabY_ok _ _) hH follows_mixed Try.func65 rfl Try.ntmps65 (by simp) fun A X W hA hX hW => ?_
 cbv
 have e49 : A.tk (.d (.slc 3 xs) :: cs) 0 1 49 = .d (.slc 3 xs) :: cs := by subst hA; exact List.take_of_length_le (by simp [hcl])
 have hno : ∀ b, A.not (GFsC2.rightR2 (.d (.slc 3 xs) :: cs)) = b → rightSt (.d (.slc 3 xs) :: cs) = !b := by
  intro b hb
  rw [← hb]
  subst hA hGFsC2
  show _ = !!(rightSt (.d (.slc 3 xs) :: cs))
  simp
 have hpr : prsS (.d (.slc 3 xs) :: cs) = xs := by unfold prsS; rw [show upCs (.d (.slc 3 xs) :: cs) = .d (.slc 3 xs) :: cs from hup]; rfl
 have how : ownS (.d (.slc 3 xs) :: cs) = cs := by unfold ownS; rw [show upCs (.d (.slc 3 xs) :: cs) = .d (.slc 3 xs) :: cs from hup]; rfl
 have hri : rightSt (.d (.slc 3 xs) :: cs) = true → rightX xs = true ∧ rightOs os = true := by
  intro h
  unfold rightSt stateX at h
  rw [hpr, how, hof] at h
  simp only [Bool.and_eq_true] at h
  exact ⟨h.2, h.1⟩
 obtain ⟨b0, hb0⟩ : ∃ b0, b0 = prX [] xs := ⟨_, rfl⟩
 have eb : GFsFb.prsR [] xs = b0 := by subst hGFsFb; exact hb0.symm
 have hbt : rightSt (.d (.slc 3 xs) :: cs) = true → bytesSt (.d (.slc 3 xs) :: cs) = owsX b0 os := by intro h; unfold bytesSt; rw [h, hpr, how, hof, ← hb0]; rfl
 have hbf : rightSt (.d (.slc 3 xs) :: cs) = false → bytesSt (.d (.slc 3 xs) :: cs) = [] := by intro h; unfold bytesSt; rw [h]; rfl
 cbv at e49 eb
 simp only [e49, eb]
 repeat' first
  | (refine part (fun h => ?_) (fun h => ?_) <;> try cbv)
  | (refine And.intro ?_ ?_)
 rotate_right
 ·have hrg : rightSt (.d (.slc 3 xs) :: cs) = true := hno _ h
  obtain ⟨hrx, hro⟩ := hri hrg
  rw [hbt hrg] at hW
  have hps := right_isPs hp0 hrx hv
  have hbl : isLn 4000 b0 := by rw [hb0]; exact (isLn.nil.prs hps).mono (by omega)
  have hok : ∀ o ∈ os, okBo o := by
   intro o ho
   rw [hof] at hw
   have h7 : ∀ {os : List Owner}, rightOs os = true → ∀ o ∈ os, okO o = true := by
    intro os
    induction os with
    | nil => intro _ o h; cases h
    | cons q os ih =>
      intro h o ho
      simp only [rightOs, Bool.and_eq_true] at h
      rcases List.mem_cons.1 ho with e | e
      ·subst e; exact h.1
      ·exact ih h.2 o e
   exact okO_bo (h7 hro o ho) (hop o ho) (hw o ho).1 (hw o ho).2
  clear hno hri hbt hbf hpr how
  refine loopL (T := fun _ => tabY [0, 1001, 18] []) (H := fun _ => [kn_rightR2 GFsC2, kn_rnum GFsW, kn_rtext GFsW, kn_rflag GFsW, kn_prsR GFsFb]) (tabY_ok _ _) hH follows_mixed hA hX (fun x : Int × List (List PD) => 0 ≤ x.1 ∧ x.1 ≤ 8 ∧ x.2 = owsX b0 (os.take x.1.toNat))
   (fun x => [(1, .ref 0 0 0), (3, .d (.slc 1 x.2)), (4, .d (.sc (.int .i64 x.1)))]) (fun _ => [⟨32, .d (.slc 3 xs) :: cs, false, 0, true⟩])
   (fun x => 8 - x.1.toNat) (0, b0) ?_ ?_ ?_
  ·exact ⟨by omega, by omega, rfl⟩
  ·exact told_less ⟨.inl rfl, .inl (congrArg (fun z => DV.d (.slc 1 z)) eb).symm, .inl rfl, trivial⟩
  rintro R ⟨i, r⟩ hR ⟨i0, i1, i2⟩
  cbv
  replace i0 : 0 ≤ i := i0
  replace i1 : i ≤ 8 := i1
  replace i2 : r = owsX b0 (os.take i.toNat) := i2
  replace hos : os.length = 8 := hos
  replace hcs : cs = ownsD os := hcs
  have hr : isLn 40000 r := by rw [i2]; exact (hbl.ows (os := os.take i.toNat) (fun o ho => hok o (List.mem_of_mem_take ho))).mono (by rw [List.length_take]; omega)
  refine part (fun h2 => ?_) (fun h2 => ?_) <;> cbv
  ·have hi : i < 8 := by
    subst hA
    simp only [A0, decide_eq_true_eq] at h2
    exact h2
   have hin : i.toNat < os.length := by omega
   obtain ⟨g0, g1, g2, g3, g4, g5, r2, r3, r4, r5, qs1, gt, qt1, gl⟩ := st_cell (.d (.slc 3 xs)) hcs i.toNat hin
   have ho := hop _ (List.getElem_mem hin)
   obtain ⟨k1, k2, k3, k4, k5, k6⟩ := hok _ (List.getElem_mem hin)
   have hsu := owsX_succ b0 hin
   generalize os[i.toNat]'hin = o at g0 g1 g2 g3 g4 g5 r2 r3 r4 r5 qs1 gt qt1 ho hsu k1 k2 k3 k4 k5 k6
   rw [← i2] at hsu
   have wi : IntKind.wrap .i64 (i + 1) = i + 1 := wrap_i64 (by unfold r64; omega)
   have hr1 := hr.num o.seq
   have hr2 := hr1.num o.reply.why
   have hr3 := hr2.flag o.reply.found
   have hr4 := hr3.text k4
   have hr5 := hr4.num o.reply.version
   repeat' first
    | (refine part (fun h3 => ?_) (fun h3 => ?_) <;> try cbv)
    | (refine And.intro ?_ ?_)
   all_goals subst hA hX hW hR hGFsW hGFsFb hGFsC2
   all_goals first
    | exact rfl
    | exact ⟨i0, hi⟩
    | (show Region.lexB _ _ = true; kernel_rfl)
    | (show turnsB _ = true; kernel_rfl)
    | (simp only [A0, Nat.zero_add, g0, g1, g2, g3, g4, g5, r2, r3, r4, r5, gt]; exact ⟨rfl, gl, rfl⟩)
    | exact hr.le (by omega)
    | (simp only [A0, Nat.zero_add, g0, g1, g2, g3, g4, g5, r2, r3, r4, r5]; first
        | exact k2
        | exact k3
        | exact k5
        | exact k6
        | exact hr1.le (by omega)
        | exact hr2.le (by omega)
        | exact hr3.le (by omega)
        | exact hr4.le (by omega)
        | exact hr5.bs (by omega)
        | (show szT _; unfold szT; omega))
    | skip
   all_goals
    simp only [A0, Nat.zero_add, g0, g1, g2, g3, g4, g5, r2, r3, r4, r5] at h3
    have hz : decide (o.seq = 0) = !decide (0 < o.seq) := by
     by_cases h : o.seq = 0
     ·rw [h]; rfl
     ·have : 0 < o.seq := by omega
      simp [h, this]
    have eo := show owX r o = _ by unfold owX; rw [hz, h3]
    simp only [Bool.not_true, Bool.not_false, cond_true, cond_false] at eo
    refine ⟨(i + 1, owX r o), ⟨by simp only; omega, by simp only; omega, by simp only; rw [show (i + 1).toNat = i.toNat + 1 by omega]; exact hsu.symm⟩, by simp only; omega, told_keep [0] rfl ?_ ?_⟩
    ·simp [keepSt, pullBox, pullL, pullD, own_pull [0] hcs, own_pullL [0] hcs]
    ·rw [eo]
     simp [toldP, getS, A0, wi, pullD, own_pullL [0] hcs, g0, g1, g2, g3, g4, g5, r2, r3, r4, r5]
     try rfl
  ·subst hA hX hW hR
   simp only [A0, decide_eq_false_iff_not] at h2
   replace h2 : ¬ i < 8 := h2
   refine ret_v ?_ rfl
   have hil : i.toNat = os.length := by omega
   rw [i2, hil, List.take_length]
 all_goals subst hA hX hW hGFsC2 hGFsFb
 all_goals first
  | exact rfl
  | exact hst
  | exact isLn.nil.bs (by omega)
  | exact right_isPs hp0 (hri (hno _ h)).1 hv
  | (show List.length _ ≤ 1000000; rw [List.length_cons, hcl]; decide)
  | (show List.length _ = 49 * 1; rw [List.length_cons, hcl])
  | (rw [hbf (hno _ h)]; exact ret_nil rfl)
  | (simp [A0, hcl]; done)
  | (show _ ≤ List.length _; rw [List.length_cons, hcl]; decide)
  | fail
end Go.Proofs.Ytadnpgkddgbhkaa
namespace Go.Proofs.Ytadnpgkddgbhkaa
open Go.RowKit
set_option linter.all false
set_option maxHeartbeats 4000000
def okV (s : List DV) : Prop := rv64 (prsS s) ∧ ∀ o ∈ ownersOf (ownS s), r64 o.reply.version ∧ rv64 o.reply.pairs
theorem bytesSt_up {s : List DV} (h : isSt s) : bytesSt (.d (.slc 3 (prsS s)) :: ownS s) = bytesSt s := by
 have e := h.eq
 have e2 : upCs (.d (.slc 3 (prsS s)) :: ownS s) = .d (.slc 3 (prsS s)) :: ownS s := st_up h.own
 have e3 : upCs (.d (.slc 3 (prsS s)) :: ownS s) = upCs s := e2.trans e.symm
 unfold bytesSt rightSt prsS ownS at *
 rw [e3]
theorem v_stPut (s : List DV) (h : isSt s) (h2 : okV s) : FnV Try.prog 63 [.agg s] (.d (.slc 1 (bytesSt s))) := by
 have e := h.eq
 refine FnP.ups (args := [.agg s]) (?_ : FnV Try.prog 63 [.agg (upCs s)] (.d (.slc 1 (bytesSt s)))) (UpL.agg (upL_upCs s) UpL.done)
 rw [e, ← bytesSt_up h]
 exact v_putL _ _ h.prs h.own h2.1 h2.2
theorem v_stPutR (s : List DV) (h : isSt s) (h2 : okV s) : FnV Try.prog 65 [.agg s] (.d (.slc 1 (bytesSt s))) := by
 have e := h.eq
 refine FnP.ups (args := [.agg s]) (?_ : FnV Try.prog 65 [.agg (upCs s)] (.d (.slc 1 (bytesSt s)))) (UpL.agg (upL_upCs s) UpL.done)
 rw [e, ← bytesSt_up h]
 exact v_putRL _ _ h.prs h.own h2.1 h2.2
structure FsPu where
 stPut : List DV → List (List PD)
 stPutR : List DV → List (List PD)
 isSt : List DV → Prop
 okV : List DV → Prop
noncomputable def FsPu0 : FsPu where
 stPut := bytesSt
 stPutR := bytesSt
 isSt := isSt
 okV := okV
def kn_stPut (F : FsPu) : FuncId × (List DV → RV) := (63, fun args => match args with
 | [.agg s] => some ([F.isSt s, F.okV s], .d (.slc 1 (F.stPut s)))
 | _ => none)
theorem ok_stPut (args : List DV) (cs : List Prop) (r : DV) (h : (kn_stPut FsPu0).2 args = some (cs, r)) (hc : allP cs True) : FnV Try.prog 63 args r ∧ closedL 0 args = true := by
 unfold kn_stPut at h
 simp only at h
 split at h
 ·cases h; exact ⟨v_stPut _ hc.1 hc.2.1, clo1 (isSt.closed hc.1) rfl⟩
 ·cases h
def kn_stPutR (F : FsPu) : FuncId × (List DV → RV) := (65, fun args => match args with
 | [.agg s] => some ([F.isSt s, F.okV s], .d (.slc 1 (F.stPutR s)))
 | _ => none)
theorem ok_stPutR (args : List DV) (cs : List Prop) (r : DV) (h : (kn_stPutR FsPu0).2 args = some (cs, r)) (hc : allP cs True) : FnV Try.prog 65 args r ∧ closedL 0 args = true := by
 unfold kn_stPutR at h
 simp only at h
 split at h
 ·cases h; exact ⟨v_stPutR _ hc.1 hc.2.1, clo1 (isSt.closed hc.1) rfl⟩
 ·cases h
end Go.Proofs.Ytadnpgkddgbhkaa
namespace Go.Proofs.Ytadnpgkddgbhkaa
open Go.RowKit
set_option linter.all false
theorem cnt_eq (xs : List (List PD)) (a w most : Int) : cntR xs a w most = if (numR xs a w).2.2 = 0 ∧ ((numR xs a w).1 < 0 ∨ most < (numR xs a w).1) then (0, a, 2) else numR xs a w := rfl
end Go.Proofs.Ytadnpgkddgbhkaa
namespace Go.Proofs.Ytadnpgkddgbhkaa
open Go.RowKit
set_option linter.all false
set_option maxHeartbeats 4000000
theorem toNat_lit (n : Nat) (h : n < 256) : (UInt8.ofNat n).toNat = n := by
 simp
 omega
theorem pow7 (i : Nat) : 2 ^ (7 * (i + 1)) = 128 * 2 ^ (7 * i) := by rw [Nat.mul_add, Nat.pow_add, Nat.mul_comm]
theorem at9 (u : Nat) (h : u * 2 ^ (7 * 9) < 18446744073709551616) : u < 2 := by omega
theorem sev_numF : ∀ (f i u m : Nat) (l : List UInt8), i + f = 9 → (0 < i → 0 < u) → u * 2 ^ (7 * i) < 18446744073709551616 → sev i m (numF (f + 1) u ++ l) = .num (m + u * 2 ^ (7 * i)) (i + (numF (f + 1) u).length)
 | f, i, u, m, l, hf, hi, hu => by
    have h9 : i = 9 → u < 2 := fun e => by subst e; exact at9 u hu
    by_cases h : u < 128
    ·rw [numF_last f u h]
     have ht := toNat_lit u (by omega)
     have e : sev i m ([UInt8.ofNat u] ++ l) = if (0 < i ∧ (UInt8.ofNat u).toNat = 0) ∨ (i = 9 ∧ 1 < (UInt8.ofNat u).toNat) then .form else if (UInt8.ofNat u).toNat < 128 then .num (m + (UInt8.ofNat u).toNat % 128 * 2 ^ (7 * i)) (i + 1) else sev (i + 1) (m + (UInt8.ofNat u).toNat % 128 * 2 ^ (7 * i)) l := rfl
     rw [e, ht, if_neg (by omega), if_pos h, Nat.mod_eq_of_lt h]
     rfl
    ·rw [numF_step f u h]
     have ht := toNat_lit (u % 128 + 128) (by omega)
     have e : sev i m (UInt8.ofNat (u % 128 + 128) :: numF f (u / 128) ++ l) = if (0 < i ∧ (UInt8.ofNat (u % 128 + 128)).toNat = 0) ∨ (i = 9 ∧ 1 < (UInt8.ofNat (u % 128 + 128)).toNat) then .form else if (UInt8.ofNat (u % 128 + 128)).toNat < 128 then .num (m + (UInt8.ofNat (u % 128 + 128)).toNat % 128 * 2 ^ (7 * i)) (i + 1) else sev (i + 1) (m + (UInt8.ofNat (u % 128 + 128)).toNat % 128 * 2 ^ (7 * i)) (numF f (u / 128) ++ l) := rfl
     have hmul : u * 2 ^ (7 * i) = u % 128 * 2 ^ (7 * i) + u / 128 * 2 ^ (7 * (i + 1)) := by
      rw [pow7, ← Nat.mul_assoc, ← Nat.add_mul]
      congr 1
      omega
     match f, hf with
     | 0, hf =>
       have := h9 (by omega)
       omega
     | f + 1, hf =>
       rw [e, ht, if_neg (by omega), if_neg (by omega), sev_numF f (i + 1) (u / 128) _ l (by omega) (by omega) (by omega)]
       rw [show (u % 128 + 128) % 128 = u % 128 by omega, List.length_cons, hmul]
       congr 1 <;> omega
theorem sev_numB (n : Int) (h : r64 n) (l : List UInt8) : sev 0 0 (numB n ++ l) = .num (zig n).toNat (numB n).length := by
 have hz := zig_range h
 have := sev_numF 9 0 (zig n).toNat 0 l rfl (by omega) (by omega)
 rw [show numB n = numF (9 + 1) (zig n).toNat from rfl, this]
 simp
def sevens : Nat → Nat → Int
 | 0, _ => 0
 | f + 1, u => if u < 128 then 1 else sevens f (u / 128) + 1
theorem drop_pre (pre l : List UInt8) : (pre ++ l).drop ((pre.length : Int)).toNat = l := by
 rw [show ((pre.length : Int)).toNat = pre.length by omega, List.drop_left]
theorem num_back (pre rest : List UInt8) (n : Int) (h : r64 n) : numL (pre ++ (numB n ++ rest)) pre.length 0 = (n, (pre.length : Int) + ((numB n).length : Int), (0 : Int)) := by
 unfold numL
 rw [if_neg (by decide), drop_pre, sev_numB n h]
 simp only
 rw [Int.toNat_of_nonneg (zig_range h).1, zag_zig n h]
theorem flag_back (pre rest : List UInt8) (f : Bool) : flagL (pre ++ ([if f then 1 else 0] ++ rest)) pre.length 0 = (f, (pre.length : Int) + 1, (0 : Int)) := by
 unfold flagL
 rw [if_neg (by decide), show ((pre.length : Int)).toNat = pre.length by omega]
 have e : (pre ++ ([if f then (1 : UInt8) else 0] ++ rest))[pre.length]? = some (if f then 1 else 0) := by simp
 rw [e]
 cases f <;> simp
theorem size_list (s : ByteArray) : s.data.toList.length = s.size := by rw [Array.length_toList]; rfl
theorem numR_back {bs : List UInt8} (pre rest : List UInt8) (n : Int) {a : Int} (h : r64 n) (e : bs = pre ++ (numB n ++ rest)) (ha : a = pre.length) : numR (bytesP bs) a 0 = (n, ((pre ++ numB n).length : Int), 0) := by
 subst e ha
 unfold numR
 rw [bytesOf_bytesP, num_back pre rest n h, List.length_append]
 refine Prod.ext rfl (Prod.ext ?_ rfl)
 simp only; omega
theorem flagR_back {bs : List UInt8} (pre rest : List UInt8) (f : Bool) {a : Int} (e : bs = pre ++ ([if f then 1 else 0] ++ rest)) (ha : a = pre.length) : flagR (bytesP bs) a 0 = (f, ((pre ++ [if f then (1 : UInt8) else 0]).length : Int), 0) := by
 subst e ha
 unfold flagR
 rw [bytesOf_bytesP, flag_back pre rest f, List.length_append]
 refine Prod.ext rfl (Prod.ext ?_ rfl)
 simp
theorem text_backN (pre rest : List UInt8) (s : ByteArray) (most : Int) (hs : (s.size : Int) ≤ most) (hm : most ≤ 1099511627776) : textL (pre ++ (textB s ++ rest)) pre.length 0 most = (s, (pre.length : Int) + ((textB s).length : Int), (0 : Int)) := by
 have hn := num_back pre (s.data.toList ++ rest) (s.size : Int) (by unfold r64; omega)
 have hl := size_list s
 have hc : cntL (pre ++ (textB s ++ rest)) pre.length 0 most = ((s.size : Int), (pre.length : Int) + ((numB s.size).length : Int), (0 : Int)) := by
  unfold cntL textB
  rw [List.append_assoc, hn]
  simp only
  rw [if_neg (by omega)]
 unfold textL
 rw [hc]
 simp only
 rw [if_neg (by simp), if_neg (by simp only [textB, List.length_append, hl]; omega)]
 have hd : ((pre ++ (textB s ++ rest)).drop ((pre.length : Int) + (numB s.size).length).toNat).take ((s.size : Int)).toNat = s.data.toList := by
  rw [show ((pre.length : Int) + ((numB s.size).length : Int)).toNat = (pre ++ numB s.size).length by simp only [List.length_append]; omega, textB, List.append_assoc, ← List.append_assoc pre, List.drop_left, show ((s.size : Int)).toNat = s.data.toList.length by omega, List.take_left]
 rw [hd]
 simp only [textB, List.length_append, hl]
 refine Prod.ext (by simp) (Prod.ext ?_ rfl)
 simp only
 omega
theorem textR_backN {bs : List UInt8} (pre rest : List UInt8) (s : ByteArray) (most : Int) {a : Int} (hs : (s.size : Int) ≤ most) (hm : most ≤ 1099511627776) (e : bs = pre ++ (textB s ++ rest)) (ha : a = pre.length) : textR (bytesP bs) a 0 most = (s, ((pre ++ textB s).length : Int), 0) := by
 subst e ha
 unfold textR
 rw [bytesOf_bytesP, text_backN pre rest s most hs hm, List.length_append]
 refine Prod.ext rfl (Prod.ext ?_ rfl)
 simp only; omega
def lstN (xs : List (List PD)) : Nat → Int → Int → List Pair × Int × Int
 | 0, a, w => ([], a, w)
 | n + 1, a, w =>
   let s := lstN xs n a w
   let k := textR xs s.2.1 s.2.2 16
   let v := textR xs k.2.1 k.2.2 64
   let m := numR xs v.2.1 v.2.2
   (s.1 ++ [⟨k.1, v.1, m.1⟩], m.2)
def lstR (xs : List (List PD)) (a w most : Int) : List Pair × Int × Int :=
 let c := cntR xs a w most
 lstN xs c.1.toNat c.2.1 c.2.2
def owR (xs : List (List PD)) (a w : Int) : Owner × Int × Int :=
 let q := numR xs a w
 if q.1 = 0 then (⟨q.1, zeroRep⟩, q.2) else
  let y := numR xs q.2.1 q.2.2
  let f := flagR xs y.2.1 y.2.2
  let v := textR xs f.2.1 f.2.2 64
  let n := numR xs v.2.1 v.2.2
  let l := lstR xs n.2.1 n.2.2 8
  (⟨q.1, ⟨y.1, f.1, v.1, n.1, pairsX l.1⟩⟩, l.2)
def owsR (xs : List (List PD)) : Nat → Int → Int → List Owner × Int × Int
 | 0, a, w => ([], a, w)
 | n + 1, a, w =>
   let s := owsR xs n a w
   let o := owR xs s.2.1 s.2.2
   (s.1 ++ [o.1], o.2)
def zeroSt : List DV := cellsS [] (List.replicate 8 ⟨0, zeroRep⟩)
noncomputable def getSt (xs : List (List PD)) : List DV × Int :=
 let l := lstR xs 0 0 32
 let o := owsR xs 8 l.2.1 l.2.2
 let e := endR xs o.2.1 o.2.2
 if e = 0 then (if rightSt (cellsS l.1 o.1) = true then (cellsS l.1 o.1, 0) else (zeroSt, 4)) else (zeroSt, e)
theorem cnt_back {bs : List UInt8} (pre rest : List UInt8) (n most : Int) {a : Int} (h0 : 0 ≤ n) (h1 : n ≤ most) (hm : most ≤ 1099511627776) (e : bs = pre ++ (numB n ++ rest)) (ha : a = pre.length) : cntR (bytesP bs) a 0 most = (n, ((pre ++ numB n).length : Int), 0) := by
 have h := numR_back (bs := bs) pre rest n (a := a) (by unfold r64; omega) e ha
 rw [cnt_eq, h]
 simp only
 rw [if_neg (by omega)]
def okPv (p : Pair) : Prop := p.key.size ≤ 16 ∧ p.value.size ≤ 64 ∧ r64 p.version
theorem lstN_back {bs : List UInt8} (pre rest : List UInt8) (ps : List Pair) {a : Int} (hp : ∀ p ∈ ps, okPv p) (e : bs = pre ++ ((ps.map prB1).flatten ++ rest)) (ha : a = pre.length) : ∀ n : Nat, n ≤ ps.length → lstN (bytesP bs) n a 0 = (ps.take n, ((pre ++ ((ps.take n).map prB1).flatten).length : Int), 0)
 | 0, _ => by simp [lstN, ha]
 | n + 1, hn => by
     have ih := lstN_back pre rest ps hp e ha n (by omega)
     have hn' : n < ps.length := by omega
     obtain ⟨k1, k2, k3⟩ := hp _ (List.getElem_mem hn')
     have hs : (ps.map prB1).flatten = ((ps.take n).map prB1).flatten ++ (prB1 (ps[n]'hn') ++ ((ps.drop (n + 1)).map prB1).flatten) := by
      have : ps = ps.take n ++ (ps[n]'hn' :: ps.drop (n + 1)) := by rw [← List.drop_eq_getElem_cons hn', List.take_append_drop]
      calc (ps.map prB1).flatten = ((ps.take n ++ (ps[n]'hn' :: ps.drop (n + 1))).map prB1).flatten := by rw [← this]
       _ = _ := by rw [List.map_append, List.flatten_append, List.map_cons, List.flatten_cons]
     rw [hs] at e
     simp only [prB1, List.append_assoc] at e
     have e1 := textR_backN (bs := bs) (pre ++ ((ps.take n).map prB1).flatten) _ (ps[n]'hn').key 16 (by omega) (by decide) (by rw [e]; simp only [prB1, List.append_assoc]; rfl) rfl
     have e2 := textR_backN (bs := bs) ((pre ++ ((ps.take n).map prB1).flatten) ++ textB (ps[n]'hn').key) _ (ps[n]'hn').value 64 (by omega) (by decide) (by rw [e]; simp only [prB1, List.append_assoc]; rfl) rfl
     have e3 := numR_back (bs := bs) (((pre ++ ((ps.take n).map prB1).flatten) ++ textB (ps[n]'hn').key) ++ textB (ps[n]'hn').value) _ (ps[n]'hn').version k3 (by rw [e]; simp only [prB1, List.append_assoc]; rfl) rfl
     unfold lstN
     simp only [ih, e1, e2, e3]
     rw [List.take_succ_eq_append_getElem hn', List.map_append, List.flatten_append]
     refine Prod.ext rfl (Prod.ext ?_ rfl)
     simp [prB1]
theorem lst_back {bs : List UInt8} (pre rest : List UInt8) (ps : List Pair) {a most : Int} (hl : (ps.length : Int) ≤ most) (hm : most ≤ 1000) (hp : ∀ p ∈ ps, okPv p) (e : bs = pre ++ (prB ps ++ rest)) (ha : a = pre.length) : lstR (bytesP bs) a 0 most = (ps, ((pre ++ prB ps).length : Int), 0) := by
 unfold prB at e
 rw [List.append_assoc] at e
 have e1 := cnt_back (bs := bs) pre _ (ps.length : Int) most (by omega) hl (by omega) e ha
 have e2 := lstN_back (bs := bs) (pre ++ numB ps.length) rest ps hp (by rw [e]; simp only [List.append_assoc]) rfl ps.length (Nat.le_refl _)
 unfold lstR
 simp only [e1]
 rw [show ((ps.length : Int)).toNat = ps.length by omega, e2, List.take_length]
 refine Prod.ext rfl (Prod.ext ?_ rfl)
 simp [prB]
def okOv (o : Owner) : Prop := r64 o.seq ∧ r64 o.reply.why ∧ o.reply.value.size ≤ 64 ∧ r64 o.reply.version ∧ (o.seq = 0 → o.reply = zeroRep) ∧ ∃ ps, o.reply.pairs = pairsX ps ∧ ps.length ≤ 8 ∧ ∀ p ∈ ps, okPv p
theorem ow_back {bs : List UInt8} (pre rest : List UInt8) (o : Owner) {a : Int} (h : okOv o) (e : bs = pre ++ (owB o ++ rest)) (ha : a = pre.length) : owR (bytesP bs) a 0 = (o, ((pre ++ owB o).length : Int), 0) := by
 obtain ⟨k1, k2, k3, k4, k5, ps, k6, k7, k8⟩ := h
 by_cases hz : o.seq = 0
 ·have ho : owB o = numB o.seq := by unfold owB; rw [decide_eq_true hz]; simp
  rw [ho] at e ⊢
  have e1 := numR_back (bs := bs) pre rest o.seq (a := a) k1 e ha
  unfold owR
  simp only [e1]
  rw [if_pos hz]
  refine Prod.ext ?_ rfl
  show (⟨o.seq, zeroRep⟩ : Owner) = o
  rw [← k5 hz]
 ·have ho : owB o = numB o.seq ++ (numB o.reply.why ++ ([if o.reply.found then 1 else 0] ++ (textB o.reply.value ++ (numB o.reply.version ++ prB ps)))) := by unfold owB; rw [decide_eq_false hz, k6, pairsOf_X]; rfl
  rw [ho] at e ⊢
  have E := e
  simp only [List.append_assoc] at E
  have e1 := numR_back (bs := bs) pre _ o.seq (a := a) k1 E ha
  have e2 := numR_back (bs := bs) (pre ++ numB o.seq) _ o.reply.why k2 (by rw [E]; simp only [List.append_assoc]; rfl) rfl
  have e3 := flagR_back (bs := bs) ((pre ++ numB o.seq) ++ numB o.reply.why) (textB o.reply.value ++ (numB o.reply.version ++ (prB ps ++ rest))) o.reply.found (by rw [E]; simp only [List.append_assoc]) rfl
  have e4 := textR_backN (bs := bs) (((pre ++ numB o.seq) ++ numB o.reply.why) ++ [if o.reply.found then 1 else 0]) (numB o.reply.version ++ (prB ps ++ rest)) o.reply.value 64 (by omega) (by decide) (by rw [E]; simp only [List.append_assoc]) rfl
  have e5 := numR_back (bs := bs) ((((pre ++ numB o.seq) ++ numB o.reply.why) ++ [if o.reply.found then 1 else 0]) ++ textB o.reply.value) (prB ps ++ rest) o.reply.version k4 (by rw [E]; simp only [List.append_assoc]) rfl
  have e6 := lst_back (bs := bs) (((((pre ++ numB o.seq) ++ numB o.reply.why) ++ [if o.reply.found then 1 else 0]) ++ textB o.reply.value) ++ numB o.reply.version) rest ps (most := 8) (by omega) (by decide) k8 (by rw [E]; simp only [List.append_assoc]) rfl
  unfold owR
  simp only [e1, e2, e3, e4, e5, e6]
  rw [if_neg hz]
  refine Prod.ext ?_ (Prod.ext ?_ rfl)
  ·obtain ⟨s, y, f, v, n, l⟩ := o
   simp only at k6 ⊢
   rw [k6]
  ·simp only [List.append_assoc]
theorem ows_back {bs : List UInt8} (pre rest : List UInt8) (os : List Owner) {a : Int} (hp : ∀ o ∈ os, okOv o) (e : bs = pre ++ ((os.map owB).flatten ++ rest)) (ha : a = pre.length) : ∀ n : Nat, n ≤ os.length → owsR (bytesP bs) n a 0 = (os.take n, ((pre ++ ((os.take n).map owB).flatten).length : Int), 0)
 | 0, _ => by simp [owsR, ha]
 | n + 1, hn => by
     have ih := ows_back pre rest os hp e ha n (by omega)
     have hn' : n < os.length := by omega
     have hs : (os.map owB).flatten = ((os.take n).map owB).flatten ++ (owB (os[n]'hn') ++ ((os.drop (n + 1)).map owB).flatten) := by
      have : os = os.take n ++ (os[n]'hn' :: os.drop (n + 1)) := by rw [← List.drop_eq_getElem_cons hn', List.take_append_drop]
      calc (os.map owB).flatten = ((os.take n ++ (os[n]'hn' :: os.drop (n + 1))).map owB).flatten := by rw [← this]
       _ = _ := by rw [List.map_append, List.flatten_append, List.map_cons, List.flatten_cons]
     rw [hs] at e
     simp only [List.append_assoc] at e
     have e1 := ow_back (bs := bs) (pre ++ ((os.take n).map owB).flatten) _ (os[n]'hn') (hp _ (List.getElem_mem hn')) (by rw [e]; simp only [List.append_assoc]; rfl) rfl
     unfold owsR
     simp only [ih, e1]
     rw [List.take_succ_eq_append_getElem hn', List.map_append, List.flatten_append]
     refine Prod.ext rfl (Prod.ext ?_ rfl)
     simp
theorem okOw.ov {k : Int} (hk : k ≤ 4611686018427387904) {o : Owner} (h : okOw k o) : okOv o := by
 obtain ⟨h1, h2, ⟨h3, h4, h5, h6, ps, h7, h8, h9⟩, h10⟩ := h
 refine ⟨by unfold r64; omega, by unfold r64; omega, h4, by unfold r64; omega, h10, ps, h7, h9, fun p hp => ?_⟩
 have := h8.2.2 p hp
 exact ⟨this.2.1, this.2.2.1, by have a := this.2.2.2.1; have b := this.2.2.2.2; unfold r64; omega⟩
def stB (ps : List Pair) (os : List Owner) : List UInt8 := prB ps ++ (os.map owB).flatten
theorem bytesSt_B {ps : List Pair} {os : List Owner} (hP : isP (pairsX ps)) (hO : isOwn (ownsD os)) (h8 : os.length = 8) (hr : rightSt (cellsS ps os) = true) : bytesSt (cellsS ps os) = bytesP (stB ps os) := by
 unfold bytesSt
 rw [hr, show prsS (cellsS ps os) = pairsX ps from rfl, show ownS (cellsS ps os) = ownsD os from own_mk hO, ownersOf_D h8 rfl]
 show owsX (prX [] (pairsX ps)) os = _
 unfold prX
 rw [pairsOf_X, List.nil_append, owsX_B]
 rfl
theorem getSt_back {k : Int} {ps : List Pair} {os : List Owner} (h : okSt k ps os) (hk : k ≤ 4611686018427387904) : getSt (bytesSt (cellsS ps os)) = (cellsS ps os, 0) := by
 rw [bytesSt_B h.1.isP h.own h.2.1 h.right]
 obtain ⟨bs, hbs⟩ : ∃ bs, bs = stB ps os := ⟨_, rfl⟩
 rw [← hbs]
 have e1 := lst_back (bs := bs) (a := 0) (most := 32) [] ((os.map owB).flatten) ps (by have := h.1.2.1; omega) (by decide) (fun p hp => by
  have := h.1.2.2 p hp
  exact ⟨this.2.1, this.2.2.1, by have a := this.2.2.2.1; have b := this.2.2.2.2; unfold r64; omega⟩) (by rw [hbs]; rfl) rfl
 have e2 := ows_back (bs := bs) ([] ++ prB ps) [] os (fun o ho => (h.2.2 o ho).ov hk) (by rw [hbs]; simp [stB]) rfl 8 (by have := h.2.1; omega)
 unfold getSt
 simp only [e1, e2]
 have h8 := h.2.1
 rw [List.take_of_length_le (by omega)]
 have he : endR (bytesP bs) ((([] ++ prB ps) ++ (os.map owB).flatten).length : Int) 0 = 0 := by
  unfold endR
  rw [bytesP_length, if_neg (by rw [hbs]; simp [stB])]
 rw [he, if_pos rfl, if_pos h.right]
end Go.Proofs.Ytadnpgkddgbhkaa
namespace Go.Proofs.Ytadnpgkddgbhkaa
open Go.RowKit Go.Maps
set_option linter.all false
set_option maxHeartbeats 8000000
def leftF (d : Int) : List Ev → Int → Bool
 | [], _ => false
 | e :: l, k => (decide (0 ≤ e.b) && decide (bitX d k = 0)) || leftF d l (k + 1)
def orX (d k : Int) : Int := bitsV IntKind.i64 (· ||| ·) d (IntKind.wrap .i64 (1 * 2 ^ (min k.toNat 64)))
noncomputable def fitR (s : List DV) (e : Ev) : Bool := decide (e.b < 0) || repliesX (applyS s e.c).2 e.r
inductive Lin (L : List Ev) : Int → List DV → Prop
 | done {d : Int} {s : List DV} : leftF d L 0 = false → Lin L d s
 | step {d : Int} {s : List DV} {k : Int} : 0 ≤ k → k < L.length → mayL L k d = true → fitR s (L.getD k.toNat default) = true → Lin L (orX d k) (applyS s (L.getD k.toNat default).c).1 → Lin L d s
def stOk (j : Int) (s : List DV) : Prop := ∃ ps os, s = cellsS ps os ∧ okSt j ps os
theorem stOk.is {j : Int} {s : List DV} (h : stOk j s) : isSt s := by
 obtain ⟨ps, os, rfl, h⟩ := h
 exact h.is
theorem stOk.app {j : Int} {s : List DV} (h : stOk j s) (h0 : 0 ≤ j) (h1 : j ≤ 4611686018427387904) (c : Cmd) : stOk (j + 1) (applyS s c).1 := by
 obtain ⟨ps, os, rfl, h⟩ := h
 obtain ⟨qs, rs, e, h2⟩ := apply_ok h h0 h1 c
 exact ⟨qs, rs, e, h2⟩
noncomputable def strS (s : List DV) : ByteArray := ⟨(bytesOf (bytesSt s)).toArray⟩
def Bad (L : List Ev) (G : MapF) : Prop := ∀ (d : Int) (b : ByteArray) (v : Value), G (keyV d b) = some v → ∀ j s, stOk j s → j ≤ 1000 → strS s = b → ¬ Lin L d s
theorem okSt.v {k : Int} {ps : List Pair} {os : List Owner} (h : okSt k ps os) (hk : k ≤ 4611686018427387904) : okV (cellsS ps os) := by
 refine ⟨?_, ?_⟩
 ·intro p hp
  rw [show prsS (cellsS ps os) = pairsX ps from rfl, pairsOf_X] at hp
  have := (h.1.2.2 p hp).2.2.2
  unfold r64
  omega
 ·intro o ho
  rw [show ownS (cellsS ps os) = ownsD os from own_mk h.own, ownersOf_D h.2.1 rfl] at ho
  obtain ⟨_, _, ⟨_, _, h5, h6, qs, h7, h8, _⟩, _⟩ := h.2.2 o ho
  refine ⟨by unfold r64; omega, ?_⟩
  rw [h7]
  intro p hp
  rw [pairsOf_X] at hp
  have := (h8.2.2 p hp).2.2.2
  unfold r64
  omega
theorem okSt.bytes {k : Int} {ps : List Pair} {os : List Owner} (h : okSt k ps os) (hk : k ≤ 4611686018427387904) : ∃ bs : List UInt8, bytesSt (cellsS ps os) = bytesP bs ∧ bs.length ≤ 40000 := by
 have hv := h.v hk
 have h1 : isPs (pairsX ps) := right_isPs h.1.isP h.1.right hv.1
 have h2 : ∀ o ∈ os, okBo o := fun o ho => by
  have hv2 := hv.2 o (by rw [show ownS (cellsS ps os) = ownsD os from own_mk h.own, ownersOf_D h.2.1 rfl]; exact ho)
  exact okO_bo ((h.2.2 o ho).right) ((h.2.2 o ho).2.2.1.isP) hv2.1 hv2.2
 have h3 := (isLn.nil.prs h1).ows h2
 have e : bytesSt (cellsS ps os) = owsX (prX [] (pairsX ps)) os := by
  unfold bytesSt
  rw [h.right, show prsS (cellsS ps os) = pairsX ps from rfl, show ownS (cellsS ps os) = ownsD os from own_mk h.own, ownersOf_D h.2.1 rfl]
  rfl
 rw [e]
 obtain ⟨bs, e2, h4⟩ := h3
 have := h.2.1
 exact ⟨bs, e2, by omega⟩
theorem stOk.v {j : Int} {s : List DV} (h : stOk j s) (hj : j ≤ 1000) : okV s := by
 obtain ⟨ps, os, rfl, h⟩ := h
 exact h.v (by omega)
theorem stOk.by {j : Int} {s : List DV} (h : stOk j s) (hj : j ≤ 1000) : ∃ bs : List UInt8, bytesSt s = bytesP bs ∧ bs.length ≤ 40000 := by
 obtain ⟨ps, os, rfl, h⟩ := h
 exact h.bytes (by omega)
theorem strS_inj {j k : Int} {s t : List DV} (h : stOk j s) (hj : j ≤ 1000) (h2 : stOk k t) (hk : k ≤ 1000) (e : strS s = strS t) : s = t := by
 obtain ⟨bs, e1, _⟩ := h.by hj
 obtain ⟨cs, e2, _⟩ := h2.by hk
 unfold strS at e
 rw [e1, e2, bytesOf_bytesP, bytesOf_bytesP] at e
 have e3 : bs = cs := by simpa using e
 obtain ⟨ps, os, rfl, h⟩ := h
 obtain ⟨qs, rs, rfl, h2⟩ := h2
 have q1 := getSt_back h (by omega)
 have q2 := getSt_back h2 (by omega)
 rw [e1, e3, ← e2, q2] at q1
 exact ((Prod.mk.inj q1).1).symm
theorem strS_size {j : Int} {s : List DV} (h : stOk j s) (hj : j ≤ 1000) : (strS s).size ≤ 40000 := by
 obtain ⟨bs, e1, h1⟩ := h.by hj
 unfold strS
 rw [e1, bytesOf_bytesP]
 simpa [ByteArray.size] using h1
theorem Bad.put {L : List Ev} {G : MapF} (h : Bad L G) {d j : Int} {s : List DV} (hs : stOk j s) (hj : j ≤ 1000) (hn : ¬ Lin L d s) (v : Value) : Bad L (putV G (keyV d (strS s)) v) := by
 intro d' b v' hg k t ht hk hb hl
 by_cases e : keyV d' b = keyV d (strS s)
 ·obtain ⟨rfl, rfl⟩ := keyV_inj e
  have := strS_inj ht hk hs hj hb
  subst this
  exact hn hl
 ·rw [putV_ne _ _ e] at hg
  exact h d' b v' hg k t ht hk hb hl
theorem bits_and {a b : Nat} (ha : a < 4096) (hb : b < 4096) : bitsV IntKind.i64 (· &&& ·) (a : Int) (b : Int) = ((a &&& b : Nat) : Int) := by
 have h1 : a &&& b ≤ a := Nat.and_le_left
 have e : (BitVec.ofInt IntKind.i64.bits (a : Int) &&& BitVec.ofInt IntKind.i64.bits (b : Int)).toNat = a &&& b := by
  rw [BitVec.toNat_and]
  simp only [BitVec.ofInt_natCast, BitVec.toNat_ofNat, IntKind.bits]
  rw [Nat.mod_eq_of_lt (by omega), Nat.mod_eq_of_lt (by omega)]
 unfold bitsV
 simp only
 rw [e]
 exact wrap_i64 (by unfold r64; omega)
theorem bits_or {a b : Nat} (ha : a < 4096) (hb : b < 4096) : bitsV IntKind.i64 (· ||| ·) (a : Int) (b : Int) = ((a ||| b : Nat) : Int) := by
 have h1 : a ||| b < 2 ^ 12 := Nat.or_lt_two_pow (by omega) (by omega)
 have e : (BitVec.ofInt IntKind.i64.bits (a : Int) ||| BitVec.ofInt IntKind.i64.bits (b : Int)).toNat = a ||| b := by
  rw [BitVec.toNat_or]
  simp only [BitVec.ofInt_natCast, BitVec.toNat_ofNat, IntKind.bits]
  rw [Nat.mod_eq_of_lt (by omega), Nat.mod_eq_of_lt (by omega)]
 unfold bitsV
 simp only
 rw [e]
 exact wrap_i64 (by unfold r64; omega)
theorem bit_nat {n : Nat} (hn : n < 4096) {k : Int} (h0 : 0 ≤ k) (h1 : k < 64) : bitX n k = if n.testBit k.toNat then 1 else 0 := by
 unfold bitX
 have hm : min k.toNat 64 = k.toNat := by omega
 have e : (n : Int).fdiv (2 ^ k.toNat) = ((n >>> k.toNat : Nat) : Int) := by
  rw [Nat.shiftRight_eq_div_pow]
  rw [Int.fdiv_eq_ediv_of_nonneg _ (by exact Int.le_of_lt (Int.pow_pos (by decide)))]
  simp
 rw [hm, e]
 have h2 : n >>> k.toNat ≤ n := by rw [Nat.shiftRight_eq_div_pow]; exact Nat.div_le_self _ _
 rw [show (1 : Int) = ((1 : Nat) : Int) from rfl, bits_and (by omega) (by omega)]
 rw [Nat.and_one_is_mod]
 simp only [Nat.testBit, Nat.one_and_eq_mod_two]
 rcases Nat.mod_two_eq_zero_or_one (n >>> k.toNat) with h | h <;> simp [h]
theorem or_nat {n : Nat} (hn : n < 4096) {k : Int} (h0 : 0 ≤ k) (h1 : k < 12) : orX n k = ((n ||| 2 ^ k.toNat : Nat) : Int) := by
 unfold orX
 have hm : min k.toNat 64 = k.toNat := by omega
 have hp : 2 ^ k.toNat < 4096 := by
  have : 2 ^ k.toNat ≤ 2 ^ 11 := Nat.pow_le_pow_right (by decide) (by omega)
  omega
 have e : (1 : Int) * 2 ^ k.toNat = ((2 ^ k.toNat : Nat) : Int) := by simp
 rw [hm, e]
 generalize 2 ^ k.toNat = q at hp ⊢
 rw [wrap_i64 (by unfold r64; omega), bits_or hn hp]
theorem or_lt {n : Nat} (hn : n < 4096) {k : Nat} (h1 : k < 12) : n ||| 2 ^ k < 4096 := by
 have hp : 2 ^ k < 2 ^ 12 := Nat.pow_lt_pow_right (by decide) h1
 exact Nat.or_lt_two_pow (n := 12) (by omega) hp
def remN (n : Nat) : Nat := ((List.range 12).filter fun j => !n.testBit j).length
theorem remN_or {n k : Nat} (h1 : k < 12) (h : n.testBit k = false) : remN (n ||| 2 ^ k) < remN n := by
 unfold remN
 have e : ∀ j, (!(n ||| 2 ^ k).testBit j) = ((!n.testBit j) && !decide (k = j)) := fun j => by
  rw [Nat.testBit_or, Nat.testBit_two_pow]
  cases n.testBit j <;> simp
 simp only [e]
 rw [← List.filter_filter]
 have hk : k ∈ (List.range 12).filter fun j => !n.testBit j := by simp [h1, h]
 have : ∀ (l : List Nat), k ∈ l → (l.filter fun j => !decide (k = j)).length < l.length := by
  intro l
  induction l with
  | nil => simp
  | cons a l ih =>
    intro hm
    by_cases hka : k = a
    ·subst hka
     simp only [List.filter_cons, decide_true, Bool.not_true, Bool.false_eq_true, if_false, List.length_cons]
     have := List.length_filter_le (fun j => !decide (k = j)) l
     omega
    ·have hm2 : k ∈ l := by
      rcases List.mem_cons.1 hm with h | h
      ·exact absurd h hka
      ·exact h
     have := ih hm2
     simp only [List.filter_cons, hka, decide_false, Bool.not_false, if_true, List.length_cons]
     omega
 have h9 := this _ hk
 rw [List.filter_filter] at h9 ⊢
 simpa [Bool.and_comm] using h9
end Go.Proofs.Ytadnpgkddgbhkaa
namespace Go.Proofs.Ytadnpgkddgbhkaa
open Go.RowKit Go.Maps
set_option linter.all false
set_option maxHeartbeats 8000000
def evsOf (xs : List (List PD)) : List Ev := xs.map fun
 | [.sc (.int _ a), .sc (.int _ b), .sc (.int _ k), .sc (.int _ c), .sc (.int _ q), .sc (.string s1), .sc (.string s2), .sc (.string s3), .sc (.string s4), .sc (.int _ w), .sc (.bool fd), .sc (.string vl), .sc (.int _ vr), .slc _ pr] => ⟨a, b, ⟨k, c, q, s1, s2, s3, s4⟩, ⟨w, fd, vl, vr, pr⟩⟩
 | _ => default
theorem evsOf_X (l : List Ev) : evsOf (evsX l) = l := by
 simp only [evsOf, evsX, List.map_map]
 conv => rhs; rw [← List.map_id l]
 rfl
def mayX (xs : List (List PD)) (i d : Int) : Bool := mayL (evsOf xs) i d
def inX (xs : List (List PD)) (i : Int) : Prop := isEv xs ∧ 0 ≤ i ∧ i < xs.length
structure FsHm where
 may : List (List PD) → Int → Int → Bool
 inX : List (List PD) → Int → Prop
def FsHm0 : FsHm where
 may := mayX
 inX := inX
def kb_may (F : FsHm) : FuncId × (List DV → Store → SV) := (64, fun args st => match args with
 | [.ref b ver o, .d (.sc (.int .i64 i)), .d (.sc (.int .i64 d))] => (match st[b]? with
   | some ⟨t, [.d (.slc 14 xs), .d (.sc m)], false, v, true⟩ => (bif (ver == 0) && (o == 0) && (v == 0) && (t == 99) then some ([F.inX xs i], .d (.sc (.bool (F.may xs i d))), st.set b (sB xs m)) else none)
   | _ => none)
 | _ => none)
theorem okb_may (args : List DV) (st : Store) (cs : List Prop) (r : DV) (st' : Store) (h : (kb_may FsHm0).2 args st = some (cs, r, st')) (hc : allP cs True) (K : DV → Store → Prop) (hk : K r st') : FnD Try.prog 64 args st K := by
 unfold kb_may at h
 simp only at h
 split at h
 ·split at h
  ·rename_i hb
   simp only [cond_eq_ite, Bool.and_eq_true, beq_iff_eq, Option.ite_none_right_eq_some] at h
   obtain ⟨⟨⟨⟨rfl, rfl⟩, rfl⟩, rfl⟩, h⟩ := h
   cases h
   obtain ⟨⟨⟨l, rfl, hl, _⟩, h0, h1⟩, _⟩ := hc
   rw [evsX_len] at h1
   refine FnD.one _ (FnD.mono (w_may (evsX l) _ l _ _ rfl hl h0 h1) ?_) hb rfl rfl rfl rfl hk
   rintro r st' ⟨rfl, rfl⟩
   refine ⟨?_, rfl⟩
   show _ = DV.d (.sc (.bool (mayL (evsOf (evsX l)) _ _)))
   rw [evsOf_X]
  ·cases h
 ·cases h
end Go.Proofs.Ytadnpgkddgbhkaa
