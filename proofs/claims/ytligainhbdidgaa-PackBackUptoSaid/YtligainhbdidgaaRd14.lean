/- PackBack. No condition. -/
import Derived.Test.YtligainhbdidgaaRd13
namespace Go.Proofs.Ytligainhbdidgaa
open Go.RowKit
set_option linter.all false


/-- A closure of one plain argument, over two boxes that it leaves as they are. -/
theorem FnD.cap2 {P : Program} {f : FuncId} {x : DV} {bx cx : Box} {res : DV} {st : Store} {K : DV → Store → Prop} (b c : Nat) (hbc : b ≠ c) (h : FnD P f [x, .ref 0 0 0, .ref 1 0 0] [bx, cx] fun r st' => r = res ∧ st' = [bx, cx]) (hb : st[b]? = some bx) (hcx : st[c]? = some cx)
    (ha : closedD 0 x = true) (hr : closedD 0 res = true) (h1 : closedL 0 bx.cells = true) (h3 : closedL 0 cx.cells = true) (hk : K res st) : FnD P f [x, .ref b 0 0, .ref c 0 0] st K := by
  have hlt : b < st.length := (List.getElem?_eq_some_iff.1 hb).1
  have hltc : c < st.length := (List.getElem?_eq_some_iff.1 hcx).1
  have e : ∀ bx : Box, closedL 0 bx.cells = true → Box.ren (place [b, c] st.length) bx = bx := fun bx hb => by
    unfold Box.ren
    have := renL_pure (place [b, c] st.length) bx.cells hb
    rw [renL_eq] at this
    rw [this]
  refine FnD.at (args' := [x, .ref 0 0 0, .ref 1 0 0]) h [b, c] (by simp [hlt, hltc, hbc, closedL, closedD, closedD_mono (Nat.zero_le 2) _ ha]) ?_ (by simp [renL, renD, place, renD_pure _ _ ha]) ?_
  · intro k r bx0 hk hs
    rcases k with _ | _ | k
    · simp at hk hs
      subst hk; subst hs
      exact ⟨by rw [e _ h1]; exact hb, closedL_mono (Nat.zero_le _) _ h1⟩
    · simp at hk hs
      subst hk; subst hs
      exact ⟨by rw [e _ h3]; exact hcx, closedL_mono (Nat.zero_le _) _ h3⟩
    · simp at hk
  · rintro r0 stc ⟨rfl, rfl⟩ _
    rw [renD_pure _ _ hr]
    have e2 : mergeL st [b, c] ([bx, cx].map (Box.ren (place [b, c] st.length))) = st := by
      apply List.ext_getElem?
      intro i
      have hd : (List.map (Box.ren (place [b, c] st.length)) [bx, cx]).drop [b, c].length = [] := by simp
      rw [mergeL, hd, List.append_nil]
      simp only [List.map_cons, List.map_nil, e _ h1, e _ h3, List.getElem?_mapIdx]
      by_cases hi : b = i
      · subst hi
        have : ([b, c] : List Nat).idxOf? b = some 0 := by simp [List.idxOf?, List.findIdx?_cons]
        simp [this, hb]
      · by_cases hj : c = i
        · subst hj
          have : ([b, c] : List Nat).idxOf? c = some 1 := by simp [List.idxOf?, List.findIdx?_cons, hbc]
          simp [this, hcx]
        · have : ([b, c] : List Nat).idxOf? i = none := by
            rw [List.idxOf?_eq_none_iff]
            simp only [List.mem_cons, List.not_mem_nil, or_false, not_or]
            exact ⟨fun h => hi h.symm, fun h => hj h.symm⟩
          simp [this]
    rw [e2]
    exact hk
theorem told_ups {k : Nat} {s s' : SL} {st : Store} (h : ∀ i, UpD (getS s i) (getS s' i) ∨ getS s' i = .any) : Told k s st s' st := by
  intro E N a hc hst hs
  refine ⟨E, rfl, hst, hc, ⟨hs.size, fun i => ?_, hs.defers⟩, fun _ _ _ h => h⟩
  rcases h i with h | h
  · exact UpD.rep h (hs.rep i)
  · rw [h]; trivial
/-- A call with a slice of one's own, which is settled by it. -/
theorem callFz {P : Program} {N : Nat} {X : Cps} (hX : X = X0 P N) {B : KnB} (hB : SoundB P B) {f : FuncId} {args : List DV} {st : Store} {K : DV → Store → Prop} (b sz : Nat) (xs : List (List PD)) (args' : List DV) (st' : Store) {bx : Box} (hb : st[b]? = some bx) (hl : bx.live = true)
    (hc : bx.cells = rowsD xs) (hsz : ∀ x ∈ xs, x.length = sz) (ha : args.map (fzD b bx.ver sz xs) = args') (hs : fzSt b sz xs st = st') (h : bothB K (findB B f args' st')) : X.fn f args st K := by
  refine callL hX (FnD.freeze b sz xs bx hb hl hc hsz ?_)
  rw [ha, hs]
  have := callB (X := X0 P N) rfl hB h
  exact this
def toldUP (s : SL) : SL → Prop
  | [] => True
  | (i, d) :: l => (UpD (getS s i) d ∨ d = .any) ∧ toldUP s l
theorem toldUP_get {s : SL} : ∀ {l : SL}, toldUP s l → ∀ i, UpD (getS s i) (getS l i) ∨ getS l i = .any
  | [], _, i => .inr rfl
  | (j, d) :: l, h, i => by
      by_cases hi : i = j
      · subst hi
        simpa [getS] using h.1
      · have := toldUP_get h.2 i
        have e : getS ((j, d) :: l) i = getS l i := by
          have e0 : (i == j) = false := by simp [hi]
          simp only [getS, e0]
        rw [e]
        exact this
/-- Nothing is told as a settled slice without elements. -/
theorem told_up {k : Nat} {s s' : SL} {st : Store} (h : toldUP s s') : Told k s st s' st := told_ups (toldUP_get h)
def bOk (xs ls : List (List PD)) (n : Int) : Bool := (backF xs (ls.take n.toNat) (true, 0, 0)).1 && decide ((backF xs (ls.take n.toNat) (true, 0, 0)).2.2 = 0)
def bEnd (xs ls : List (List PD)) (n : Int) : Int := endR xs (backF xs (ls.take n.toNat) (true, 0, 0)).2.1 (backF xs (ls.take n.toNat) (true, 0, 0)).2.2
def bPre (xs ls : List (List PD)) (n : Int) : Prop := isB xs ∧ isIt ls ∧ 0 ≤ n ∧ n ≤ ls.length ∧ n ≤ 30
theorem it_rows {ls : List (List PD)} (h : isIt ls) {k : Nat} : ∀ r ∈ ls.take k, Row4 r := fun r hr => h.2 r (List.mem_of_mem_take hr)
theorem b_whole {ls ms : List (List PD)} {m : List UInt8} {i : Int} (h : isIt ls) (hm : ms = bytesP m) : bOk (bytesP (wB (ls.take i.toNat)) ++ ms) ls i = true ∧ bEnd (bytesP (wB (ls.take i.toNat)) ++ ms) ls i = if 0 < ms.length then 5 else 0 := by
  have := back_whole (ls.take i.toNat) m (it_rows h)
  subst hm
  rw [bytesP_append]
  unfold bOk bEnd
  rw [this]
  refine ⟨by simp, ?_⟩
  unfold endR
  simp only [true_and, bytesP_length, List.length_append]
  split <;> split <;> first
    | rfl
    | omega
theorem b_cut {ls : List (List PD)} {i : Int} {k : Nat} (h : isIt ls) (hk : k ≤ (wB (ls.take i.toNat)).length) : bEnd ((bytesP (wB (ls.take i.toNat))).take k) ls i = 0 ↔ k = (wB (ls.take i.toNat)).length := by
  have := back_cut (ls.take i.toNat) k (it_rows h) hk
  unfold bEnd
  rw [show (bytesP (wB (ls.take i.toNat))).take k = bytesP ((wB (ls.take i.toNat)).take k) by simp [bytesP, List.map_take]]
  exact this
theorem within3_range (c : Int) (n : Nat) : 0 ≤ within3 c 0 n ∧ within3 c 0 n ≤ n := by
  unfold within3
  have h1 := Int.emod_nonneg c (show ((n : Int) - 0 + 1) ≠ 0 by omega)
  have h2 := Int.emod_lt_of_pos c (show (0 : Int) < (n : Int) - 0 + 1 by omega)
  omega
theorem b_end {ls ws : List (List PD)} {c i : Int} (h : isIt ls) (hws : ws = bytesP (wB (ls.take i.toNat))) :
    decide (bEnd (List.take ((within3 c 0 (ws.length : Int)).toNat - Int.toNat 0) (List.drop (Int.toNat 0) ws)) ls i = 0) = decide (within3 c 0 (ws.length : Int) = (ws.length : Int)) := by
  have hr := within3_range c ws.length
  have hl : ws.length = (wB (ls.take i.toNat)).length := by rw [hws, bytesP_length]
  have hb := b_cut (i := i) (k := (within3 c 0 (ws.length : Int)).toNat) h (by omega)
  rw [show (within3 c 0 (ws.length : Int)).toNat - Int.toNat 0 = (within3 c 0 (ws.length : Int)).toNat by simp, show Int.toNat 0 = 0 from rfl, List.drop_zero]
  rw [← hws] at hb
  rw [decide_eq_decide, hb]
  omega
theorem isB_take {xs : List (List PD)} (h : isB xs) (k : Nat) : isB (xs.take k) := by
  obtain ⟨bs, rfl, hb⟩ := h
  exact ⟨bs.take k, by simp [bytesP, List.map_take], by rw [List.length_take]; omega⟩
theorem w_isB (ls : List (List PD)) (i : Int) (h : i ≤ 30) (h0 : 0 ≤ i) : (wB (ls.take i.toNat)).length ≤ 3300 := by
  have := wB_len (ls.take i.toNat)
  rw [List.length_take] at this
  omega

structure FsV where
  bok : List (List PD) → List (List PD) → Int → Bool
  bend : List (List PD) → List (List PD) → Int → Int
  bpre : List (List PD) → List (List PD) → Int → Prop
def FsV0 : FsV where
  bok := bOk
  bend := bEnd
  bpre := bPre
def kb_back (F : FsV) : FuncId × (List DV → Store → SV) := (71, fun args st => match args with
  | [.d (.slc 1 xs), .ref b u o, .ref c v p] => (match st[b]?, st[c]? with
    | some ⟨t1, [.d (.sc (.int .i64 n))], false, w1, true⟩, some ⟨t2, [.d (.slc 4 ls)], false, w2, true⟩ => (bif (t1 == 3) && (t2 == 70) && (w1 == 0) && (w2 == 0) && (u == 0) && (o == 0) && (v == 0) && (p == 0) && !(b == c) then some ([F.bpre xs ls n], .tup [.d (.sc (.bool (F.bok xs ls n))), .d (.sc (.int .i64 (F.bend xs ls n)))], st) else none)
    | _, _ => none)
  | _ => none)
theorem okb_back (args : List DV) (st : Store) (cs : List Prop) (r : DV) (st' : Store) (h : (kb_back FsV0).2 args st = some (cs, r, st')) (hc : allP cs True) (K : DV → Store → Prop) (hk : K r st') : FnD Try.prog 71 args st K := by
  unfold kb_back at h
  simp only at h
  split at h
  · split at h
    · rename_i hb hb2
      simp only [cond_eq_ite, Bool.and_eq_true, beq_iff_eq, Option.ite_none_right_eq_some] at h
      obtain ⟨⟨⟨⟨⟨⟨⟨⟨⟨rfl, rfl⟩, rfl⟩, rfl⟩, rfl⟩, rfl⟩, rfl⟩, rfl⟩, hne⟩, h⟩ := h
      cases h
      obtain ⟨p0, p1, p2, p3, p4⟩ := hc.1
      exact FnD.cap2 _ _ (by simpa using hne) (v_back1 _ _ _ p0 p1 p2 p3 p4) hb hb2 rfl rfl rfl rfl hk
    · cases h
  · cases h

set_option maxRecDepth 100000 in
set_option maxHeartbeats 8000000 in
theorem v_packback (ls ms : List (List PD)) (c : Int) (hp0 : isIt ls) (hp1 : isB ms) (hp2 : r64 c) : FnV Try.prog 19 [.d (.slc 4 ls), .d (.slc 1 ms), intD c] (boolD true) := by
  obtain ⟨GFsQ, hFsQ⟩ : ∃ F, F = FsQ0 := ⟨_, rfl⟩
  obtain ⟨GFsW, hFsW⟩ : ∃ F, F = FsW0 := ⟨_, rfl⟩
  obtain ⟨GFsT, hFsT⟩ : ∃ F, F = FsT0 := ⟨_, rfl⟩
  obtain ⟨GFsV, hFsV⟩ : ∃ F, F = FsV0 := ⟨_, rfl⟩
  have hH : SoundK Try.prog [kn_within3 GFsQ, kn_put GFsW, kn_runs3 GFsT] := by subst hFsQ hFsW hFsT hFsV; exact orK_ok ok_within3 (orK_ok ok_put (orK_ok ok_runs3 noK_ok))
  have hB : SoundB Try.prog [kb_back GFsV] := by subst hFsQ hFsW hFsT hFsV; exact orB_ok okb_back noB_ok
  refine FnD_cbv (T := fun _ => tabY [30] []) (H := fun _ => [kn_within3 GFsQ, kn_put GFsW, kn_runs3 GFsT]) (tabY_ok _ _) hH follows_mixed Try.func19 rfl Try.ntmps19 (by simp) fun A X W hA hX hW => ?_
  cbv
  refine loopL (T := fun _ => tabY [30] []) (H := fun _ => [kn_within3 GFsQ, kn_put GFsW, kn_runs3 GFsT]) (tabY_ok _ _) hH follows_mixed hA hX (fun x : Int × List (List PD) => (0 ≤ x.1 ∧ x.1 ≤ 30) ∧ x.1 ≤ ls.length ∧ x.2 = bytesP (wB (ls.take x.1.toNat)))
    (fun x => [(1, .d (.slc 1 ms)), (2, .d (.sc (.int .i64 c))), (3, .ref 0 0 0), (7, .d (.slc 1 x.2)), (8, .ref 1 0 0), (9, .d (.sc (.int .i64 x.1)))]) (fun x => [⟨70, [.d (.slc 4 ls)], false, 0, true⟩, ⟨3, [.d (.sc (.int .i64 x.1))], false, 0, true⟩])
    (fun x => 30 - x.1.toNat) (0, []) ?_ ?_ ?_
  · exact ⟨⟨by omega, by omega⟩, by omega, by simp [wB, bytesP]⟩
  · subst hA
    exact told_up (by simp [toldUP, UpD, getS, A0])
  rintro R ⟨i, ws⟩ hR ⟨hi, hil, hws⟩
  cbv
  repeat' first
    | (refine part (fun h => ?_) (fun h => ?_) <;> try cbv)
    | (refine And.intro ?_ ?_)
  all_goals try
    have hgt := ‹A.cmp BinOp.gtr (A.len ms) 50 = true›
    obtain ⟨ys, hys⟩ : ∃ ys, ys = ws ++ A.sub ms 0 50 := ⟨_, rfl⟩
    refine callFz hX hB 2 1 ys [.d (.slc 1 ys), .ref 1 0 0, .ref 0 0 0] [⟨70, [.d (.slc 4 ls)], false, 0, true⟩, ⟨3, [.d (.sc (.int .i64 i))], false, 0, true⟩, ⟨5, [], false, A.nxt (A.nxt 0) + 1, false⟩] rfl rfl (by subst hA; simp only [A0, List.nil_append, hys, rowsD_append]) ?_ (by subst hA; simp [fzD, A0, hys]; done) rfl ?_
    rotate_left
    cbv
    rotate_left
  all_goals try
    have hgt := ‹A.cmp BinOp.gtr (A.len ms) 50 = false›
    obtain ⟨ys, hys⟩ : ∃ ys, ys = ws ++ ms := ⟨_, rfl⟩
    refine callFz hX hB 2 1 ys [.d (.slc 1 ys), .ref 1 0 0, .ref 0 0 0] [⟨70, [.d (.slc 4 ls)], false, 0, true⟩, ⟨3, [.d (.sc (.int .i64 i))], false, 0, true⟩, ⟨5, [], false, A.nxt (A.nxt 0) + 1, false⟩] rfl rfl (by subst hA; simp only [A0, List.nil_append, hys, rowsD_append]) ?_ (by subst hA; simp [fzD, A0, hys]; done) rfl ?_
    rotate_left
    cbv
    rotate_left

  repeat' first
    | (refine part (fun h => ?_) (fun h => ?_) <;> try cbv)
    | (refine And.intro ?_ ?_)
    | (with_reducible refine callB hX hB ?_) <;> cbv
  all_goals try replace hi : 0 ≤ i ∧ i ≤ 30 := hi
  all_goals try replace hil : i ≤ ls.length := hil
  all_goals try replace hws : ws = bytesP (wB (ls.take i.toNat)) := hws
  all_goals try subst hR
  all_goals subst hA hX hW hFsQ hFsW hFsT hFsV
  all_goals clear hH hB
  all_goals simp only [A0, FsQ0, FsW0, FsT0, FsV0, decide_eq_true_eq, decide_eq_false_iff_not, Bool.not_eq_true', Bool.not_eq_false'] at *
  all_goals obtain ⟨m, hm, hmb⟩ := id hp1
  all_goals have hml : ms.length = m.length := by rw [hm, bytesP_length]
  all_goals try have hwb := w_isB ls i hi.2 hi.1
  all_goals try have hwl : ws.length = (wB (ls.take i.toNat)).length := by rw [hws, bytesP_length]
  all_goals try
    have hz := ‹(bif decide (i < (ls.length : Int)) then decide (i < 30) else false) = true›
    have hlt : i < ls.length ∧ i < 30 := by simpa using hz
    obtain ⟨k, n, s, f, hrow, hk, hn, hs⟩ := hp0.row hi.1 hlt.1
    have hput : putX ws (within3 k 1 3) n (cutS s) f = bytesP (wB (ls.take (i + 1).toNat)) := by rw [hws, putX_itB, wB_step hi.1 hlt.1, hrow]
    simp only [hrow, List.map_cons, List.map_nil, Nat.zero_add, List.getElem?_cons_zero, List.getElem?_cons_succ] at *
  all_goals have ei : IntKind.wrap .i64 (i + 1) = i + 1 := wrap_i64 (by unfold r64; omega)
  all_goals try have hwB : isB ws := ⟨_, hws, by omega⟩
  all_goals first
    | assumption
    | omega
    | (simp; done)
    | (intros; first | assumption | trivial | (simp_all; done))
    | (show ByteArray.size _ ≤ 4194304; rw [ByteArray.size_extract]; omega)
    | (show ByteArray.size _ ≤ 4194304; omega)
    | (refine ⟨by omega, by omega, by omega⟩)
    | (rw [hys, hws, hm]; intro x hx; simp only [bytesP, List.mem_append, List.mem_map] at hx; rcases hx with ⟨_, _, rfl⟩ | ⟨_, _, rfl⟩ <;> rfl)
    | (simp [hws, rowsB_length, bytesP_length]; done)
    | (simp only [List.length_take, List.length_drop]; omega)
    | (have := within3_range c ws.length; refine ⟨by omega, this.1, this.2⟩)
    | (have h0 : Int.toNat 0 = 0 := rfl
       rw [h0, List.drop_zero, Nat.sub_zero]
       exact ⟨isB_take hwB _, hp0, hi.1, hil, hi.2⟩)
    | (have hx : isB ys := by
         rw [hys, hws, hm]
         first
           | exact ⟨wB (ls.take i.toNat) ++ m, by rw [bytesP_append], by rw [List.length_append]; omega⟩
           | exact ⟨wB (ls.take i.toNat) ++ m.take 50, by rw [← bytesP_append]; simp [bytesP, List.map_take], by rw [List.length_append, List.length_take]; omega⟩
       first
         | exact ⟨hx, hp0, hi.1, hil, hi.2⟩
         | (obtain ⟨q, hq, _⟩ := hx
            rw [hq]
            exact bytesP_sz q))
    | (refine ret_v ?_ rfl
       rw [b_end hp0 hws]
       simp [boolD]
       done)
    | (exfalso
       have hq := b_whole (i := i) hp0 hm
       rw [← hws, ← hys] at hq
       first
         | (have hc := ‹(bif !bOk ys ls i then true else !decide (bEnd ys ls i = 0)) = true›
            rw [hq.1, hq.2, if_neg (by omega)] at hc
            simp at hc
            done)
         | (have hc := ‹(bif !bOk ys ls i then true else !decide (bEnd ys ls i = 5)) = true›
            rw [hq.1, hq.2, if_pos (by omega)] at hc
            simp at hc
            done))
    | (exfalso
       have h50 : List.take (Int.toNat 50 - Int.toNat 0) (List.drop (Int.toNat 0) ms) = bytesP (m.take 50) := by rw [hm]; simp [bytesP, List.map_take]
       have hq := b_whole (i := i) hp0 h50
       rw [← hws, ← hys] at hq
       first
         | (have hc := ‹(bif !bOk ys ls i then true else !decide (bEnd ys ls i = 0)) = true›
            rw [hq.1, hq.2, if_neg (by omega)] at hc
            simp at hc
            done)
         | (have hc := ‹(bif !bOk ys ls i then true else !decide (bEnd ys ls i = 5)) = true›
            rw [hq.1, hq.2, if_pos (by omega)] at hc
            simp at hc
            done))
    | (have hcut : cutS s = s := if_neg h
       rw [hcut] at hput
       refine ⟨(i + 1, bytesP (wB (ls.take (i + 1).toNat))), ⟨(by show 0 ≤ i + 1 ∧ i + 1 ≤ 30; omega), (by show i + 1 ≤ ls.length; omega), rfl⟩, (by show 30 - (i + 1).toNat < 30 - i.toNat; omega), told_keep [0, 1] rfl ?_ ?_⟩
       · simp [keepSt, pullBox, pullL, pullD, ei]
         done
       · simp [toldP, getS, pullD, List.idxOf?, List.findIdx?_cons, ei, hput]
         done)
    | (have hcut : cutS s = s.extract 0 100 := if_pos h
       rw [hcut] at hput
       refine ⟨(i + 1, bytesP (wB (ls.take (i + 1).toNat))), ⟨(by show 0 ≤ i + 1 ∧ i + 1 ≤ 30; omega), (by show i + 1 ≤ ls.length; omega), rfl⟩, (by show 30 - (i + 1).toNat < 30 - i.toNat; omega), told_keep [0, 1] rfl ?_ ?_⟩
       · simp [keepSt, pullBox, pullL, pullD, ei]
         done
       · simp [toldP, getS, pullD, List.idxOf?, List.findIdx?_cons, ei, hput]
         done)

end Go.Proofs.Ytligainhbdidgaa
