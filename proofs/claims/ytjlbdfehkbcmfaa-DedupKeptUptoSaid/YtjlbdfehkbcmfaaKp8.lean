/- Chapter 12: a reply's pairs that were noted, or told, may be turned later. No condition. -/
import Derived.Test.YtjlbdfehkbcmfaaKqZ
namespace Go.Proofs.Ytjlbdfehkbcmfaa
open Go.RowKit
set_option linter.all false
set_option maxHeartbeats 4000000
theorem cutS {α : Sort _} {X : Cps} {c : Code} {Q : Exit → SL → Store → Prop} {G : Prop} (I : α → Prop) (S : α → SL) (ST : α → Store) (pf : ∀ y, I y → X.st c Q (S y) (ST y)) (g : (∀ y, I y → X.st c Q (S y) (ST y)) → G) : G := g pf
theorem told_freeze2 {k : Nat} {s s' : SL} {st st' : Store} (b sz : Nat) (xs : List (List PD)) (bx : Box) (hb : st[b]? = some bx) (hl : bx.live = true) (hcells : bx.cells = rowsD xs) (hsz : ∀ x ∈ xs, x.length = sz)
    (hst : st' = fzSt b sz xs st) (hs : toldP (fzD b bx.ver sz xs) s s') : Told k s st s' st' := by
  subst hst
  intro E N a hc he hsl
  obtain ⟨E', e1, e2, e3, e4, e5, _⟩ := freeze_env b sz xs bx hb hl hcells hsz E hc he
  refine ⟨E', e1, e2, e3, ⟨hsl.size, fun i => ?_, hsl.defers⟩, fun F hF _ hx => Ext.trans hF hc.len hx e5⟩
  rcases toldP_get hs i with h | h
  · rw [h]
    exact e4 _ _ (hsl.rep i)
  · rw [h]
    trivial
/-- A function as a value, told as a closure that captured nothing. -/
theorem told_fn {k : Nat} {s s' : SL} {st : Store} (i : Nat) (f : FuncId) (h : getS s i = .d (.sc (.func (.func f) #[] #[]))) (h2 : toldP id (setS s i (.fn f [])) s') : Told k s st s' st := by
  refine Tells.trans (s' := getS (setS s i (.fn f []))) ?_ (told_less h2)
  intro E N a hc hst hs
  refine ⟨E, rfl, hst, hc, ⟨hs.size, fun j => ?_, hs.defers⟩, fun _ _ _ h => h⟩
  rw [getS_setS]
  split
  · rename_i e
    subst e
    have := hs.rep j
    rw [h] at this
    exact ⟨[], this, trivial⟩
  · exact hs.rep j
theorem note_at {cs : List DV} (h : isOwnU cs) {r : Reply} (hr : isP r.pairs) {x : Int} (hx : knownX x = true) {y : Int} (hy : knownX y = true) (seq : Int) : ownOf (noteU cs x seq r) (y - 1).toNat = if x = y then ⟨seq, r⟩ else ownOf (upCs cs) (y - 1).toNat := by
  obtain ⟨os, hos, hcs, hop⟩ := h
  have e1 : noteU cs x seq r = ownsD (os.set (x - 1).toNat ⟨seq, r⟩) := by
    have := noteX_D hos hcs x seq r
    rw [noteOs, hx] at this
    exact this
  simp only [knownX, Bool.and_eq_true, decide_eq_true_eq] at hx hy
  have hl : (y - 1).toNat < os.length := by omega
  have hl2 : (y - 1).toNat < (os.set (x - 1).toNat ⟨seq, r⟩).length := by rw [List.length_set]; exact hl
  rw [ownOf_D e1 _ hl2, ownOf_D hcs _ hl, List.getElem_set]
  by_cases e : x = y
  · subst e; simp
  · rw [if_neg e, if_neg (by omega)]
theorem plain_rows (L : List (List PD)) (n : Nat) (hn : n = L.length) (h : ∀ x ∈ L, x.length = 3) : ∃ ps : List PD, rowsD L = ps.map .d ∧ ps.length = n * 3 := by
  refine ⟨L.flatten, rfl, ?_⟩
  have := rows3_len h
  rw [rowsD, List.length_map] at this
  rw [this, hn]

set_option maxRecDepth 100000 in
theorem v_kept (r : Reply) (client : Int) (hp0 : isP r.pairs) (hp1 : r64 client) : FnV Try.prog 4 [r.D, intD client] (boolD true) := by
  obtain ⟨r_why, r_found, r_value, r_version, r_pairs⟩ := r
  replace hp0 : isP r_pairs := hp0
  obtain ⟨GFsW, hGFsW⟩ : ∃ F, F = FsW0 := ⟨_, rfl⟩
  obtain ⟨GFsD, hGFsD⟩ : ∃ F, F = FsD0 := ⟨_, rfl⟩
  obtain ⟨GFsR, hGFsR⟩ : ∃ F, F = FsR0 := ⟨_, rfl⟩
  have hH : SoundK Try.prog [kn_within3 GFsW, kn_noteU GFsD, kn_replies GFsR, kn_runs GFsD] := by subst hGFsW hGFsD hGFsR; exact orK_ok ok_within3 (orK_ok ok_noteU (orK_ok ok_replies (orK_ok ok_runs noK_ok)))
  refine FnD_cbv (T := fun _ => tabY [1008, 1036, 1012, 1056, 5004] [3, 7, 9, 10, 11, 12, 13, 14, 15, 16]) (H := fun _ => [kn_within3 GFsW, kn_noteU GFsD, kn_replies GFsR, kn_runs GFsD]) (tabY_ok _ _) hH follows_mixed Try.func4 rfl Try.ntmps4 (by simp) fun A X W hA hX hW => ?_
  cbv
  have hH2 : SoundK Try.prog [kn_within3 GFsW, kn_noteU GFsD, kn_replies GFsR, kn_runs GFsD, kn_lookU GFsD] := by subst hGFsW hGFsD hGFsR; exact orK_ok ok_within3 (orK_ok ok_noteU (orK_ok ok_replies (orK_ok ok_runs (orK_ok ok_lookU noK_ok))))
  apply cutS (X := X) (fun ys : List (List PD) => (isP ys ∧ ys.length ≤ 20) ∧ ys = r_pairs.take 20) (fun ys => [(1, .d (.sc (.int .i64 client))), (2, .ref 0 0 0)]) (fun ys => [⟨25, [.d (.sc (.int .i64 r_why)), .d (.sc (.bool r_found)), .d (.sc (.string r_value)), .d (.sc (.int .i64 r_version)), .d (.slc 3 ys)], false, 0, true⟩])
  rotate_left
  · intro key
    have ht : isP (r_pairs.take 20) ∧ (r_pairs.take 20).length ≤ 20 := by
      obtain ⟨ps, rfl, hl⟩ := hp0
      exact ⟨⟨ps.take 20, by simp [pairsX, List.map_take], by rw [List.length_take]; omega⟩, by rw [List.length_take]; omega⟩
    refine part (fun h => ?_) (fun h => ?_) <;> try cbv
    · refine And.intro ?_ ?_
      · subst hA; simp only [A0, nc, decide_eq_true_eq] at *; replace h : (20 : Int) < r_pairs.length := h; exact ⟨by omega, by omega, by omega⟩
      · refine pauseL hX (s' := _) (st' := _) ?_ (key (r_pairs.take 20) ⟨ht, rfl⟩)
        subst hA
        exact told_eq (by simp [A0]) (by simp [toldP, getS])
    · have hl : ¬ (20 : Int) < r_pairs.length := by subst hA; simp only [A0, nc, decide_eq_false_iff_not] at h; exact h
      have e : r_pairs.take 20 = r_pairs := List.take_of_length_le (by omega)
      rw [e] at ht
      refine pauseL hX (s' := _) (st' := _) ?_ (key r_pairs ⟨ht, e.symm⟩)
      exact told_less (by simp [toldP, getS])
  rintro ys ⟨⟨hys, h20⟩, hyt⟩
  cases ys with
  | nil =>
    obtain ⟨c, hc⟩ : ∃ c, c = GFsW.within3 client 1 8 := ⟨_, rfl⟩
    have hc8 : 1 ≤ c ∧ c ≤ 8 := by subst hc hGFsW; exact within18 client
    have q1 : GFsW.r64 client := by subst hGFsW; exact hp1
    have q2 : GFsW.span3 1 8 := by subst hGFsW; exact ⟨by decide, by decide, by decide⟩
    cbv at hc
    cbv at q1
    cbv at q2
    with_reducible refine goL (T := fun _ => tabY [1008, 1036, 1012, 1056, 5004] []) (H := fun _ => [kn_within3 GFsW, kn_noteU GFsD, kn_replies GFsR, kn_runs GFsD]) (tabY_ok _ _) hH follows_mixed hA hX ?_
    cbv
    simp only [← hc]
    refine And.intro q1 (And.intro q2 ?_)
    repeat' (refine And.intro ?_ ?_)
    rotate_right 1
    · obtain ⟨v, hv⟩ : ∃ z, z = A.nxt 0 := ⟨_, rfl⟩
      refine pauseL hX (s' := [(2, .ref 0 0 0), (5, .d (.sc (.int .i64 c))), (6, .ref 1 0 0), (7, .ref 2 0 0)]) (st' := [⟨25, [.d (.sc (.int .i64 r_why)), .d (.sc (.bool r_found)), .d (.sc (.string r_value)), .d (.sc (.int .i64 r_version)), .d (.slc 3 [])], false, 0, true⟩, ⟨28, [.d (.sc (.int .i64 0)), .d (.sc (.int .i64 0)), .d (.sc (.bool false)), .d (.sc (.string none8)), .d (.sc (.int .i64 0)), .d (.sc (.slice none 0 0)), .d (.sc (.int .i64 0)), .d (.sc (.int .i64 0)), .d (.sc (.bool false)), .d (.sc (.string none8)), .d (.sc (.int .i64 0)), .d (.sc (.slice none 0 0)), .d (.sc (.int .i64 0)), .d (.sc (.int .i64 0)), .d (.sc (.bool false)), .d (.sc (.string none8)), .d (.sc (.int .i64 0)), .d (.sc (.slice none 0 0)), .d (.sc (.int .i64 0)), .d (.sc (.int .i64 0)), .d (.sc (.bool false)), .d (.sc (.string none8)), .d (.sc (.int .i64 0)), .d (.sc (.slice none 0 0)), .d (.sc (.int .i64 0)), .d (.sc (.int .i64 0)), .d (.sc (.bool false)), .d (.sc (.string none8)), .d (.sc (.int .i64 0)), .d (.sc (.slice none 0 0)), .d (.sc (.int .i64 0)), .d (.sc (.int .i64 0)), .d (.sc (.bool false)), .d (.sc (.string none8)), .d (.sc (.int .i64 0)), .d (.sc (.slice none 0 0)), .d (.sc (.int .i64 0)), .d (.sc (.int .i64 0)), .d (.sc (.bool false)), .d (.sc (.string none8)), .d (.sc (.int .i64 0)), .d (.sc (.slice none 0 0)), .d (.sc (.int .i64 0)), .d (.sc (.int .i64 0)), .d (.sc (.bool false)), .d (.sc (.string none8)), .d (.sc (.int .i64 0)), .d (.sc (.slice none 0 0))], false, 0, true⟩, ⟨25, [.d (.sc (.int .i64 r_why)), .d (.sc (.bool r_found)), .d (.sc (.string r_value)), .d (.sc (.int .i64 r_version)), .view 3 3 v 0 0], false, 0, true⟩, ⟨35, [], true, v, true⟩]) (told_eq (by subst hA; rw [hv]; rfl) (by simp [toldP, getS])) ?_
      refine pauseL hX (s' := [(2, .ref 0 0 0), (5, .d (.sc (.int .i64 c))), (6, .ref 1 0 0), (7, .ref 2 0 0)]) (st' := [⟨25, [.d (.sc (.int .i64 r_why)), .d (.sc (.bool r_found)), .d (.sc (.string r_value)), .d (.sc (.int .i64 r_version)), .d (.slc 3 [])], false, 0, true⟩, ⟨28, [.d (.sc (.int .i64 0)), .d (.sc (.int .i64 0)), .d (.sc (.bool false)), .d (.sc (.string none8)), .d (.sc (.int .i64 0)), .d (.sc (.slice none 0 0)), .d (.sc (.int .i64 0)), .d (.sc (.int .i64 0)), .d (.sc (.bool false)), .d (.sc (.string none8)), .d (.sc (.int .i64 0)), .d (.sc (.slice none 0 0)), .d (.sc (.int .i64 0)), .d (.sc (.int .i64 0)), .d (.sc (.bool false)), .d (.sc (.string none8)), .d (.sc (.int .i64 0)), .d (.sc (.slice none 0 0)), .d (.sc (.int .i64 0)), .d (.sc (.int .i64 0)), .d (.sc (.bool false)), .d (.sc (.string none8)), .d (.sc (.int .i64 0)), .d (.sc (.slice none 0 0)), .d (.sc (.int .i64 0)), .d (.sc (.int .i64 0)), .d (.sc (.bool false)), .d (.sc (.string none8)), .d (.sc (.int .i64 0)), .d (.sc (.slice none 0 0)), .d (.sc (.int .i64 0)), .d (.sc (.int .i64 0)), .d (.sc (.bool false)), .d (.sc (.string none8)), .d (.sc (.int .i64 0)), .d (.sc (.slice none 0 0)), .d (.sc (.int .i64 0)), .d (.sc (.int .i64 0)), .d (.sc (.bool false)), .d (.sc (.string none8)), .d (.sc (.int .i64 0)), .d (.sc (.slice none 0 0)), .d (.sc (.int .i64 0)), .d (.sc (.int .i64 0)), .d (.sc (.bool false)), .d (.sc (.string none8)), .d (.sc (.int .i64 0)), .d (.sc (.slice none 0 0))], false, 0, true⟩, ⟨25, [.d (.sc (.int .i64 r_why)), .d (.sc (.bool r_found)), .d (.sc (.string r_value)), .d (.sc (.int .i64 r_version)), .d (.slc 3 [])], false, 0, true⟩, ⟨35, [], false, v + 1, false⟩]) (told_freeze2 3 3 [] ⟨35, [], true, v, true⟩ rfl rfl rfl (by simp) (by simp [fzSt, fzBox, fzL, fzD]) (by simp [toldP, getS, fzD])) ?_
      obtain ⟨m, hm⟩ : ∃ z, z = GFsD.noteU [.d (.sc (.int .i64 0)), .d (.sc (.int .i64 0)), .d (.sc (.bool false)), .d (.sc (.string none8)), .d (.sc (.int .i64 0)), .d (.sc (.slice none 0 0)), .d (.sc (.int .i64 0)), .d (.sc (.int .i64 0)), .d (.sc (.bool false)), .d (.sc (.string none8)), .d (.sc (.int .i64 0)), .d (.sc (.slice none 0 0)), .d (.sc (.int .i64 0)), .d (.sc (.int .i64 0)), .d (.sc (.bool false)), .d (.sc (.string none8)), .d (.sc (.int .i64 0)), .d (.sc (.slice none 0 0)), .d (.sc (.int .i64 0)), .d (.sc (.int .i64 0)), .d (.sc (.bool false)), .d (.sc (.string none8)), .d (.sc (.int .i64 0)), .d (.sc (.slice none 0 0)), .d (.sc (.int .i64 0)), .d (.sc (.int .i64 0)), .d (.sc (.bool false)), .d (.sc (.string none8)), .d (.sc (.int .i64 0)), .d (.sc (.slice none 0 0)), .d (.sc (.int .i64 0)), .d (.sc (.int .i64 0)), .d (.sc (.bool false)), .d (.sc (.string none8)), .d (.sc (.int .i64 0)), .d (.sc (.slice none 0 0)), .d (.sc (.int .i64 0)), .d (.sc (.int .i64 0)), .d (.sc (.bool false)), .d (.sc (.string none8)), .d (.sc (.int .i64 0)), .d (.sc (.slice none 0 0)), .d (.sc (.int .i64 0)), .d (.sc (.int .i64 0)), .d (.sc (.bool false)), .d (.sc (.string none8)), .d (.sc (.int .i64 0)), .d (.sc (.slice none 0 0))] c 1 ⟨r_why, r_found, r_value, r_version, []⟩ := ⟨_, rfl⟩
      have hk : knownX c = true := by simp only [knownX, Bool.and_eq_true, decide_eq_true_eq]; omega
      have hmo : isOwn m := by subst hm hGFsD; exact isOwnU.note zOwn isP.nil c 1
      have hml : m.length = 48 := hmo.len
      have hma : ownOf m (c - 1).toNat = ⟨1, ⟨r_why, r_found, r_value, r_version, []⟩⟩ := by
        subst hGFsD
        rw [hm]
        show ownOf (noteU Z48 c 1 ⟨r_why, r_found, r_value, r_version, []⟩) (c - 1).toNat = _
        rw [note_at zOwn isP.nil hk hk, if_pos rfl]
      have hup := own_up hmo
      have hr7 : GFsD.isOwn [.d (.sc (.int .i64 0)), .d (.sc (.int .i64 0)), .d (.sc (.bool false)), .d (.sc (.string none8)), .d (.sc (.int .i64 0)), .d (.sc (.slice none 0 0)), .d (.sc (.int .i64 0)), .d (.sc (.int .i64 0)), .d (.sc (.bool false)), .d (.sc (.string none8)), .d (.sc (.int .i64 0)), .d (.sc (.slice none 0 0)), .d (.sc (.int .i64 0)), .d (.sc (.int .i64 0)), .d (.sc (.bool false)), .d (.sc (.string none8)), .d (.sc (.int .i64 0)), .d (.sc (.slice none 0 0)), .d (.sc (.int .i64 0)), .d (.sc (.int .i64 0)), .d (.sc (.bool false)), .d (.sc (.string none8)), .d (.sc (.int .i64 0)), .d (.sc (.slice none 0 0)), .d (.sc (.int .i64 0)), .d (.sc (.int .i64 0)), .d (.sc (.bool false)), .d (.sc (.string none8)), .d (.sc (.int .i64 0)), .d (.sc (.slice none 0 0)), .d (.sc (.int .i64 0)), .d (.sc (.int .i64 0)), .d (.sc (.bool false)), .d (.sc (.string none8)), .d (.sc (.int .i64 0)), .d (.sc (.slice none 0 0)), .d (.sc (.int .i64 0)), .d (.sc (.int .i64 0)), .d (.sc (.bool false)), .d (.sc (.string none8)), .d (.sc (.int .i64 0)), .d (.sc (.slice none 0 0)), .d (.sc (.int .i64 0)), .d (.sc (.int .i64 0)), .d (.sc (.bool false)), .d (.sc (.string none8)), .d (.sc (.int .i64 0)), .d (.sc (.slice none 0 0))] := by subst hGFsD; exact zOwn
      have hr8 : GFsD.isOwn m := by subst hGFsD; exact hmo.u
      have hr9 : GFsD.isP [] := by subst hGFsD; exact isP.nil
      have hlk : GFsD.lookU m c 1 = (2, ⟨r_why, r_found, r_value, r_version, []⟩) := by
        subst hGFsD
        show lookU m c 1 = _
        unfold lookU lookX
        rw [hup, hk, hma]
        rfl
      cbv at hm
      cbv at hr7
      cbv at hr8
      cbv at hr9
      cbv at hlk
      with_reducible refine goL (T := fun _ => tabY [1008, 1036, 1012, 1056, 5004] []) (H := fun _ => [kn_within3 GFsW, kn_noteU GFsD, kn_replies GFsR, kn_runs GFsD, kn_lookU GFsD]) (tabY_ok _ _) hH2 follows_mixed hA hX ?_
      cbv
      try simp only [← hm]
      try cbv
      repeat' (refine And.intro ?_ ?_)
      rotate_right 1
      · refine pauseL hX (s' := [(2, .ref 0 0 0), (5, .d (.sc (.int .i64 c))), (7, .ref 2 0 0), (8, .ref 4 0 0), (9, .fn 12 [])]) (told_fn 9 _ rfl (by simp [toldP, getS, setS])) ?_
        with_reducible refine goL (T := fun _ => tabY [1008, 1036, 1012, 1056, 5004] []) (H := fun _ => []) (tabY_ok _ _) noK_ok follows_mixed hA hX ?_
        cbv
        refine callL hX (FnV.use v_turn0 rfl ?_)
        cbv
        refine pauseL hX (s' := [(2, .ref 0 0 0), (5, .d (.sc (.int .i64 c))), (8, .ref 4 0 0), (9, .fn 12 [])]) (told_less (by simp [toldP, getS])) ?_
        with_reducible refine goL (T := fun _ => tabY [1008, 1036, 1012, 1056, 5004] []) (H := fun _ => [kn_within3 GFsW, kn_noteU GFsD, kn_replies GFsR, kn_runs GFsD, kn_lookU GFsD]) (tabY_ok _ _) hH2 follows_mixed hA hX ?_
        cbv
        try simp only [hlk]
        try cbv
        repeat' (refine And.intro ?_ ?_)
        rotate_right 1
        · refine pauseL hX (s' := [(2, .ref 0 0 0), (5, .d (.sc (.int .i64 c))), (8, .ref 4 0 0), (9, .fn 12 []), (11, .ref 5 0 0)]) (told_less (by simp [toldP, getS])) ?_
          with_reducible refine goL (T := fun _ => tabY [1008, 1036, 1012, 1056, 5004] []) (H := fun _ => []) (tabY_ok _ _) noK_ok follows_mixed hA hX ?_
          cbv
          refine callL hX (FnV.use v_turn0 rfl ?_)
          cbv
          refine pauseL hX (s' := [(2, .ref 0 0 0), (5, .d (.sc (.int .i64 c))), (8, .ref 4 0 0), (9, .fn 12 [])]) (told_less (by simp [toldP, getS])) ?_
          obtain ⟨c2, hc2⟩ : ∃ z, z = A.bin .add .i64 (A.bin .rem .i64 c 8) 1 := ⟨_, rfl⟩
          have hc2e : c2 = c % 8 + 1 := by
            subst hA
            rw [hc2]
            simp only [A0]
            have h1 : c.tmod 8 = c % 8 := Int.tmod_eq_emod_of_nonneg (by omega)
            rw [h1, wrap_i64 (by unfold r64; omega)]
          obtain ⟨nn, hnn⟩ : ∃ z, z = GFsD.noteU m c2 1 ⟨0, false, none8, 0, []⟩ := ⟨_, rfl⟩
          have hmn : isOwn nn := by subst hnn hGFsD; exact isOwnU.note hmo.u isP.nil c2 1
          have hnl2 : nn.length = 48 := hmn.len
          have hk2 : knownX c2 = true := by simp only [knownX, Bool.and_eq_true, decide_eq_true_eq]; omega
          have hna : ownOf nn (c - 1).toNat = ⟨1, ⟨r_why, r_found, r_value, r_version, []⟩⟩ := by
            subst hGFsD
            rw [hnn]
            show ownOf (noteU m c2 1 ⟨0, false, none8, 0, []⟩) (c - 1).toNat = _
            rw [note_at hmo.u isP.nil hk2 hk, if_neg (by omega), hup, hma]
          have hl1 : GFsD.lookU nn c 1 = (2, ⟨r_why, r_found, r_value, r_version, []⟩) := by
            subst hGFsD
            show lookU nn c 1 = _
            unfold lookU lookX
            rw [own_up hmn, hk, hna]
            rfl
          have hr10 : GFsD.isOwn nn := by subst hGFsD; exact hmn.u
          cbv at hc2
          cbv at hnn
          cbv at hl1
          cbv at hr10
          with_reducible refine goL (T := fun _ => tabY [1008, 1036, 1012, 1056, 5004] []) (H := fun _ => [kn_within3 GFsW, kn_noteU GFsD, kn_replies GFsR, kn_runs GFsD]) (tabY_ok _ _) hH follows_mixed hA hX ?_
          cbv
          try simp only [← hc2]
          try cbv
          try simp only [← hnn]
          repeat' (refine And.intro ?_ ?_)
          rotate_right 1
          · refine pauseL hX (s' := [(2, .ref 0 0 0), (5, .d (.sc (.int .i64 c))), (9, .fn 12 []), (12, .ref 6 0 0)]) (told_less (by simp [toldP, getS])) ?_
            with_reducible refine goL (T := fun _ => tabY [1008, 1036, 1012, 1056, 5004] []) (H := fun _ => [kn_within3 GFsW, kn_noteU GFsD, kn_replies GFsR, kn_runs GFsD, kn_lookU GFsD]) (tabY_ok _ _) hH2 follows_mixed hA hX ?_
            cbv
            try simp only [hl1]
            try cbv
            repeat' (refine And.intro ?_ ?_)
            rotate_right 1
            · refine pauseL hX (s' := [(2, .ref 0 0 0), (5, .d (.sc (.int .i64 c))), (9, .fn 12 []), (12, .ref 6 0 0), (14, .ref 7 0 0)]) (told_less (by simp [toldP, getS])) ?_
              with_reducible refine goL (T := fun _ => tabY [1008, 1036, 1012, 1056, 5004] []) (H := fun _ => []) (tabY_ok _ _) noK_ok follows_mixed hA hX ?_
              cbv
              refine callL hX (FnV.use v_turn0 rfl ?_)
              cbv
              refine pauseL hX (s' := [(2, .ref 0 0 0), (5, .d (.sc (.int .i64 c))), (12, .ref 6 0 0)]) (told_less (by simp [toldP, getS])) ?_
              with_reducible refine goL (T := fun _ => tabY [1008, 1036, 1012, 1056, 5004] []) (H := fun _ => [kn_within3 GFsW, kn_noteU GFsD, kn_replies GFsR, kn_runs GFsD, kn_lookU GFsD]) (tabY_ok _ _) hH2 follows_mixed hA hX ?_
              cbv
              try simp only [hl1]
              try cbv
              repeat' (refine And.intro ?_ ?_)
              rotate_right 1
              · refine pauseL hX (s' := [(2, .ref 0 0 0), (16, .ref 8 0 0)]) (told_less (by simp [toldP, getS])) ?_
                have he : GFsR.replies ⟨r_why, r_found, r_value, r_version, []⟩ ⟨r_why, r_found, r_value, r_version, []⟩ = true := by subst hGFsR; exact repliesX_true rfl
                have hr11 : GFsR.isP [] := by subst hGFsR; exact isP.nil
                have hru : GFsD.runs = true := by subst hGFsD; rfl
                have hco : A.cond true true false = true := by subst hA; rfl
                cbv at he
                cbv at hr11
                cbv at hru
                cbv at hco
                with_reducible refine goL (T := fun _ => tabY [1008, 1036, 1012, 1056, 5004] []) (H := fun _ => [kn_within3 GFsW, kn_noteU GFsD, kn_replies GFsR, kn_runs GFsD]) (tabY_ok _ _) hH follows_mixed hA hX ?_
                cbv
                repeat' first
                  | (simp only [he, hru, hco]; cbv)
                  | (refine And.intro ?_ ?_)
                all_goals try subst hA hX hW
                all_goals first
                  | rfl
                  | exact hr11
                  | (intro _; exact hr11)
                  | (intro _; trivial)
                  | (intro hq; exact hq)
                  | exact ret_v rfl rfl
                  | fail
              all_goals first
                | exact hr7
                | exact hr10
                | exact hr9
                | (subst hA; first | rfl | exact hml | exact hnl2 | (show (8 : Int) ≠ 0; decide) | (simp [A0]; done))
                | fail
            all_goals first
              | exact hr7
              | exact hr10
              | exact hr9
              | (subst hA; first | rfl | exact hml | exact hnl2 | (show (8 : Int) ≠ 0; decide) | (simp [A0]; done))
              | fail
          all_goals first
            | exact hr7
            | exact hr8
            | exact hr9
            | (subst hA; first | rfl | exact hml | exact hnl2 | (show (8 : Int) ≠ 0; decide) | (simp [A0]; done))
            | fail
        all_goals first
          | exact hr7
          | exact hr8
          | exact hr9
          | (subst hA; first | rfl | exact hml | (show (8 : Int) ≠ 0; decide) | (simp [A0]; done))
          | fail
      all_goals first
        | exact hr7
        | exact hr8
        | exact hr9
        | (subst hA; first | rfl | exact hml | (show (8 : Int) ≠ 0; decide) | (simp [A0]; done))
        | fail
    all_goals first
      | (subst hA; first | rfl | (simp [A0]; done))
      | fail
  | cons x xs =>
    obtain ⟨c, hc⟩ : ∃ c, c = GFsW.within3 client 1 8 := ⟨_, rfl⟩
    have hc8 : 1 ≤ c ∧ c ≤ 8 := by subst hc hGFsW; exact within18 client
    have q1 : GFsW.r64 client := by subst hGFsW; exact hp1
    have q2 : GFsW.span3 1 8 := by subst hGFsW; exact ⟨by decide, by decide, by decide⟩
    cbv at hc
    cbv at q1
    cbv at q2
    with_reducible refine goL (T := fun _ => tabY [1008, 1036, 1012, 1056, 5004] []) (H := fun _ => [kn_within3 GFsW, kn_noteU GFsD, kn_replies GFsR, kn_runs GFsD]) (tabY_ok _ _) hH follows_mixed hA hX ?_
    cbv
    simp only [← hc]
    refine And.intro q1 (And.intro q2 ?_)
    refine And.intro ?_ (And.intro ?_ (And.intro ?_ ?_))
    rotate_right 1
    · obtain ⟨L, hL⟩ : ∃ L, L = x :: xs := ⟨_, rfl⟩
      obtain ⟨cs, hcs⟩ : ∃ z, z = A.app [] (A.rows (x :: xs)) := ⟨_, rfl⟩
      obtain ⟨v, hv⟩ : ∃ z, z = A.nxt 0 := ⟨_, rfl⟩
      obtain ⟨n, hn⟩ : ∃ z, z = A.pl 0 (A.lenN (x :: xs)) := ⟨_, rfl⟩
      refine pauseL hX (s' := [(2, .ref 0 0 0), (5, .d (.sc (.int .i64 c))), (6, .ref 1 0 0), (7, .ref 2 0 0)]) (st' := [⟨25, [.d (.sc (.int .i64 r_why)), .d (.sc (.bool r_found)), .d (.sc (.string r_value)), .d (.sc (.int .i64 r_version)), .d (.slc 3 L)], false, 0, true⟩, ⟨28, [.d (.sc (.int .i64 0)), .d (.sc (.int .i64 0)), .d (.sc (.bool false)), .d (.sc (.string none8)), .d (.sc (.int .i64 0)), .d (.sc (.slice none 0 0)), .d (.sc (.int .i64 0)), .d (.sc (.int .i64 0)), .d (.sc (.bool false)), .d (.sc (.string none8)), .d (.sc (.int .i64 0)), .d (.sc (.slice none 0 0)), .d (.sc (.int .i64 0)), .d (.sc (.int .i64 0)), .d (.sc (.bool false)), .d (.sc (.string none8)), .d (.sc (.int .i64 0)), .d (.sc (.slice none 0 0)), .d (.sc (.int .i64 0)), .d (.sc (.int .i64 0)), .d (.sc (.bool false)), .d (.sc (.string none8)), .d (.sc (.int .i64 0)), .d (.sc (.slice none 0 0)), .d (.sc (.int .i64 0)), .d (.sc (.int .i64 0)), .d (.sc (.bool false)), .d (.sc (.string none8)), .d (.sc (.int .i64 0)), .d (.sc (.slice none 0 0)), .d (.sc (.int .i64 0)), .d (.sc (.int .i64 0)), .d (.sc (.bool false)), .d (.sc (.string none8)), .d (.sc (.int .i64 0)), .d (.sc (.slice none 0 0)), .d (.sc (.int .i64 0)), .d (.sc (.int .i64 0)), .d (.sc (.bool false)), .d (.sc (.string none8)), .d (.sc (.int .i64 0)), .d (.sc (.slice none 0 0)), .d (.sc (.int .i64 0)), .d (.sc (.int .i64 0)), .d (.sc (.bool false)), .d (.sc (.string none8)), .d (.sc (.int .i64 0)), .d (.sc (.slice none 0 0))], false, 0, true⟩, ⟨25, [.d (.sc (.int .i64 r_why)), .d (.sc (.bool r_found)), .d (.sc (.string r_value)), .d (.sc (.int .i64 r_version)), .view 3 3 v 0 n], false, 0, true⟩, ⟨35, cs, true, v, true⟩]) (told_eq (by rw [hL, hcs, hv, hn]) (by simp [toldP, getS])) ?_
      have hnl : n = L.length := by subst hA; rw [hn, hL]; exact Nat.zero_add _
      have hcl : cs = rowsD L := by subst hA; rw [hcs, hL]; rfl
      rw [← hL] at hyt hys h20
      have hL0 : L ≠ [] := by rw [hL]; simp
      have hnn : 0 < n ∧ n ≤ 4194304 := by
        have := List.length_pos_iff.2 hL0
        rw [hnl]; omega
      clear hcs hv hn hL
      with_reducible refine goL (T := fun _ => tabY [1008, 1036, 1012, 1056, 5004] []) (H := fun _ => []) (tabY_ok _ _) noK_ok follows_mixed hA hX ?_
      cbv
      refine callL hX (noteKeep c hc8 r_why r_found r_value r_version cs v n L hys hcl hnl hnn 3 rfl fun m hm => ?_)
      cbv
      have hk : knownX c = true := by simp only [knownX, Bool.and_eq_true, decide_eq_true_eq]; omega
      have hmo : isOwn m := by subst hm; exact isOwnU.note zOwn hys c 1
      have hml : m.length = 48 := hmo.len
      have hma : ownOf m (c - 1).toNat = ⟨1, ⟨r_why, r_found, r_value, r_version, L⟩⟩ := by
        rw [hm, note_at zOwn hys hk hk, if_pos rfl]
      have hup := own_up hmo
      obtain ⟨os, hos, hoc, hop⟩ := id hmo
      repeat' (refine And.intro ?_ ?_)
      rotate_right 1
      · refine pauseL hX (s' := [(2, .ref 0 0 0), (5, .d (.sc (.int .i64 c))), (7, .ref 2 0 0), (8, .ref 4 0 0), (9, .fn 12 [])]) (told_fn 9 _ rfl (by simp [toldP, getS, setS])) ?_
        with_reducible refine goL (T := fun _ => tabY [1008, 1036, 1012, 1056, 5004] []) (H := fun _ => []) (tabY_ok _ _) noK_ok follows_mixed hA hX ?_
        cbv
        have hpl : ∃ ps : List PD, cs = ps.map .d ∧ ps.length = n * 3 := by rw [hcl]; exact plain_rows L n hnl hys.sz3
        refine callL hX (turnAt cs v n hnn.2 hpl 3 rfl fun ds hds => ?_)
        cbv
        refine pauseL hX (s' := [(2, .ref 0 0 0), (5, .d (.sc (.int .i64 c))), (8, .ref 4 0 0), (9, .fn 12 [])]) (told_less (by simp [toldP, getS])) ?_
        clear hds hpl hcl hnl hnn
        with_reducible refine goL (T := fun _ => tabY [1008, 1036, 1012, 1056, 5004] []) (H := fun _ => []) (tabY_ok _ _) noK_ok follows_mixed hA hX ?_
        cbv
        repeat' (refine And.intro ?_ ?_)
        rotate_right 1
        · refine callL hX (lookNew m c 1 os hos hoc hop hk _ hma rfl L hL0 rfl fun v2 ds2 m2 hds2 hm2 => ?_)
          cbv
          refine pauseL hX (s' := [(2, .ref 0 0 0), (5, .d (.sc (.int .i64 c))), (8, .ref 4 0 0), (9, .fn 12 []), (11, .ref 6 0 0)]) (told_less (by simp [toldP, getS])) ?_
          with_reducible refine goL (T := fun _ => tabY [1008, 1036, 1012, 1056, 5004] []) (H := fun _ => []) (tabY_ok _ _) noK_ok follows_mixed hA hX ?_
          cbv
          have hpl2 : ∃ ps : List PD, ds2 = ps.map .d ∧ ps.length = m2 * 3 := by rw [hds2]; exact plain_rows L m2 hm2 hys.sz3
          refine callL hX (turnAt ds2 v2 m2 (by rw [hm2]; omega) hpl2 5 rfl fun ds3 hds3 => ?_)
          cbv
          refine pauseL hX (s' := [(2, .ref 0 0 0), (5, .d (.sc (.int .i64 c))), (8, .ref 4 0 0), (9, .fn 12 [])]) (told_less (by simp [toldP, getS])) ?_
          obtain ⟨c2, hc2⟩ : ∃ z, z = A.bin .add .i64 (A.bin .rem .i64 c 8) 1 := ⟨_, rfl⟩
          have hc2e : c2 = c % 8 + 1 := by
            subst hA
            rw [hc2]
            simp only [A0]
            have h1 : c.tmod 8 = c % 8 := Int.tmod_eq_emod_of_nonneg (by omega)
            rw [h1, wrap_i64 (by unfold r64; omega)]
          obtain ⟨nn, hnn⟩ : ∃ z, z = GFsD.noteU m c2 1 ⟨0, false, none8, 0, []⟩ := ⟨_, rfl⟩
          have hr8 : GFsD.isOwn m := by subst hGFsD; exact hmo.u
          have hr9 : GFsD.isP [] := by subst hGFsD; exact isP.nil
          cbv at hc2
          cbv at hnn
          cbv at hr8
          cbv at hr9
          with_reducible refine goL (T := fun _ => tabY [1008, 1036, 1012, 1056, 5004] []) (H := fun _ => [kn_within3 GFsW, kn_noteU GFsD, kn_replies GFsR, kn_runs GFsD]) (tabY_ok _ _) hH follows_mixed hA hX ?_
          cbv
          try simp only [← hc2]
          try cbv
          try simp only [← hnn]
          have hmn : isOwn nn := by subst hnn hGFsD; exact isOwnU.note hmo.u isP.nil c2 1
          have hnl2 : nn.length = 48 := hmn.len
          have hk2 : knownX c2 = true := by simp only [knownX, Bool.and_eq_true, decide_eq_true_eq]; omega
          have hna : ownOf nn (c - 1).toNat = ⟨1, ⟨r_why, r_found, r_value, r_version, L⟩⟩ := by
            subst hGFsD
            rw [hnn]
            show ownOf (noteU m c2 1 ⟨0, false, none8, 0, []⟩) (c - 1).toNat = _
            rw [note_at hmo.u isP.nil hk2 hk, if_neg (by omega), hup, hma]
          obtain ⟨os2, hos2, hoc2, hop2⟩ := id hmn
          repeat' (refine And.intro ?_ ?_)
          rotate_right 1
          · refine pauseL hX (s' := [(2, .ref 0 0 0), (5, .d (.sc (.int .i64 c))), (9, .fn 12 []), (12, .ref 7 0 0)]) (told_less (by simp [toldP, getS])) ?_
            with_reducible refine goL (T := fun _ => tabY [1008, 1036, 1012, 1056, 5004] []) (H := fun _ => []) (tabY_ok _ _) noK_ok follows_mixed hA hX ?_
            cbv
            repeat' (refine And.intro ?_ ?_)
            rotate_right 1
            · refine callL hX (lookNew nn c 1 os2 hos2 hoc2 hop2 hk _ hna rfl L hL0 rfl fun v4 ds4 m4 hds4 hm4 => ?_)
              cbv
              refine pauseL hX (s' := [(2, .ref 0 0 0), (5, .d (.sc (.int .i64 c))), (9, .fn 12 []), (12, .ref 7 0 0), (14, .ref 9 0 0)]) (told_less (by simp [toldP, getS])) ?_
              with_reducible refine goL (T := fun _ => tabY [1008, 1036, 1012, 1056, 5004] []) (H := fun _ => []) (tabY_ok _ _) noK_ok follows_mixed hA hX ?_
              cbv
              have hpl4 : ∃ ps : List PD, ds4 = ps.map .d ∧ ps.length = m4 * 3 := by rw [hds4]; exact plain_rows L m4 hm4 hys.sz3
              refine callL hX (turnAt ds4 v4 m4 (by rw [hm4]; omega) hpl4 8 rfl fun ds5 hds5 => ?_)
              cbv
              refine pauseL hX (s' := [(2, .ref 0 0 0), (5, .d (.sc (.int .i64 c))), (12, .ref 7 0 0)]) (told_less (by simp [toldP, getS])) ?_
              have hlk : lookU nn c 1 = (2, ⟨r_why, r_found, r_value, r_version, L⟩) := by
                unfold lookU lookX
                rw [own_up hmn, hk, hna]
                rfl
              have hl1 : GFsD.lookU nn c 1 = (2, ⟨r_why, r_found, r_value, r_version, L⟩) := by subst hGFsD; exact hlk
              have hr10 : GFsD.isOwn nn := by subst hGFsD; exact hmn.u
              cbv at hl1
              cbv at hr10
              with_reducible refine goL (T := fun _ => tabY [1008, 1036, 1012, 1056, 5004] []) (H := fun _ => [kn_within3 GFsW, kn_noteU GFsD, kn_replies GFsR, kn_runs GFsD, kn_lookU GFsD]) (tabY_ok _ _) hH2 follows_mixed hA hX ?_
              cbv
              try simp only [hl1]
              try cbv
              repeat' (refine And.intro ?_ ?_)
              rotate_right 1
              · refine pauseL hX (s' := [(2, .ref 0 0 0), (16, .ref 10 0 0)]) (told_less (by simp [toldP, getS])) ?_
                have he : GFsR.replies ⟨r_why, r_found, r_value, r_version, L⟩ ⟨r_why, r_found, r_value, r_version, L⟩ = true := by subst hGFsR; exact repliesX_true rfl
                have hr11 : GFsR.isP L := by subst hGFsR; exact hys
                have hru : GFsD.runs = true := by subst hGFsD; rfl
                have hco : A.cond true true false = true := by subst hA; rfl
                cbv at he
                cbv at hr11
                cbv at hru
                cbv at hco
                with_reducible refine goL (T := fun _ => tabY [1008, 1036, 1012, 1056, 5004] []) (H := fun _ => [kn_within3 GFsW, kn_noteU GFsD, kn_replies GFsR, kn_runs GFsD]) (tabY_ok _ _) hH follows_mixed hA hX ?_
                cbv
                repeat' first
                  | (simp only [he, hru, hco]; cbv)
                  | (refine And.intro ?_ ?_)
                all_goals try subst hA hX hW
                all_goals first
                  | rfl
                  | exact hr11
                  | (intro _; exact hr11)
                  | (intro _; trivial)
                  | (intro hq; exact hq)
                  | exact ret_v rfl rfl
                  | fail
              all_goals first
                | exact hr10
                | (subst hA; first | rfl | exact hnl2)
                | fail
            all_goals first
              | (subst hA; first | rfl | exact hnl2)
              | fail
          all_goals first
            | exact hr8
            | exact hr9
            | (subst hA; first | rfl | exact hml | exact hnl2 | (show (8 : Int) ≠ 0; decide))
            | fail
        all_goals first
            | (subst hA; first | rfl | exact hml)
            | fail
      all_goals first
        | (subst hA; first | rfl | exact hml)
        | fail
    all_goals first
        | (subst hA; first | rfl | decide)
        | (subst hA; show _ ∧ _; simp only [A0]; exact ⟨by omega, by omega⟩)
        | fail

end Go.Proofs.Ytjlbdfehkbcmfaa
