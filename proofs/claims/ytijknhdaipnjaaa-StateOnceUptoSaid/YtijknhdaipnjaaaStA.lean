/- A client's number changes the pairs once at most: the law over plain data. No condition but sizes. -/
import Derived.Test.YtijknhdaipnjaaaSp2
import Derived.Test.YtijknhdaipnjaaaSt9
import Derived.Test.YtijknhdaipnjaaaAm41
namespace Go.Proofs.Ytijknhdaipnjaaa
open Go.RowKit
set_option linter.all false
set_option maxHeartbeats 4000000
def instR (p : Int × Int) : List PD := [.sc (.int .i64 p.1), .sc (.int .i64 p.2)]
def instsX (D : List (Int × Int)) : List (List PD) := D.map instR
abbrev OnV := Option ((List DV × Nat × Nat) × (List DV × Nat × Nat))
def onS (x0 : List (List PD)) (i : Int) : OnV → SL
  | none => [(0, .d (.slc 7 x0)), (3, .ref 0 0 0), (4, .d (.sc (.slice none 0 0))), (5, .d (.sc (.slice none 0 0))), (6, .d (.sc (.int .i64 i)))]
  | some ((_, v1, m1), (_, v2, m2)) => [(0, .d (.slc 7 x0)), (3, .ref 0 0 0), (4, .view 2 1 v1 0 m1), (5, .view 5 2 v2 0 m2), (6, .d (.sc (.int .i64 i)))]
def onT (xq : List (List PD)) (cs : List DV) : OnV → Store
  | none => [⟨30, .d (.slc 3 xq) :: cs, false, 0, true⟩]
  | some ((c1, v1, _), (c2, v2, _)) => [⟨30, .d (.slc 3 xq) :: cs, false, 0, true⟩, ⟨62, c1, true, v1, true⟩, ⟨25, c2, true, v2, true⟩]
def onI (D : List (Int × Int)) (R : List Reply) : OnV → Prop
  | none => D = [] ∧ R = []
  | some ((c1, _, m1), (c2, _, m2)) => c1 = rowsD (instsX D) ∧ m1 = D.length ∧ c2 = rowsD (repsX R) ∧ m2 = R.length
structure OnI (i : Int) (xq : List (List PD)) (cs : List DV) (D : List (Int × Int)) (R : List Reply) : Prop where
  st : ∃ ps os, xq = pairsX ps ∧ cs = ownsD os ∧ okSt i ps os ∧ ∀ p ∈ D, p.2 ≤ (ownAt os p.1).seq ∧ 1 ≤ p.1
  dl : (D.length : Int) ≤ i
  rl : R.length = D.length

theorem inst_cell {D : List (Int × Int)} {q : List DV} (hq : q = rowsD (instsX D)) (k : Nat) (h : k < D.length) : q[k * 2]? = some (.d (.sc (.int .i64 (D[k]'h).1))) ∧ q[k * 2 + 1]? = some (.d (.sc (.int .i64 (D[k]'h).2))) ∧
    (q.drop (k * 2)).take 2 = [.d (.sc (.int .i64 (D[k]'h).1)), .d (.sc (.int .i64 (D[k]'h).2))] ∧ k * 2 + 2 ≤ q.length := by
  have hsz : ∀ x ∈ instsX D, x.length = 2 := by
    intro x hx
    simp only [instsX, List.mem_map] at hx
    obtain ⟨_, _, rfl⟩ := hx
    rfl
  have hl : (instsX D).length = D.length := by simp [instsX]
  have hk : k < (instsX D).length := by omega
  have e := rowsD_cut hsz k hk
  have el := take_len hsz k (by omega)
  have eg : (instsX D).getD k [] = instR (D[k]'h) := by simp [instsX, List.getD_eq_getElem?_getD, h]
  rw [eg] at e
  have ql := rowsD_len hsz
  have hd : q.drop (k * 2) = [.d (.sc (.int .i64 (D[k]'h).1)), .d (.sc (.int .i64 (D[k]'h).2))] ++ rowsD ((instsX D).drop (k + 1)) := by
    rw [hq, e, List.drop_append_of_le_length (by omega), List.drop_eq_nil_of_le (by omega)]
    rfl
  have g : ∀ j, q[k * 2 + j]? = (q.drop (k * 2))[j]? := fun j => by rw [List.getElem?_drop]
  refine ⟨?_, ?_, ?_, ?_⟩
  · have := g 0
    rw [hd] at this
    exact this
  · have := g 1
    rw [hd] at this
    exact this
  · rw [hd]; rfl
  · rw [hq, ql]; omega
theorem inst_len {D : List (Int × Int)} {q : List DV} (hq : q = rowsD (instsX D)) : q.length = D.length * 2 := by
  have hsz : ∀ x ∈ instsX D, x.length = 2 := by
    intro x hx
    simp only [instsX, List.mem_map] at hx
    obtain ⟨_, _, rfl⟩ := hx
    rfl
  rw [hq, rowsD_len hsz]
  simp [instsX]
theorem insts_one (a b : Int) : rowsD (instsX [(a, b)]) = [.d (.sc (.int .i64 a)), .d (.sc (.int .i64 b))] := rfl
theorem reps_one (r : Reply) : rowsD (repsX [r]) = [.d (.sc (.int .i64 r.why)), .d (.sc (.bool r.found)), .d (.sc (.string r.value)), .d (.sc (.int .i64 r.version)), .d (.slc 3 r.pairs)] := rfl
theorem insts_app {D : List (Int × Int)} {q : List DV} (hq : q = rowsD (instsX D)) (p : Int × Int) : q ++ rowsD (instsX [p]) = rowsD (instsX (D ++ [p])) := by rw [hq, ← rowsD_append]; simp [instsX]
theorem reps_app {D : List Reply} {q : List DV} (hq : q = rowsD (repsX D)) (p : Reply) : q ++ rowsD (repsX [p]) = rowsD (repsX (D ++ [p])) := by rw [hq, ← rowsD_append]; simp [repsX]
theorem repliesX_refl (r : Reply) : repliesX r r = true := repliesX_true rfl

structure FsSA where
  isC : List (List PD) → Prop
def FsSA0 : FsSA where
  isC := isC
set_option maxRecDepth 100000 in
theorem v_once (xs : List (List PD)) (hp0 : FsSA0.isC xs) : FnV Try.prog 7 [.d (.slc 7 xs)] (boolD (((fun (_ : List (List PD)) => true) xs))) := by
  have hsh := hp0.short
  have hsl := short_len xs
  obtain ⟨x0, hx0⟩ : ∃ x0, x0 = shortX xs := ⟨_, rfl⟩
  rw [← hx0] at hsh hsl
  obtain ⟨l, hxl, hll⟩ := hsh
  have hlen : x0.length = l.length := by rw [hxl]; simp [cmdsX]
  obtain ⟨c0, hc0⟩ : ∃ c0, c0 = ownsD (List.replicate 8 ⟨0, zeroRep⟩) := ⟨_, rfl⟩
  obtain ⟨n, hn⟩ : ∃ n : Int, n = l.length := ⟨_, rfl⟩
  have hn60 : n ≤ 60 := by omega
  have hn0 : 0 ≤ n := by omega
  obtain ⟨GFsSh, hGFsSh⟩ : ∃ F, F = FsSh0 := ⟨_, rfl⟩
  obtain ⟨GFsS5, hGFsS5⟩ : ∃ F, F = FsS50 := ⟨_, rfl⟩
  obtain ⟨GFsS, hGFsS⟩ : ∃ F, F = FsS0 := ⟨_, rfl⟩
  obtain ⟨GFs5, hGFs5⟩ : ∃ F, F = Fs50 := ⟨_, rfl⟩
  obtain ⟨GFsS4, hGFsS4⟩ : ∃ F, F = FsS40 := ⟨_, rfl⟩
  obtain ⟨GFsOw, hGFsOw⟩ : ∃ F, F = FsOw0 := ⟨_, rfl⟩
  obtain ⟨GFsS7, hGFsS7⟩ : ∃ F, F = FsS70 := ⟨_, rfl⟩
  have hH : SoundK Try.prog [kn_short GFsSh, kn_apply GFsS5, kn_same GFsS, kn_cwrites GFs5, kn_cright GFs5, kn_sameSt GFsS4, kn_rightSt GFsS4, kn_replies GFsOw, kn_runs GFsS7] := by subst hGFsSh hGFsS5 hGFsS hGFs5 hGFsS4 hGFsOw hGFsS7; exact orK_ok ok_short (orK_ok ok_apply (orK_ok ok_same (orK_ok ok_cwrites (orK_ok ok_cright (orK_ok ok_sameSt (orK_ok ok_rightSt (orK_ok ok_replies (orK_ok ok_runs noK_ok))))))))
  refine FnD_cbv (T := fun _ => tabY [1003, 1008, 1012, 1031, 1071, 1097, 25, 52, 5004] [10, 17]) (H := fun _ => [kn_short GFsSh, kn_apply GFsS5, kn_same GFsS, kn_cwrites GFs5, kn_cright GFs5, kn_sameSt GFsS4, kn_rightSt GFsS4, kn_replies GFsOw, kn_runs GFsS7]) (tabY_ok _ _) hH follows_mixed Try.func7 rfl Try.ntmps7 (by simp) fun A X W hA hX hW => ?_
  cbv
  replace hn : n = (l.length : Int) := hn
  have e1 : GFsSh.short xs = x0 := by subst hGFsSh; exact hx0.symm
  cbv at e1
  simp only [e1]
  refine And.intro (by subst hGFsSh; exact hp0) ?_
  refine loopL (T := fun _ => tabY [1003, 1008, 1012, 1031, 1071, 1097, 25, 52, 5004] [10, 17]) (H := fun _ => [kn_short GFsSh, kn_apply GFsS5, kn_same GFsS, kn_cwrites GFs5, kn_cright GFs5, kn_sameSt GFsS4, kn_rightSt GFsS4, kn_replies GFsOw, kn_runs GFsS7]) (tabY_ok _ _) hH follows_mixed hA hX (fun x : Int × List (List PD) × List DV × List (Int × Int) × List Reply × OnV => (0 ≤ x.1 ∧ x.1 ≤ n) ∧ OnI x.1 x.2.1 x.2.2.1 x.2.2.2.1 x.2.2.2.2.1 ∧ onI x.2.2.2.1 x.2.2.2.2.1 x.2.2.2.2.2)
    (fun x => onS x0 x.1 x.2.2.2.2.2) (fun x => onT x.2.1 x.2.2.1 x.2.2.2.2.2)
    (fun x => n.toNat - x.1.toNat) (0, [], c0, [], [], none) ?_ ?_ ?_
  · exact ⟨⟨Int.le_refl _, hn0⟩, ⟨⟨[], _, rfl, hc0, zero_st, by simp⟩, by simp, rfl⟩, rfl, rfl⟩
  · subst hc0
    exact told_upst (UpSt.cons (upL_upCs Z49) rfl) ⟨.inl (UpD.refl _), .inl (UpD.refl _), .inl (UpD.refl _), .inl (UpD.refl _), .inl (UpD.refl _), trivial⟩
  rintro R ⟨i, xq, cs, D, Rs, o⟩ hR ⟨hi, hI, i4⟩
  replace hi : 0 ≤ i ∧ i ≤ n := hi
  replace hI : OnI i xq cs D Rs := hI
  have i5 : (o = none ∧ D = [] ∧ Rs = []) ∨ ∃ q1 v1 m1 q2 v2 m2, o = some ((q1, v1, m1), (q2, v2, m2)) ∧ q1 = rowsD (instsX D) ∧ m1 = D.length ∧ q2 = rowsD (repsX Rs) ∧ m2 = Rs.length := by
    rcases o with _ | ⟨⟨q1, v1, m1⟩, ⟨q2, v2, m2⟩⟩
    · exact .inl ⟨rfl, i4⟩
    · exact .inr ⟨q1, v1, m1, q2, v2, m2, rfl, i4⟩
  clear i4
  rcases i5 with ⟨rfl, hD, hRs⟩ | ⟨q1, v1, m1, q2, v2, m2, rfl, hq1, hm1, hq2, hm2⟩ <;>
  cbv
  all_goals replace hn : n = (l.length : Int) := hn
  all_goals replace hlen : x0.length = l.length := hlen
  all_goals have e2 : A.len x0 = n := by subst hA; show (x0.length : Int) = n; rw [hlen, hn]
  all_goals refine part (fun hi2 => ?_) (fun hi2 => ?_) <;> cbv
  · replace hn : n = (l.length : Int) := hn
    replace hlen : x0.length = l.length := hlen
    replace hi : 0 ≤ i ∧ i ≤ n := hi
    have hi3 : i < n := by
      have h9 : A.cmp .lss i (A.len x0) = true := hi2
      subst hA
      simp only [A0, decide_eq_true_eq] at h9
      rw [hlen] at h9
      omega
    have hlt : i < l.length := by omega
    have hrow := crow hxl hi.1 hlt
    generalize l[i.toNat]'(by omega) = c at hrow
    obtain ⟨ps, os, hxq, hcs, hok, hDo⟩ := hI.st
    obtain ⟨qs, rs, r, ea, hok2, hrp, eb, hmo, hch⟩ := once_step hok hi.1 (by omega) c
    obtain ⟨yq, hyq⟩ : ∃ y, y = pairsX qs := ⟨_, rfl⟩
    obtain ⟨ds, hds⟩ : ∃ d, d = ownsD rs := ⟨_, rfl⟩
    have hcell : cellsS ps os = .d (.slc 3 xq) :: cs := by rw [hxq, hcs]; rfl
    have hcell2 : cellsS qs rs = .d (.slc 3 yq) :: ds := by rw [hyq, hds]; rfl
    rw [hcell, hcell2] at ea
    rw [hcell2] at eb
    have hls := hok.is.len
    have hls2 := hok2.is.len
    have hst1 := hok.is
    have hst2 := hok2.is
    have hcl1 := hok.is.closed
    have hcl2 := hok2.is.closed
    rw [hcell] at hls hst1 hcl1
    rw [hcell2] at hls2 hst2 hcl2
    have hdc : closedL 0 ds = true := hcl2
    have hmapd : ∀ κ, ds.map (pullD κ) = ds := fun κ => by rw [← pullL_eq]; exact pullL_closed _ _ hdc
    have hpx : isP xq := by rw [hxq]; exact hok.1.isP
    have hpy : isP yq := by rw [hyq]; exact hok2.1.isP
    have hwr : ¬ sameX yq xq = true → writesC c = true ∧ 1 ≤ c.client ∧ (ownAt os c.client).seq < c.seq ∧ c.seq ≤ (ownAt rs c.client).seq := fun hne => by
      rcases hch with h9 | h9
      · exact absurd (by rw [hyq, hxq, h9]; exact sameX_refl _) hne
      · exact h9
    have hI2 : OnI (i + 1) yq ds D Rs := ⟨⟨qs, rs, hyq, hds, hok2, fun p hp => ⟨Int.le_trans (hDo p hp).1 (hmo _ (hDo p hp).2), (hDo p hp).2⟩⟩, by have := hI.dl; omega, hI.rl⟩
    have hI3 : ¬ sameX yq xq = true → OnI (i + 1) yq ds (D ++ [(c.client, c.seq)]) (Rs ++ [r]) := fun hne => ⟨⟨qs, rs, hyq, hds, hok2, fun p hp => by
      rcases List.mem_append.1 hp with h9 | h9
      · exact ⟨Int.le_trans (hDo p h9).1 (hmo _ (hDo p h9).2), (hDo p h9).2⟩
      · rw [List.mem_singleton] at h9
        subst h9
        exact ⟨(hwr hne).2.2.2, (hwr hne).2.1⟩⟩, by have := hI.dl; rw [List.length_append, List.length_singleton]; omega, by rw [List.length_append, List.length_append, hI.rl]; rfl⟩
    have hDn : ¬ sameX yq xq = true → ∀ p ∈ D, ¬ (p.1 = c.client ∧ p.2 = c.seq) := fun hne p hp he => by
      have h1 := (hDo p hp).1
      have h2 := (hwr hne).2.2.1
      rw [he.1, he.2] at h1
      omega
    have hdl60 : D.length ≤ 60 := by have := hI.dl; omega
    have hrl60 : Rs.length ≤ 60 := by rw [hI.rl]; exact hdl60
    have ei : IntKind.wrap .i64 (i + 1) = i + 1 := wrap_i64 (by unfold r64; omega)
    obtain ⟨rw1, rf, rv, rn, rp⟩ := r
    obtain ⟨ck, cc, cq, ca, cb, co, cv⟩ := c
    have f0 : A.gi (A.lift (A.row x0 i)) 0 = ck := by subst hA; simp only [A0, hrow, Cmd.row, List.map_cons, List.getElem?_cons_zero]
    have f1 : A.gi (A.lift (A.row x0 i)) (A.pl 0 1) = cc := by subst hA; simp only [A0, hrow, Cmd.row, List.map_cons, Nat.zero_add, List.getElem?_cons_zero, List.getElem?_cons_succ]
    have f2 : A.gi (A.lift (A.row x0 i)) (A.pl 0 2) = cq := by subst hA; simp only [A0, hrow, Cmd.row, List.map_cons, Nat.zero_add, List.getElem?_cons_zero, List.getElem?_cons_succ]
    have f3 : A.gs (A.lift (A.row x0 i)) (A.pl 0 3) = ca := by subst hA; simp only [A0, hrow, Cmd.row, List.map_cons, Nat.zero_add, List.getElem?_cons_zero, List.getElem?_cons_succ]
    have f4 : A.gs (A.lift (A.row x0 i)) (A.pl 0 4) = cb := by subst hA; simp only [A0, hrow, Cmd.row, List.map_cons, Nat.zero_add, List.getElem?_cons_zero, List.getElem?_cons_succ]
    have f5 : A.gs (A.lift (A.row x0 i)) (A.pl 0 5) = co := by subst hA; simp only [A0, hrow, Cmd.row, List.map_cons, Nat.zero_add, List.getElem?_cons_zero, List.getElem?_cons_succ]
    have f6 : A.gs (A.lift (A.row x0 i)) (A.pl 0 6) = cv := by subst hA; simp only [A0, hrow, Cmd.row, List.map_cons, Nat.zero_add, List.getElem?_cons_zero, List.getElem?_cons_succ]
    have e3 : GFsS5.apply (.d (.slc 3 xq) :: cs) ⟨ck, cc, cq, ca, cb, co, cv⟩ = (.d (.slc 3 yq) :: ds, ⟨rw1, rf, rv, rn, rp⟩) := by subst hGFsS5; exact ea
    have e4 : GFsS5.apply (.d (.slc 3 yq) :: ds) ⟨ck, cc, cq, ca, cb, co, cv⟩ = (.d (.slc 3 yq) :: ds, ⟨rw1, rf, rv, rn, rp⟩) := by subst hGFsS5; exact eb
    have hin : A.inb i (A.len x0) := by subst hA; show 0 ≤ i ∧ i < (x0.length : Int); omega
    have hhs : A.has (A.lift (A.row x0 i)) 0 7 [.d (.sc (.int .i64 ck)), .d (.sc (.int .i64 cc)), .d (.sc (.int .i64 cq)), .d (.sc (.string ca)), .d (.sc (.string cb)), .d (.sc (.string co)), .d (.sc (.string cv))] := by
      subst hA
      simp only [A0, hrow, Cmd.row]
      simp
    cbv at f0
    cbv at f1
    cbv at f2
    cbv at f3
    cbv at f4
    cbv at f5
    cbv at f6
    cbv at e3
    cbv at e4
    simp only [f0, f1, f2, f3, f4, f5, f6, e3]
    repeat' first
      | (refine part (fun h => ?_) (fun h => ?_) <;> try cbv)
      | (simp only [e4])
      | (refine And.intro ?_ ?_)
      | ((with_reducible refine goL (c := .region 10 _ _) (T := fun _ => tabY [1003, 1008, 1012, 1031, 1071, 1097, 25, 52, 5004] []) (H := fun _ => [kn_short GFsSh, kn_apply GFsS5, kn_same GFsS, kn_cwrites GFs5, kn_cright GFs5, kn_sameSt GFsS4, kn_rightSt GFsS4, kn_replies GFsOw, kn_runs GFsS7]) (tabY_ok _ _) hH follows_mixed hA hX ?_) <;> cbv)
      | ((with_reducible refine regionS [] (.node 2 6 (.node 3 6 (.leaf [0, 1, 2, 3, 4, 5, 6, 7, 8, 9] []) (.leaf [0, 1, 2, 4, 5, 6, 3, 7, 8, 9] [])) (.leaf [4, 5, 6, 0, 1, 2, 3, 7, 8, 9] [])) (T := fun _ => tabY [1003, 1008, 1012, 1031, 1071, 1097, 25, 52, 5004] []) (H := fun _ => [kn_short GFsSh, kn_apply GFsS5, kn_same GFsS, kn_cwrites GFs5, kn_cright GFs5, kn_sameSt GFsS4, kn_rightSt GFsS4, kn_replies GFsOw, kn_runs GFsS7]) (B := fun _ => []) (R := fun _ => []) (A := A) (tabY_ok _ _) hH noB_ok noR_ok follows_mixed hA hX ?_); refine ⟨by decide, ⟨by decide, ⟨by decide, by kernel_rfl, by kernel_rfl, by kernel_rfl, ?_⟩, ⟨by decide, by kernel_rfl, by kernel_rfl, by kernel_rfl, ?_⟩⟩, ⟨by decide, by kernel_rfl, by kernel_rfl, by kernel_rfl, ?_⟩⟩ <;> cbv)
      | ((with_reducible refine regionL [1000001] [] (T := fun _ => tabY [1003, 1008, 1012, 1031, 1071, 1097, 25, 52, 5004] []) (H := fun _ => [kn_short GFsSh, kn_apply GFsS5, kn_same GFsS, kn_cwrites GFs5, kn_cright GFs5, kn_sameSt GFsS4, kn_rightSt GFsS4, kn_replies GFsOw, kn_runs GFsS7]) (B := fun _ => []) (R := fun _ => []) (A := A) (tabY_ok _ _) hH noB_ok noR_ok follows_mixed hA hX (by kernel_rfl) (by kernel_rfl) (by kernel_rfl) ?_) <;> cbv)
      | (refine loopL (T := fun _ => tabY [1003, 1008, 1012, 1031, 1071, 1097, 25, 52, 5004] [10, 17]) (H := fun _ => [kn_short GFsSh, kn_apply GFsS5, kn_same GFsS, kn_cwrites GFs5, kn_cright GFs5, kn_sameSt GFsS4, kn_rightSt GFsS4, kn_replies GFsOw, kn_runs GFsS7]) (tabY_ok _ _) hH follows_mixed hA hX (fun k : Int => 0 ≤ k ∧ k ≤ (0 : Int)) (fun k => [(0, .d (.slc 7 x0)), (3, .ref 0 0 0), (4, .d (.sc (.slice none 0 0))), (5, .d (.sc (.slice none 0 0))), (6, .d (.sc (.int .i64 i))), (7, .ref 1 0 0), (8, .ref 2 0 0), (9, .ref 3 0 0), (10, .ref 4 0 0), (11, .d (.sc (.int .i64 k)))]) (fun _ => [⟨30, .d (.slc 3 xq) :: cs, false, 0, true⟩, ⟨35, [.d (.sc (.int .i64 ck)), .d (.sc (.int .i64 cc)), .d (.sc (.int .i64 cq)), .d (.sc (.string ca)), .d (.sc (.string cb)), .d (.sc (.string co)), .d (.sc (.string cv))], false, 0, true⟩, ⟨30, .d (.slc 3 yq) :: ds, false, 0, true⟩, ⟨25, [.d (.sc (.int .i64 rw1)), .d (.sc (.bool rf)), .d (.sc (.string rv)), .d (.sc (.int .i64 rn)), .d (.slc 3 rp)], false, 0, true⟩, ⟨62, [.d (.sc (.int .i64 cc)), .d (.sc (.int .i64 cq))], false, 0, true⟩]) (fun k => ((0 : Int)).toNat - k.toNat) 0 ⟨Int.le_refl _, by omega⟩ (told_less ⟨.inl rfl, .inl rfl, .inl rfl, .inl rfl, .inl rfl, .inl rfl, .inl rfl, .inl rfl, .inl rfl, .inl rfl, trivial⟩) ?_
         rintro R2 k hR2 ⟨k0, k1⟩
         cbv)
    all_goals subst hA hX hW hR hGFsSh hGFsS5 hGFsS hGFs5 hGFsS4 hGFsOw hGFsS7
    all_goals try subst hR2
    all_goals try clear hH
    all_goals first
      | exact rfl
      | exact hin
      | exact hhs
      | (show Region.lexB _ _ = true; kernel_rfl)
      | (show turnsB _ = true; kernel_rfl)
      | exact hst1
      | exact hst2
      | exact hpx
      | exact hpy
      | (show List.length _ = 49 * 1; exact hls)
      | (show List.length _ = 49 * 1; exact hls2)
      | (intro hq; exact hq)
      | (intro hq; simpa [A0] using hq)
      | (intro _; first | exact trivial | exact rfl | exact hrp | exact hst2)
      | (simp [A0]; done)
      | skip
    all_goals try replace hn : n = (l.length : Int) := hn
    all_goals try replace k0 : 0 ≤ k := k0
    all_goals replace hi : 0 ≤ i ∧ i ≤ n := hi
    all_goals first
      | (exfalso
         have h9 : A0.cmp .lss k 0 = true := by assumption
         simp only [A0, decide_eq_true_eq] at h9
         omega)
      | (exfalso
         have h9 : A0.not (FsS0.same yq xq) = true := by assumption
         have h10 : A0.not (Fs50.cwrites ⟨ck, cc, cq, ca, cb, co, cv⟩) = true := by assumption
         simp only [A0, FsS0, Fs50, Bool.not_eq_true'] at h9 h10
         have h11 := (hwr (by rw [h9]; decide)).1
         rw [h11] at h10
         cases h10)
      | (exfalso
         have h9 := h
         simp [A0, FsS40, FsOw0, sameSt_refl, repliesX_refl] at h9
         done)
      | skip
    · subst hD hRs
      have h9 : A0.not (FsS0.same yq xq) = true := by assumption
      simp only [A0, FsS0, Bool.not_eq_true'] at h9
      have h10 : ¬ sameX yq xq = true := by rw [h9]; decide
      refine ⟨(i + 1, yq, ds, [(cc, cq)], [⟨rw1, rf, rv, rn, rp⟩], some ((rowsD (instsX [(cc, cq)]), 0, 1), (rowsD (repsX [⟨rw1, rf, rv, rn, rp⟩]), 0, 1))), ⟨⟨by show (0 : Int) ≤ i + 1; omega, by show i + 1 ≤ n; omega⟩, hI3 h10, rfl, rfl, rfl, rfl⟩, by show n.toNat - (i + 1).toNat < n.toNat - i.toNat; omega, told_keep [0, 6, 8] rfl ?_ ?_⟩
      · simp [keepSt, pullBox, hmapd, onT, pullL, pullD, pullL_eq, insts_one, reps_one, A0]
      · simp [toldP, getS, onS, pullD, A0, ei]
        exact ⟨rfl, rfl, rfl⟩
    · subst hD hRs
      have h9 : A0.not (FsS0.same yq xq) = true := by assumption
      simp only [A0, FsS0, Bool.not_eq_true'] at h9
      have h10 : ¬ sameX yq xq = true := by rw [h9]; decide
      refine ⟨(i + 1, yq, ds, [(cc, cq)], [⟨rw1, rf, rv, rn, rp⟩], some ((rowsD (instsX [(cc, cq)]), 0, 1), (rowsD (repsX [⟨rw1, rf, rv, rn, rp⟩]), 0, 1))), ⟨⟨by show (0 : Int) ≤ i + 1; omega, by show i + 1 ≤ n; omega⟩, hI3 h10, rfl, rfl, rfl, rfl⟩, by show n.toNat - (i + 1).toNat < n.toNat - i.toNat; omega, told_keep [0, 7, 8] rfl ?_ ?_⟩
      · simp [keepSt, pullBox, hmapd, onT, pullL, pullD, pullL_eq, insts_one, reps_one, A0]
      · simp [toldP, getS, onS, pullD, A0, ei]
        exact ⟨rfl, rfl, rfl⟩
    · subst hD hRs
      have h9 : A0.not (FsS0.same yq xq) = true := by assumption
      simp only [A0, FsS0, Bool.not_eq_true'] at h9
      have h10 : ¬ sameX yq xq = true := by rw [h9]; decide
      refine ⟨(i + 1, yq, ds, [(cc, cq)], [⟨rw1, rf, rv, rn, rp⟩], some ((rowsD (instsX [(cc, cq)]), 0, 1), (rowsD (repsX [⟨rw1, rf, rv, rn, rp⟩]), 0, 1))), ⟨⟨by show (0 : Int) ≤ i + 1; omega, by show i + 1 ≤ n; omega⟩, hI3 h10, rfl, rfl, rfl, rfl⟩, by show n.toNat - (i + 1).toNat < n.toNat - i.toNat; omega, told_keep [0, 7, 8] rfl ?_ ?_⟩
      · simp [keepSt, pullBox, hmapd, onT, pullL, pullD, pullL_eq, insts_one, reps_one, A0]
      · simp [toldP, getS, onS, pullD, A0, ei]
        exact ⟨rfl, rfl, rfl⟩
    · subst hD hRs
      refine ⟨(i + 1, yq, ds, [], [], none), ⟨⟨by show (0 : Int) ≤ i + 1; omega, by show i + 1 ≤ n; omega⟩, hI2, rfl, rfl⟩, by show n.toNat - (i + 1).toNat < n.toNat - i.toNat; omega, told_keep [0] rfl ?_ ?_⟩
      · simp [keepSt, pullBox, hmapd, onT, pullL, pullD, pullL_eq, insts_one, reps_one, A0]
      · simp [toldP, getS, onS, pullD, A0, ei]
        try exact rfl
  · replace hn : n = (l.length : Int) := hn
    obtain ⟨ps, os, hxq, hcs, hok, hDo⟩ := hI.st
    have hcell : cellsS ps os = .d (.slc 3 xq) :: cs := by rw [hxq, hcs]; rfl
    have hls := hok.is.len
    have hst1 := hok.is
    have hri := hok.right
    rw [hcell] at hls hst1 hri
    have hDR := hI.rl
    repeat' (refine And.intro ?_ ?_)
    all_goals subst hA hX hW hR hGFsSh hGFsS5 hGFsS hGFs5 hGFsS4 hGFsOw hGFsS7
    all_goals try clear hH
    all_goals first
      | exact rfl
      | exact hst1
      | (show List.length _ = 49 * 1; exact hls)
      | (intro hq; exact hq)
      | (intro hq; simpa [A0] using hq)
      | (intro _; first | exact trivial | exact rfl)
      | (refine ret_v (congrArg boolD ?_) rfl
         simp [A0, FsS40, FsS70, hri]
         done)
  · replace hn : n = (l.length : Int) := hn
    replace hlen : x0.length = l.length := hlen
    replace hi : 0 ≤ i ∧ i ≤ n := hi
    have hi3 : i < n := by
      have h9 : A.cmp .lss i (A.len x0) = true := hi2
      subst hA
      simp only [A0, decide_eq_true_eq] at h9
      rw [hlen] at h9
      omega
    have hlt : i < l.length := by omega
    have hrow := crow hxl hi.1 hlt
    generalize l[i.toNat]'(by omega) = c at hrow
    obtain ⟨ps, os, hxq, hcs, hok, hDo⟩ := hI.st
    obtain ⟨qs, rs, r, ea, hok2, hrp, eb, hmo, hch⟩ := once_step hok hi.1 (by omega) c
    obtain ⟨yq, hyq⟩ : ∃ y, y = pairsX qs := ⟨_, rfl⟩
    obtain ⟨ds, hds⟩ : ∃ d, d = ownsD rs := ⟨_, rfl⟩
    have hcell : cellsS ps os = .d (.slc 3 xq) :: cs := by rw [hxq, hcs]; rfl
    have hcell2 : cellsS qs rs = .d (.slc 3 yq) :: ds := by rw [hyq, hds]; rfl
    rw [hcell, hcell2] at ea
    rw [hcell2] at eb
    have hls := hok.is.len
    have hls2 := hok2.is.len
    have hst1 := hok.is
    have hst2 := hok2.is
    have hcl1 := hok.is.closed
    have hcl2 := hok2.is.closed
    rw [hcell] at hls hst1 hcl1
    rw [hcell2] at hls2 hst2 hcl2
    have hdc : closedL 0 ds = true := hcl2
    have hmapd : ∀ κ, ds.map (pullD κ) = ds := fun κ => by rw [← pullL_eq]; exact pullL_closed _ _ hdc
    have hpx : isP xq := by rw [hxq]; exact hok.1.isP
    have hpy : isP yq := by rw [hyq]; exact hok2.1.isP
    have hwr : ¬ sameX yq xq = true → writesC c = true ∧ 1 ≤ c.client ∧ (ownAt os c.client).seq < c.seq ∧ c.seq ≤ (ownAt rs c.client).seq := fun hne => by
      rcases hch with h9 | h9
      · exact absurd (by rw [hyq, hxq, h9]; exact sameX_refl _) hne
      · exact h9
    have hI2 : OnI (i + 1) yq ds D Rs := ⟨⟨qs, rs, hyq, hds, hok2, fun p hp => ⟨Int.le_trans (hDo p hp).1 (hmo _ (hDo p hp).2), (hDo p hp).2⟩⟩, by have := hI.dl; omega, hI.rl⟩
    have hI3 : ¬ sameX yq xq = true → OnI (i + 1) yq ds (D ++ [(c.client, c.seq)]) (Rs ++ [r]) := fun hne => ⟨⟨qs, rs, hyq, hds, hok2, fun p hp => by
      rcases List.mem_append.1 hp with h9 | h9
      · exact ⟨Int.le_trans (hDo p h9).1 (hmo _ (hDo p h9).2), (hDo p h9).2⟩
      · rw [List.mem_singleton] at h9
        subst h9
        exact ⟨(hwr hne).2.2.2, (hwr hne).2.1⟩⟩, by have := hI.dl; rw [List.length_append, List.length_singleton]; omega, by rw [List.length_append, List.length_append, hI.rl]; rfl⟩
    have hDn : ¬ sameX yq xq = true → ∀ p ∈ D, ¬ (p.1 = c.client ∧ p.2 = c.seq) := fun hne p hp he => by
      have h1 := (hDo p hp).1
      have h2 := (hwr hne).2.2.1
      rw [he.1, he.2] at h1
      omega
    have hdl60 : D.length ≤ 60 := by have := hI.dl; omega
    have hrl60 : Rs.length ≤ 60 := by rw [hI.rl]; exact hdl60
    have ei : IntKind.wrap .i64 (i + 1) = i + 1 := wrap_i64 (by unfold r64; omega)
    obtain ⟨rw1, rf, rv, rn, rp⟩ := r
    obtain ⟨ck, cc, cq, ca, cb, co, cv⟩ := c
    have f0 : A.gi (A.lift (A.row x0 i)) 0 = ck := by subst hA; simp only [A0, hrow, Cmd.row, List.map_cons, List.getElem?_cons_zero]
    have f1 : A.gi (A.lift (A.row x0 i)) (A.pl 0 1) = cc := by subst hA; simp only [A0, hrow, Cmd.row, List.map_cons, Nat.zero_add, List.getElem?_cons_zero, List.getElem?_cons_succ]
    have f2 : A.gi (A.lift (A.row x0 i)) (A.pl 0 2) = cq := by subst hA; simp only [A0, hrow, Cmd.row, List.map_cons, Nat.zero_add, List.getElem?_cons_zero, List.getElem?_cons_succ]
    have f3 : A.gs (A.lift (A.row x0 i)) (A.pl 0 3) = ca := by subst hA; simp only [A0, hrow, Cmd.row, List.map_cons, Nat.zero_add, List.getElem?_cons_zero, List.getElem?_cons_succ]
    have f4 : A.gs (A.lift (A.row x0 i)) (A.pl 0 4) = cb := by subst hA; simp only [A0, hrow, Cmd.row, List.map_cons, Nat.zero_add, List.getElem?_cons_zero, List.getElem?_cons_succ]
    have f5 : A.gs (A.lift (A.row x0 i)) (A.pl 0 5) = co := by subst hA; simp only [A0, hrow, Cmd.row, List.map_cons, Nat.zero_add, List.getElem?_cons_zero, List.getElem?_cons_succ]
    have f6 : A.gs (A.lift (A.row x0 i)) (A.pl 0 6) = cv := by subst hA; simp only [A0, hrow, Cmd.row, List.map_cons, Nat.zero_add, List.getElem?_cons_zero, List.getElem?_cons_succ]
    have e3 : GFsS5.apply (.d (.slc 3 xq) :: cs) ⟨ck, cc, cq, ca, cb, co, cv⟩ = (.d (.slc 3 yq) :: ds, ⟨rw1, rf, rv, rn, rp⟩) := by subst hGFsS5; exact ea
    have e4 : GFsS5.apply (.d (.slc 3 yq) :: ds) ⟨ck, cc, cq, ca, cb, co, cv⟩ = (.d (.slc 3 yq) :: ds, ⟨rw1, rf, rv, rn, rp⟩) := by subst hGFsS5; exact eb
    have hin : A.inb i (A.len x0) := by subst hA; show 0 ≤ i ∧ i < (x0.length : Int); omega
    have hhs : A.has (A.lift (A.row x0 i)) 0 7 [.d (.sc (.int .i64 ck)), .d (.sc (.int .i64 cc)), .d (.sc (.int .i64 cq)), .d (.sc (.string ca)), .d (.sc (.string cb)), .d (.sc (.string co)), .d (.sc (.string cv))] := by
      subst hA
      simp only [A0, hrow, Cmd.row]
      simp
    cbv at f0
    cbv at f1
    cbv at f2
    cbv at f3
    cbv at f4
    cbv at f5
    cbv at f6
    cbv at e3
    cbv at e4
    simp only [f0, f1, f2, f3, f4, f5, f6, e3]
    repeat' first
      | (refine part (fun h => ?_) (fun h => ?_) <;> try cbv)
      | (simp only [e4])
      | (refine And.intro ?_ ?_)
      | ((with_reducible refine goL (c := .region 10 _ _) (T := fun _ => tabY [1003, 1008, 1012, 1031, 1071, 1097, 25, 52, 5004] []) (H := fun _ => [kn_short GFsSh, kn_apply GFsS5, kn_same GFsS, kn_cwrites GFs5, kn_cright GFs5, kn_sameSt GFsS4, kn_rightSt GFsS4, kn_replies GFsOw, kn_runs GFsS7]) (tabY_ok _ _) hH follows_mixed hA hX ?_) <;> cbv)
      | ((with_reducible refine regionL [1000001] [] (T := fun _ => tabY [1003, 1008, 1012, 1031, 1071, 1097, 25, 52, 5004] []) (H := fun _ => [kn_short GFsSh, kn_apply GFsS5, kn_same GFsS, kn_cwrites GFs5, kn_cright GFs5, kn_sameSt GFsS4, kn_rightSt GFsS4, kn_replies GFsOw, kn_runs GFsS7]) (B := fun _ => []) (R := fun _ => []) (A := A) (tabY_ok _ _) hH noB_ok noR_ok follows_mixed hA hX (by kernel_rfl) (by kernel_rfl) (by kernel_rfl) ?_) <;> cbv)
      | (refine loopL (T := fun _ => tabY [1003, 1008, 1012, 1031, 1071, 1097, 25, 52, 5004] [10, 17]) (H := fun _ => [kn_short GFsSh, kn_apply GFsS5, kn_same GFsS, kn_cwrites GFs5, kn_cright GFs5, kn_sameSt GFsS4, kn_rightSt GFsS4, kn_replies GFsOw, kn_runs GFsS7]) (tabY_ok _ _) hH follows_mixed hA hX (fun k : Int => 0 ≤ k ∧ k ≤ (m1 : Int)) (fun k => [(0, .d (.slc 7 x0)), (3, .ref 0 0 0), (4, .view 2 1 v1 0 m1), (5, .view 5 2 v2 0 m2), (6, .d (.sc (.int .i64 i))), (7, .ref 3 0 0), (8, .ref 4 0 0), (9, .ref 5 0 0), (10, .ref 6 0 0), (11, .d (.sc (.int .i64 k)))]) (fun _ => [⟨30, .d (.slc 3 xq) :: cs, false, 0, true⟩, ⟨62, q1, true, v1, true⟩, ⟨25, q2, true, v2, true⟩, ⟨35, [.d (.sc (.int .i64 ck)), .d (.sc (.int .i64 cc)), .d (.sc (.int .i64 cq)), .d (.sc (.string ca)), .d (.sc (.string cb)), .d (.sc (.string co)), .d (.sc (.string cv))], false, 0, true⟩, ⟨30, .d (.slc 3 yq) :: ds, false, 0, true⟩, ⟨25, [.d (.sc (.int .i64 rw1)), .d (.sc (.bool rf)), .d (.sc (.string rv)), .d (.sc (.int .i64 rn)), .d (.slc 3 rp)], false, 0, true⟩, ⟨62, [.d (.sc (.int .i64 cc)), .d (.sc (.int .i64 cq))], false, 0, true⟩]) (fun k => ((m1 : Int)).toNat - k.toNat) 0 ⟨Int.le_refl _, by omega⟩ (told_less ⟨.inl rfl, .inl rfl, .inl rfl, .inl rfl, .inl rfl, .inl rfl, .inl rfl, .inl rfl, .inl rfl, .inl rfl, trivial⟩) ?_
         rintro R2 k hR2 ⟨k0, k1⟩
         cbv)
    all_goals subst hA hX hW hR hGFsSh hGFsS5 hGFsS hGFs5 hGFsS4 hGFsOw hGFsS7
    all_goals try subst hR2
    all_goals try clear hH
    all_goals first
      | exact rfl
      | exact hin
      | exact hhs
      | (show Region.lexB _ _ = true; kernel_rfl)
      | (show turnsB _ = true; kernel_rfl)
      | exact hst1
      | exact hst2
      | exact hpx
      | exact hpy
      | (show List.length _ = 49 * 1; exact hls)
      | (show List.length _ = 49 * 1; exact hls2)
      | (intro hq; exact hq)
      | (intro hq; simpa [A0] using hq)
      | (intro _; first | exact trivial | exact rfl | exact hrp | exact hst2)
      | (simp [A0]; done)
      | skip
    all_goals try replace hn : n = (l.length : Int) := hn
    all_goals try replace k0 : 0 ≤ k := k0
    all_goals replace hi : 0 ≤ i ∧ i ≤ n := hi
    all_goals first
      | (exfalso
         have h9 : A0.cmp .lss k 0 = true := by assumption
         simp only [A0, decide_eq_true_eq] at h9
         omega)
      | (exfalso
         have h9 : A0.not (FsS0.same yq xq) = true := by assumption
         have h10 : A0.not (Fs50.cwrites ⟨ck, cc, cq, ca, cb, co, cv⟩) = true := by assumption
         simp only [A0, FsS0, Fs50, Bool.not_eq_true'] at h9 h10
         have h11 := (hwr (by rw [h9]; decide)).1
         rw [h11] at h10
         cases h10)
      | (exfalso
         have h9 := h
         simp [A0, FsS40, FsOw0, sameSt_refl, repliesX_refl] at h9
         done)
      | skip
    all_goals first
      | (have h9 : A0.cmp .lss k (A0.int m1) = true := by assumption
         simp only [A0, decide_eq_true_eq] at h9
         have hkD : k.toNat < D.length := by omega
         obtain ⟨g0, g1, gt, gl⟩ := inst_cell hq1 k.toNat hkD
         have hmem := List.getElem_mem hkD
         have ek : IntKind.wrap .i64 (k + 1) = k + 1 := wrap_i64 (by unfold r64; omega)
         generalize D[k.toNat]'hkD = p at g0 g1 gt hmem
         simp only [A0, nc, Nat.zero_add, g0, g1, gt]
         first
           | exact ⟨k0, h9⟩
           | exact ⟨rfl, gl, rfl⟩
           | exact gl
           | exact ⟨gl, rfl⟩
           | (simp; exact gl)
           | (exfalso
              have h10 : A0.and (A0.cmp .eql (A0.gi q1 (A0.off 0 k 2)) cc) (A0.and (A0.cmp .eql (A0.gi q1 (A0.pl (A0.off 0 k 2) 1)) cq) true) = true := by assumption
              have h12 : A0.not (FsS0.same yq xq) = true := by assumption
              simp only [A0, FsS0, Bool.not_eq_true'] at h12
              simp only [A0, Nat.zero_add, g0, g1, Bool.and_true, Bool.and_eq_true, decide_eq_true_eq] at h10
              exact hDn (by rw [h12]; decide) p hmem h10)
           | (refine ⟨k + 1, ⟨by omega, by omega⟩, by omega, told_less ?_⟩
              simp [toldP, getS, ek]
              done))
      | (show List.length _ = m1 * 2; rw [inst_len hq1, hm1])
      | (show List.length _ = m2 * 5; rw [hq2, rowsD_len (reps_sz Rs), hm2]; simp [repsX])
      | (simp only [A0, List.length_cons, List.length_nil]
         refine ⟨by omega, by omega⟩)
      | skip
    · have h9 : A0.not (FsS0.same yq xq) = true := by assumption
      simp only [A0, FsS0, Bool.not_eq_true'] at h9
      have h10 : ¬ sameX yq xq = true := by rw [h9]; decide
      refine ⟨(i + 1, yq, ds, D ++ [(cc, cq)], Rs ++ [⟨rw1, rf, rv, rn, rp⟩], some ((q1 ++ rowsD (instsX [(cc, cq)]), v1 + 1, m1 + 1), (q2 ++ rowsD (repsX [⟨rw1, rf, rv, rn, rp⟩]), v2 + 1, m2 + 1))), ⟨⟨by show (0 : Int) ≤ i + 1; omega, by show i + 1 ≤ n; omega⟩, hI3 h10, insts_app hq1 _, by rw [hm1]; simp, reps_app hq2 _, by rw [hm2]; simp⟩, by show n.toNat - (i + 1).toNat < n.toNat - i.toNat; omega, told_keep [0, 1, 2] rfl ?_ ?_⟩
      · simp [keepSt, pullBox, hmapd, onT, pullL, pullD, pullL_eq, insts_one, reps_one, A0, hq1, hq2, pull_rows]
        try exact ⟨rfl, rfl⟩
      · simp [toldP, getS, onS, pullD, A0, ei]
        exact ⟨rfl, rfl, rfl⟩
    · refine ⟨(i + 1, yq, ds, D, Rs, some ((q1, v1, m1), (q2, v2, m2))), ⟨⟨by show (0 : Int) ≤ i + 1; omega, by show i + 1 ≤ n; omega⟩, hI2, hq1, hm1, hq2, hm2⟩, by show n.toNat - (i + 1).toNat < n.toNat - i.toNat; omega, told_keep [0, 1, 2] rfl ?_ ?_⟩
      · simp [keepSt, pullBox, hmapd, onT, pullL, pullD, pullL_eq, insts_one, reps_one, A0, hq1, hq2, pull_rows]
        try exact ⟨rfl, rfl⟩
      · simp [toldP, getS, onS, pullD, A0, ei]
        exact ⟨rfl, rfl, rfl⟩
  · replace hn : n = (l.length : Int) := hn
    obtain ⟨ps, os, hxq, hcs, hok, hDo⟩ := hI.st
    have hcell : cellsS ps os = .d (.slc 3 xq) :: cs := by rw [hxq, hcs]; rfl
    have hls := hok.is.len
    have hst1 := hok.is
    have hri := hok.right
    rw [hcell] at hls hst1 hri
    have hDR := hI.rl
    repeat' (refine And.intro ?_ ?_)
    all_goals subst hA hX hW hR hGFsSh hGFsS5 hGFsS hGFs5 hGFsS4 hGFsOw hGFsS7
    all_goals try clear hH
    all_goals first
      | exact rfl
      | exact hst1
      | (show List.length _ = 49 * 1; exact hls)
      | (intro hq; exact hq)
      | (intro hq; simpa [A0] using hq)
      | (intro _; first | exact trivial | exact rfl)
      | (refine ret_v (congrArg boolD ?_) rfl
         simp [A0, FsS40, FsS70, hri, hm1, hm2, hDR]
         done)

end Go.Proofs.Ytijknhdaipnjaaa
