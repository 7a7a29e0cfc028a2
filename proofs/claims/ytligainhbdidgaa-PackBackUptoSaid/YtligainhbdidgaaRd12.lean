/- PackBack's inner function: what it answers. No condition. -/
import Derived.Test.YtligainhbdidgaaRd11
import Derived.Test.YtligainhbdidgaaRd8
namespace Go.Proofs.Ytligainhbdidgaa
open Go.RowKit
set_option linter.all false


/-- One thing read back: is it so? Where the reader stands; its error. -/
def back1 (xs : List (List PD)) (k n : Int) (s : ByteArray) (f : Bool) (a w : Int) : Bool × Int × Int :=
  if within3 k 1 3 = 1 then (decide ((numR xs a w).1 = n), (numR xs a w).2) else if within3 k 1 3 = 2 then (decide ((textR xs a w 100).1 = if (100 : Int) < (s.size : Int) then s.extract 0 100 else s), (textR xs a w 100).2) else
    if within3 k 1 3 = 3 then (decide ((flagR xs a w).1 = f), (flagR xs a w).2) else (true, a, w)
def backR (xs : List (List PD)) (r : List PD) (a w : Int) : Bool × Int × Int := match r with
  | [.sc (.int _ k), .sc (.int _ n), .sc (.string s), .sc (.bool f)] => back1 xs k n s f a w
  | _ => (true, a, w)
/-- All of them, as long as each is so. -/
def backF (xs : List (List PD)) : List (List PD) → Bool × Int × Int → Bool × Int × Int
  | [], x => x
  | r :: rs, x => if x.1 = true then backF xs rs (backR xs r x.2.1 x.2.2) else x
theorem backF_stop (xs : List (List PD)) : ∀ (rs : List (List PD)) (x : Bool × Int × Int), x.1 = false → backF xs rs x = x
  | [], _, _ => rfl
  | r :: rs, x, h => by unfold backF; rw [if_neg (by simp [h])]
theorem backF_step {xs ls : List (List PD)} {n i k m : Int} {s : ByteArray} {f : Bool} {a w : Int} (h0 : 0 ≤ i) (h1 : i < n) (h2 : n ≤ ls.length) (hrow : ls.getD i.toNat [] = [.sc (.int .i64 k), .sc (.int .i64 m), .sc (.string s), .sc (.bool f)]) :
    backF xs ((ls.take n.toNat).drop i.toNat) (true, a, w) = backF xs ((ls.take n.toNat).drop (i + 1).toNat) (back1 xs k m s f a w) := by
  have hj : i.toNat < (ls.take n.toNat).length := by rw [List.length_take]; omega
  rw [List.drop_eq_getElem_cons hj, show (i + 1).toNat = i.toNat + 1 by omega]
  have e : (ls.take n.toNat)[i.toNat] = [.sc (.int .i64 k), .sc (.int .i64 m), .sc (.string s), .sc (.bool f)] := by
    rw [List.getElem_take, ← hrow, List.getD_eq_getElem?_getD, List.getElem?_eq_getElem (by omega)]
    rfl
  rw [e]
  rfl
theorem back1_rd {xs : List (List PD)} {k n : Int} {s : ByteArray} {f : Bool} {a w : Int} (h : isRd xs a w) : isRd xs (back1 xs k n s f a w).2.1 (back1 xs k n s f a w).2.2 := by
  unfold back1
  split
  · exact (num_rd h).1
  split
  · exact rd_any (k := 2) (n := 100) h
  split
  · exact rd_any (k := 3) (n := 0) h
  · exact h

set_option maxRecDepth 100000 in
set_option maxHeartbeats 8000000 in
theorem v_back1 (xs ls : List (List PD)) (n : Int) (hp0 : isB xs) (hp1 : isIt ls) (hn0 : 0 ≤ n) (hn1 : n ≤ ls.length) (hn2 : n ≤ 30) : FnD Try.prog 71 [.d (.slc 1 xs), .ref 0 0 0, .ref 1 0 0] [⟨3, [intD n], false, 0, true⟩, ⟨70, [.d (.slc 4 ls)], false, 0, true⟩]
    (fun r st' => r = .tup [boolD ((backF xs (ls.take n.toNat) (true, 0, 0)).1 && decide ((backF xs (ls.take n.toNat) (true, 0, 0)).2.2 = 0)), intD (endR xs (backF xs (ls.take n.toNat) (true, 0, 0)).2.1 (backF xs (ls.take n.toNat) (true, 0, 0)).2.2)] ∧ st' = [⟨3, [intD n], false, 0, true⟩, ⟨70, [.d (.slc 4 ls)], false, 0, true⟩]) := by
  obtain ⟨x0, hx0⟩ : ∃ x, x = backF xs (ls.take n.toNat) (true, 0, 0) := ⟨_, rfl⟩
  rw [← hx0]
  obtain ⟨GFsQ, hFsQ⟩ : ∃ F, F = FsQ0 := ⟨_, rfl⟩
  obtain ⟨GFsS, hFsS⟩ : ∃ F, F = FsS0 := ⟨_, rfl⟩
  obtain ⟨GFsR, hFsR⟩ : ∃ F, F = FsR0 := ⟨_, rfl⟩
  have hH : SoundK Try.prog [kn_within3 GFsQ] := by subst hFsQ hFsS hFsR; exact orK_ok ok_within3 noK_ok
  have hB : SoundB Try.prog [kb_pRead GFsS, kb_pNum GFsR, kb_pText GFsR, kb_pFlag GFsR, kb_pwrong GFsR, kb_pEnd GFsR] := by subst hFsQ hFsS hFsR; exact orB_ok okb_pRead (orB_ok okb_pNum (orB_ok okb_pText (orB_ok okb_pFlag (orB_ok okb_pwrong (orB_ok okb_pEnd noB_ok)))))
  refine FnD_cbv (T := fun _ => tabY [25] [12, 16]) (H := fun _ => [kn_within3 GFsQ]) (tabY_ok _ _) hH follows_mixed Try.func71 rfl Try.ntmps71 (by simp) fun A X W hA hX hW => ?_
  cbv
  refine callB hX hB ?_
  cbv
  refine And.intro ?_ ?_
  · subst hFsS; exact hp0
  refine loopL (T := fun _ => tabY [25] [12, 16]) (H := fun _ => [kn_within3 GFsQ]) (tabY_ok _ _) hH follows_mixed hA hX (fun x : Int × Bool × Int × Int => (0 ≤ x.1 ∧ x.1 ≤ 30) ∧ isRd xs x.2.2.1 x.2.2.2 ∧ x.1 ≤ n ∧ x0 = backF xs ((ls.take n.toNat).drop x.1.toNat) (x.2.1, x.2.2.1, x.2.2.2))
    (fun x => [(1, .ref 0 0 0), (2, .ref 1 0 0), (6, .ref 2 0 0), (7, .d (.sc (.bool x.2.1))), (8, .d (.sc (.int .i64 x.1)))]) (fun x => [⟨3, [intD n], false, 0, true⟩, ⟨70, [.d (.slc 4 ls)], false, 0, true⟩, rdB 111 xs x.2.2.1 x.2.2.2])
    (fun x => 30 - x.1.toNat) (0, true, 0, 0) ?_ ?_ ?_
  · exact ⟨⟨by omega, by omega⟩, rd0 hp0, hn0, by simpa using hx0⟩
  · subst hA
    exact told_less (by simp [toldP, getS, A0])
  rintro R ⟨i, ok, a, w⟩ hR ⟨hi, hrd, hin, hx⟩
  cbv
  repeat' first
    | (refine part (fun h => ?_) (fun h => ?_) <;> try cbv)
    | (refine And.intro ?_ ?_)
    | (with_reducible refine callB hX hB ?_) <;> cbv
    | (with_reducible refine regionB [60, 64] (T := fun _ => tabY [25] []) (H := fun _ => [kn_within3 GFsQ]) (B := fun _ => [kb_pRead GFsS, kb_pNum GFsR, kb_pText GFsR, kb_pFlag GFsR, kb_pwrong GFsR, kb_pEnd GFsR]) (A := A) (tabY_ok _ _) hH hB follows_mixed hA hX (by kernel_rfl) (by kernel_rfl) ?_) <;> cbv
    | ((with_reducible refine pickL hX (t := true) rfl rfl ?_) <;> cbv)
    | ((with_reducible refine pickL hX (t := false) rfl rfl ?_) <;> cbv)
  all_goals try subst hR
  all_goals subst hA hX hW hFsQ hFsS hFsR
  all_goals clear hH hB
  all_goals simp only [A0, FsQ0, FsS0, FsR0, decide_eq_true_eq, decide_eq_false_iff_not, Bool.not_eq_true', Bool.not_eq_false'] at *
  all_goals replace hi : 0 ≤ i ∧ i ≤ 30 := hi
  all_goals replace hn1 : n ≤ (ls.length : Int) := hn1
  all_goals replace hin : i ≤ n := hin
  all_goals replace hrd : isRd xs a w := hrd
  all_goals replace hx : x0 = backF xs ((ls.take n.toNat).drop i.toNat) (ok, a, w) := hx
  all_goals try
    have hz := ‹(bif ok then decide (i < n) else false) = true›
    have hlt : ok = true ∧ i < n := by simpa using hz
    obtain ⟨k, m, s, f, hrow, hk, hm, hs⟩ := hp1.row hi.1 (by omega)
    have hst := backF_step (xs := xs) (a := a) (w := w) hi.1 hlt.2 hn1 hrow
    have hrd2 := back1_rd (k := k) (n := m) (s := s) (f := f) hrd
    rw [hlt.1, hst] at hx
    simp only [hrow, List.map_cons, List.map_nil, Nat.zero_add, List.getElem?_cons_zero, List.getElem?_cons_succ] at *
  all_goals have ei : IntKind.wrap .i64 (i + 1) = i + 1 := wrap_i64 (by unfold r64; omega)
  all_goals first
    | assumption
    | omega
    | (show Region.lexB _ _ = true; kernel_rfl)
    | (simp; done)
    | (intros; first | assumption | trivial | (simp_all; done))
    | exact ⟨by omega, by omega, by omega⟩
    | (refine ⟨(i + 1, back1 xs k m s f a w), ⟨(by show 0 ≤ i + 1 ∧ i + 1 ≤ 30; omega), hrd2, (by show i + 1 ≤ n; omega), hx⟩, (by show 30 - (i + 1).toNat < 30 - i.toNat; omega), told_keep [0, 1, 2] rfl ?_ ?_⟩
       · clear hx hx0 hst hrd2 hp1 hp0 hrd hs hk hm
         simp_all [back1, keepSt, pullBox, pullL, pullD, intD]
         done
       · clear hx hx0 hst hrd2 hp1 hp0 hrd hs hk hm
         simp_all [back1, toldP, getS, pullD, List.idxOf?, List.findIdx?_cons]
         try rw [if_neg (show ¬ (100 : Int) < (s.size : Int) by omega)]
         done)
    | (have hfin : x0 = (ok, a, w) := by
         rw [hx]
         cases ok with
         | false => exact backF_stop _ _ _ rfl
         | true =>
           have hz := ‹(bif true then decide (i < n) else false) = false›
           have hge : ¬ i < n := by simpa using hz
           rw [List.drop_eq_nil_of_le (by rw [List.length_take]; omega)]
           rfl
       clear hx hx0 hp1 hp0 hrd
       refine ret_keep [0, 1] rfl ⟨?_, ?_⟩
       · simp_all [pullD, pullL, boolD, intD]
         done
       · simp_all [keepSt, pullBox, pullL, pullD, intD]
         done)
end Go.Proofs.Ytligainhbdidgaa
