/- Lists with room behind them. No condition. -/
import Derived.Test.YtligainhbdidgaaAm33
import Derived.Test.YtligainhbdidgaaPack
namespace Go.Proofs.Ytligainhbdidgaa
open Go.RowKit
set_option linter.all false
def mark1 (m : Int) : List PD := [.sc (.int .u8 m)]
def roomyX (xs : List (List PD)) (m : Int) : List (List PD) := xs ++ List.replicate 80 (mark1 m)
/-- The cells, when so many places of the room are marked. -/
def roomC (xs : List (List PD)) (m : Int) (k : Nat) : List DV := rowsD xs ++ rowsD (List.replicate k (mark1 m)) ++ rowsD (List.replicate (80 - k) (mark1 0))
theorem told_st {k : Nat} {s s' : SL} {st st' : Store} (h : st = st') (hs : toldP id s s') : Told k s st s' st' := by subst h; exact told_less hs
theorem rowsD_rep (n : Nat) (p : PD) : rowsD (List.replicate n [p]) = List.replicate n (.d p) := by
  induction n with
  | zero => rfl
  | succ n ih => rw [List.replicate_succ, List.replicate_succ, ← ih]; rfl
theorem room0 {xs : List (List PD)} {m : Int} (h : (rowsD xs).length = xs.length) : splice (List.replicate ((xs.length : Int) + 80).toNat [DV.d (.sc (.int .u8 0))]).flatten 0 (rowsD xs) = roomC xs m 0 := by
  have e : (List.replicate ((xs.length : Int) + 80).toNat [DV.d (.sc (.int .u8 0))]).flatten = List.replicate (xs.length + 80) (DV.d (.sc (.int .u8 0))) := by
    rw [show ((xs.length : Int) + 80).toNat = xs.length + 80 by omega]
    simp
  rw [e]
  simp only [splice, roomC, mark1, rowsD_rep, h]
  simp
theorem splice_one (P Q : List DV) (z d : DV) (o : Nat) (h : o = P.length) : splice (P ++ z :: Q) o [d] = P ++ d :: Q := by
  subst h
  simp [splice]
theorem roomS {xs : List (List PD)} {m : Int} {k : Nat} (h : (rowsD xs).length = xs.length) (hk : k < 80) : splice (roomC xs m k) (0 + (xs.length + k) * 1) [DV.d (.sc (.int .u8 m))] = roomC xs m (k + 1) := by
  simp only [roomC, mark1, rowsD_rep]
  have e : 80 - k = (80 - (k + 1)) + 1 := by omega
  rw [e, List.replicate_succ, splice_one _ _ _ _ _ (by simp [h]), List.replicate_succ']
  simp
theorem roomC_len {xs : List (List PD)} {m : Int} {k : Nat} (h : (rowsD xs).length = xs.length) (hk : k ≤ 80) : (roomC xs m k).length = xs.length + 80 := by
  simp only [roomC, mark1, rowsD_rep, List.length_append, List.length_replicate, h]
  omega
theorem roomE {xs : List (List PD)} {m : Int} : roomC xs m 80 = rowsD (roomyX xs m) := by
  simp [roomC, roomyX, rowsD_append, rowsD]
def isM (m : Int) : Prop := ∃ b : UInt8, m = (b.toNat : Int)

set_option maxRecDepth 100000 in
theorem v_roomy (xs : List (List PD)) (m : Int) (hp0 : isB xs) (hp1 : isM m) : FnV Try.prog 53 [.d (.slc 1 xs), .d (.sc (.int .u8 m))] (.d (.slc 1 (roomyX xs m))) := by
  obtain ⟨bs, hxs, hb⟩ := hp0
  have hl : xs.length = bs.length := by rw [hxs]; exact bytesP_length bs
  have hH : SoundK Try.prog [] := by exact noK_ok
  have hB : SoundB Try.prog [] := by exact noB_ok
  refine FnD_cbv (T := fun _ => tabY [25] []) (H := fun _ => []) (tabY_ok _ _) hH follows_mixed Try.func53 rfl Try.ntmps53 (by simp) fun A X W hA hX hW => ?_
  cbv
  obtain ⟨N, hN⟩ : ∃ N, N = xs.length + 80 := ⟨_, rfl⟩
  have e1 : IntKind.wrap .i64 ((xs.length : Int) + 80) = xs.length + 80 := wrap_i64 (by unfold r64; omega)
  have hsz : (rowsD xs).length = xs.length := by rw [hxs, rowsB_length, bytesP_length]
  refine And.intro ?_ (And.intro ?_ (And.intro ?_ (And.intro ?_ ?_)))
  · subst hA; simp only [A0]; rw [e1]; omega
  · subst hA; simp only [A0]
  · subst hA; simp only [A0]; rw [e1]; omega
  · subst hA; simp only [A0]; rw [e1]; simp [hsz]; omega
  refine loopL (T := fun _ => tabY [25] []) (H := fun _ => []) (tabY_ok _ _) hH follows_mixed hA hX (fun x : List DV × Int => ∃ k : Nat, x.1 = roomC xs m k ∧ x.2 = xs.length + k ∧ k ≤ 80)
    (fun x => [(0, .d (.slc 1 xs)), (1, .d (.sc (.int .u8 m))), (5, .view 1 0 0 0 N), (6, .d (.sc (.int .i64 x.2)))]) (fun x => [⟨5, x.1, false, 0, true⟩])
    (fun x => 80 + xs.length - x.2.toNat) (roomC xs m 0, (xs.length : Int)) ?_ ?_ ?_
  · exact ⟨0, rfl, by simp, by omega⟩
  · subst hA
    refine told_st ?_ ?_
    · simp only [A0]
      rw [e1, room0 (m := m) hsz]
      simp
    · simp only [A0]
      rw [e1]
      simp [toldP, getS, hN]
      omega
  rintro R ⟨cells, i⟩ hR hinv
  cbv
  repeat' first
    | (refine part (fun h => ?_) (fun h => ?_) <;> try cbv)
    | (refine And.intro ?_ ?_)
  all_goals subst hR hA hX hW
  all_goals clear hH hB
  all_goals replace hinv : ∃ k : Nat, cells = roomC xs m k ∧ i = xs.length + k ∧ k ≤ 80 := hinv
  all_goals obtain ⟨k, hc, hi, hk⟩ := hinv
  all_goals simp only [A0, decide_eq_true_eq, decide_eq_false_iff_not] at *
  all_goals have hcl := roomC_len (m := m) hsz hk
  all_goals first
    | omega
    | (rw [hc, hcl]; omega)
    | (have hk8 : k < 80 := by omega
       have ei : IntKind.wrap .i64 (i + 1) = i + 1 := wrap_i64 (by unfold r64; omega)
       have ej : i.toNat = xs.length + k := by omega
       refine ⟨(roomC xs m (k + 1), i + 1), ⟨k + 1, rfl, (by show i + 1 = (xs.length : Int) + ((k + 1 : Nat) : Int); omega), by omega⟩, (by show 80 + xs.length - (i + 1).toNat < 80 + xs.length - i.toNat; omega), told_st (s := _) ?_ ?_⟩
       · rw [hc, ej, roomS hsz hk8]
       · simp [toldP, getS, ei])
    | (have hk8 : k = 80 := by omega
       subst hk8
       refine ret_slice rfl rfl rfl ?_ (by rw [hc]; exact roomE) ?_ rfl
       · simp [roomyX, hN]
       · intro x hx
         simp only [roomyX, List.mem_append, List.mem_replicate] at hx
         rcases hx with hx | ⟨_, rfl⟩
         · rw [hxs] at hx; exact bytesP_sz bs x hx
         · rfl)

def roomP (full xs : List (List PD)) (m : Int) : Prop := full = roomyX xs m
theorem roomy_row {xs : List (List PD)} {m i : Int} (h0 : (xs.length : Int) ≤ i) (h1 : i < xs.length + 80) : (roomyX xs m).getD i.toNat [] = mark1 m := by
  rw [roomyX, List.getD_eq_getElem?_getD, List.getElem?_append_right (by omega), List.getElem?_replicate, if_pos (by omega)]
  rfl
theorem roomy_len (xs : List (List PD)) (m : Int) : (roomyX xs m).length = xs.length + 80 := by simp [roomyX]
theorem roomy_take (xs : List (List PD)) (m : Int) : ((roomyX xs m).drop 0).take xs.length = xs := by simp [roomyX]
theorem isB_len {xs : List (List PD)} (h : isB xs) : xs.length ≤ 8000000 := by
  obtain ⟨bs, rfl, hb⟩ := h
  rw [bytesP_length]; exact hb

set_option maxRecDepth 100000 in
theorem v_intact (full xs : List (List PD)) (m : Int) (hp0 : isB xs) (hp1 : full = roomyX xs m) (hp2 : isM m) : FnV Try.prog 59 [.d (.slc 1 full), .d (.slc 1 xs), .d (.sc (.int .u8 m))] (boolD true) := by
  have hb := isB_len hp0
  have hl : full.length = xs.length + 80 := by rw [hp1, roomy_len]
  obtain ⟨GFsQ, hFsQ⟩ : ∃ F, F = FsQ0 := ⟨_, rfl⟩
  have hH : SoundK Try.prog [kn_same GFsQ] := by subst hFsQ; exact orK_ok ok_same noK_ok
  have hB : SoundB Try.prog [] := by subst hFsQ; exact noB_ok
  refine FnD_cbv (T := fun _ => tabY [33] []) (H := fun _ => [kn_same GFsQ]) (tabY_ok _ _) hH follows_mixed Try.func59 rfl Try.ntmps59 (by simp) fun A X W hA hX hW => ?_
  cbv
  have e1 : IntKind.wrap .i64 ((xs.length : Int) + 80) = xs.length + 80 := wrap_i64 (by unfold r64; omega)
  have ht : (full.drop 0).take xs.length = xs := by rw [hp1]; exact roomy_take xs m
  have hs : sameX xs xs = true := by simp [sameX]
  repeat' first
    | (refine And.intro ?_ ?_)
  rotate_right 1
  refine part (fun h => ?_) (fun h => ?_)
  · exfalso
    subst hA hFsQ
    simp only [A0, FsQ0] at h
    simp [hl, e1, hs, hp1, roomyX] at h
    try omega
  cbv
  refine loopL (T := fun _ => tabY [33] []) (H := fun _ => [kn_same GFsQ]) (tabY_ok _ _) hH follows_mixed hA hX (fun i : Int => (xs.length : Int) ≤ i ∧ i ≤ xs.length + 80)
    (fun i => [(0, .d (.slc 1 full)), (1, .d (.slc 1 xs)), (2, .d (.sc (.int .u8 m))), (7, .d (.sc (.int .i64 i)))]) (fun _ => [])
    (fun i => 80 + xs.length - i.toNat) (xs.length : Int) ?_ ?_ ?_
  · exact ⟨by omega, by omega⟩
  · subst hA
    exact told_less (by simp [toldP, getS, A0])
  rintro R i hR ⟨i0, i1⟩
  cbv
  repeat' first
    | (refine part (fun h => ?_) (fun h => ?_) <;> try cbv)
    | (refine And.intro ?_ ?_)
    | (with_reducible refine callB hX hB ?_) <;> cbv
  all_goals try subst hR
  all_goals subst hA hX hW hFsQ
  all_goals clear hH hB
  all_goals simp only [A0, FsQ0, decide_eq_true_eq, decide_eq_false_iff_not, Bool.not_eq_true', Bool.not_eq_false'] at *
  all_goals try replace i0 : (xs.length : Int) ≤ i := i0
  all_goals try replace i1 : i ≤ (xs.length : Int) + 80 := i1
  all_goals first
    | assumption
    | omega
    | (rw [hp1, roomy_row i0 (by omega)]; simp [mark1]; done)
    | (exfalso; rw [hp1, roomy_row i0 (by omega)] at h; simp [mark1] at h; done)
    | exact ret_v rfl rfl
    | (have ei : IntKind.wrap .i64 (i + 1) = i + 1 := wrap_i64 (by unfold r64; omega)
       refine ⟨i + 1, (by show (xs.length : Int) ≤ i + 1 ∧ i + 1 ≤ (xs.length : Int) + 80; omega), (by show 80 + xs.length - (i + 1).toNat < 80 + xs.length - i.toNat; omega), told_less ?_⟩
       simp [toldP, getS, ei])
    | (intros; first | assumption | trivial | (simp_all; done) | (rw [show ((xs.length : Int)).toNat - Int.toNat 0 = xs.length by omega]; rw [show Int.toNat 0 = 0 from rfl, ht]; assumption) | (refine ⟨?_, ?_, ?_⟩ <;> omega))

structure FsU where
  roomy : List (List PD) → Int → List (List PD)
  roomP : List (List PD) → List (List PD) → Int → Prop
  isB : List (List PD) → Prop
  isM : Int → Prop
  intact : List (List PD) → List (List PD) → Int → Bool
def FsU0 : FsU where
  roomy := roomyX
  roomP := roomP
  isB := isB
  isM := isM
  intact := fun _ _ _ => true
def kn_roomy (F : FsU) : FuncId × (List DV → RV) := (53, fun args => match args with
  | [.d (.slc 1 xs), .d (.sc (.int .u8 m))] => some ([F.isB xs, F.isM m], .d (.slc 1 (F.roomy xs m)))
  | [.d (.sc (.slice none 0 0)), .d (.sc (.int .u8 m))] => some ([F.isB [], F.isM m], .d (.slc 1 (F.roomy [] m)))
  | _ => none)
theorem ok_roomy (args : List DV) (cs : List Prop) (r : DV) (h : (kn_roomy FsU0).2 args = some (cs, r)) (hc : allP cs True) : FnV Try.prog 53 args r ∧ closedL 0 args = true := by
  unfold kn_roomy at h
  simp only at h
  split at h
  · cases h; exact ⟨v_roomy _ _ hc.1 hc.2.1, rfl⟩
  · cases h; exact ⟨FnP.nils (v_roomy [] _ hc.1 hc.2.1) ⟨.inr ⟨rfl, _, rfl⟩, ⟨.inl rfl, trivial⟩⟩, rfl⟩
  · cases h
def kn_intact (F : FsU) : FuncId × (List DV → RV) := (59, fun args => match args with
  | [.d (.slc 1 full), .d (.slc 1 xs), .d (.sc (.int .u8 m))] => some ([F.isB xs, F.roomP full xs m, F.isM m], boolD ((F.intact full xs m)))
  | [.d (.sc (.slice none 0 0)), .d (.slc 1 xs), .d (.sc (.int .u8 m))] => some ([F.isB xs, F.roomP [] xs m, F.isM m], boolD ((F.intact [] xs m)))
  | [.d (.slc 1 full), .d (.sc (.slice none 0 0)), .d (.sc (.int .u8 m))] => some ([F.isB [], F.roomP full [] m, F.isM m], boolD ((F.intact full [] m)))
  | [.d (.sc (.slice none 0 0)), .d (.sc (.slice none 0 0)), .d (.sc (.int .u8 m))] => some ([F.isB [], F.roomP [] [] m, F.isM m], boolD ((F.intact [] [] m)))
  | _ => none)
theorem ok_intact (args : List DV) (cs : List Prop) (r : DV) (h : (kn_intact FsU0).2 args = some (cs, r)) (hc : allP cs True) : FnV Try.prog 59 args r ∧ closedL 0 args = true := by
  unfold kn_intact at h
  simp only at h
  split at h
  · cases h; exact ⟨v_intact _ _ _ hc.1 hc.2.1 hc.2.2.1, rfl⟩
  · cases h; exact ⟨FnP.nils (v_intact [] _ _ hc.1 hc.2.1 hc.2.2.1) ⟨.inr ⟨rfl, _, rfl⟩, ⟨.inl rfl, ⟨.inl rfl, trivial⟩⟩⟩, rfl⟩
  · cases h; exact ⟨FnP.nils (v_intact _ [] _ hc.1 hc.2.1 hc.2.2.1) ⟨.inl rfl, ⟨.inr ⟨rfl, _, rfl⟩, ⟨.inl rfl, trivial⟩⟩⟩, rfl⟩
  · cases h; exact ⟨FnP.nils (v_intact [] [] _ hc.1 hc.2.1 hc.2.2.1) ⟨.inr ⟨rfl, _, rfl⟩, ⟨.inr ⟨rfl, _, rfl⟩, ⟨.inl rfl, trivial⟩⟩⟩, rfl⟩
  · cases h
end Go.Proofs.Ytligainhbdidgaa
