/- Chapter 12: no number is New twice. No condition. -/
import Derived.Test.YtjlbdfehkbcmfaaDed
import Derived.Test.YtjlbdfehkbcmfaaAm40
namespace Go.Proofs.Ytjlbdfehkbcmfaa
open Go.RowKit
set_option linter.all false
set_option maxHeartbeats 4000000
/-- An owner whose last number is n. -/
def onceO (k : Nat) (n : Int) : Owner := if n = 0 then ⟨0, zeroRep⟩ else ⟨n, ⟨0, false, none8, 100 * ((k : Int) + 1) + n, []⟩⟩
def onceOs (last : List Int) : List Owner := last.mapIdx onceO
theorem onceOs_length (last : List Int) : (onceOs last).length = last.length := by simp [onceOs]
theorem onceOs_isP (last : List Int) : ∀ o ∈ onceOs last, isP o.reply.pairs := by
  intro o ho
  simp only [onceOs, List.mem_mapIdx] at ho
  obtain ⟨k, hk, rfl⟩ := ho
  unfold onceO
  split <;> exact isP.nil
theorem onceOs_set (last : List Int) (k : Nat) (n : Int) : (onceOs last).set k (onceO k n) = onceOs (last.set k n) := by
  apply List.ext_getElem
  · simp [onceOs]
  · intro j h1 h2
    simp only [onceOs, List.getElem_set, List.getElem_mapIdx]
    split
    · rename_i e; subst e; rfl
    · rfl
def isOnce (cs : List DV) (last : List Int) : Prop := last.length = 8 ∧ (∀ n ∈ last, 0 ≤ n ∧ n ≤ 9) ∧ upCs cs = ownsD (onceOs last)
theorem isOnce.own {cs : List DV} {last : List Int} (h : isOnce cs last) : isOwnU cs := ⟨onceOs last, (onceOs_length last).trans h.1, h.2.2, onceOs_isP last⟩
theorem isOnce.start : isOnce Z48 (List.replicate 8 0) := ⟨rfl, by intro n hn; rw [List.eq_of_mem_replicate hn]; decide, rfl⟩
theorem isOnce.note {cs : List DV} {last : List Int} (h : isOnce cs last) {c s : Int} (hc : 1 ≤ c ∧ c ≤ 8) (hs : 1 ≤ s ∧ s ≤ 9) :
    isOnce (noteU cs c s ⟨0, false, none8, 100 * c + s, []⟩) (last.set (c - 1).toNat s) := by
  have hk : knownX c = true := by simp only [knownX, Bool.and_eq_true, decide_eq_true_eq]; omega
  obtain ⟨h1, h2, h3⟩ := h
  have hl : (onceOs last).length = 8 := (onceOs_length last).trans h1
  have e := noteX_D hl h3 c s ⟨0, false, none8, 100 * c + s, []⟩
  have e2 : noteOs (onceOs last) c s ⟨0, false, none8, 100 * c + s, []⟩ = onceOs (last.set (c - 1).toNat s) := by
    unfold noteOs
    rw [hk, cond_true, ← onceOs_set]
    congr 1
    unfold onceO
    rw [if_neg (by omega), show 100 * (((c - 1).toNat : Int) + 1) = 100 * c by omega]
  refine ⟨by rw [List.length_set]; exact h1, ?_, ?_⟩
  · intro n hn
    rcases List.mem_or_eq_of_mem_set hn with hn | rfl
    · exact h2 n hn
    · omega
  · have ho : isOwn (noteU cs c s ⟨0, false, none8, 100 * c + s, []⟩) := ⟨_, (noteOs_length _ _ _ _).trans hl, e, noteOs_isP (onceOs_isP last) isP.nil _ _⟩
    rw [own_up ho, ← e2]
    exact e
theorem isOnce.look {cs : List DV} {last : List Int} (h : isOnce cs last) {c : Int} (hc : 1 ≤ c ∧ c ≤ 8) (s : Int) (n : Int) (hn : last[(c - 1).toNat]? = some n) :
    lookU cs c s = bif decide (n < s) then (1, zeroRep) else bif decide (s = n) then (2, (onceO (c - 1).toNat n).reply) else (3, zeroRep) := by
  have hk : knownX c = true := by simp only [knownX, Bool.and_eq_true, decide_eq_true_eq]; omega
  obtain ⟨h1, h2, h3⟩ := h
  have hl : (c - 1).toNat < (onceOs last).length := by rw [onceOs_length]; omega
  have e : ownOf (upCs cs) (c - 1).toNat = onceO (c - 1).toNat n := by
    rw [ownOf_D h3 _ hl]
    obtain ⟨hq, rfl⟩ := List.getElem?_eq_some_iff.1 hn
    simp only [onceOs, List.getElem_mapIdx]
  have es : (onceO (c - 1).toNat n).seq = n := by
    unfold onceO
    split
    · rename_i h0; exact h0.symm
    · rfl
  unfold lookU lookX
  rw [hk, e, es]
  rfl
theorem isOnce.right {cs : List DV} {last : List Int} (h : isOnce cs last) : rightU cs = true := by
  obtain ⟨h1, h2, h3⟩ := h
  have hl : (onceOs last).length = 8 := (onceOs_length last).trans h1
  unfold rightU rightO
  rw [ownersOf_D hl h3]
  have key : ∀ os : List Owner, (∀ o ∈ os, okO o = true) → rightOs os = true := by
    intro os
    induction os with
    | nil => intro _; rfl
    | cons o os ih =>
      intro ho
      show (okO o && rightOs os) = true
      rw [ho o (by simp), ih fun q hq => ho q (by simp [hq])]
      rfl
  refine key _ fun o ho => ?_
  simp only [onceOs, List.mem_mapIdx] at ho
  obtain ⟨k, hk, rfl⟩ := ho
  have hb := h2 _ (List.getElem_mem hk)
  generalize last[k] = n at hb
  unfold onceO
  split
  · rfl
  · rename_i h0
    have e1 : decide ((0 : Int) ≤ n) = true := decide_eq_true hb.1
    have e2 : decide (n ≤ 1099511627776) = true := decide_eq_true (by omega)
    have e3 : decide ((0 : Int) ≤ 100 * ((k : Int) + 1) + n) = true := decide_eq_true (by omega)
    have e4 : decide (n = 0) = false := decide_eq_false h0
    simp only [okO, rightRep, e1, e2, e3, e4]
    rfl

/-- A row of numbers. -/
def numsX (ns : List Int) : List (List PD) := ns.map fun n => [.sc (.int .i64 n)]
theorem nrow {xs : List (List PD)} {ns : List Int} (hxs : xs = numsX ns) {i : Int} (h0 : 0 ≤ i) (h1 : i < ns.length) : xs.getD i.toNat [] = [.sc (.int .i64 (ns[i.toNat]'(by omega)))] := by
  subst hxs
  have : i.toNat < ns.length := by omega
  simp [numsX, List.getD_eq_getElem?_getD, this]
theorem numsX_length (ns : List Int) : (numsX ns).length = ns.length := by simp [numsX]
def numsD (ns : List Int) : List DV := ns.map fun n => .d (.sc (.int .i64 n))
def doneC (ds : List (Int × Int)) : List DV := (ds.map fun p => [DV.d (.sc (.int .i64 p.1)), .d (.sc (.int .i64 p.2))]).flatten
/-- The row of what is done: nothing, or a slice of one's own. -/
def doneV : Nat → Nat → DV
  | 0, _ => .d (.sc (.slice none 0 0))
  | n + 1, v => .view 2 2 v 0 (n + 1)
def doneB : Nat → List DV → Nat → Store
  | 0, _, _ => []
  | n + 1, dc, v => [⟨51, dc, true, v, true⟩]
theorem fit48 {cs : List DV} (h : cs.length = 48) : A0.fitv cs 0 1 48 := by show 0 + 1 * 48 ≤ cs.length; omega
theorem upC_d {c : DV} {p : PD} (h : upC c = .d p) : ∃ q, c = .d q := by
  unfold upC at h
  split at h
  · exact ⟨_, rfl⟩
  · exact ⟨_, h⟩
theorem owns_d (os : List Owner) : ∀ c ∈ ownsD os, ∃ p, c = DV.d p := by
  intro c hc
  simp only [ownsD, List.mem_flatten, List.mem_map] at hc
  obtain ⟨_, ⟨o, _, rfl⟩, hc⟩ := hc
  simp only [Owner.cells, List.mem_cons, List.not_mem_nil, or_false] at hc
  rcases hc with rfl | rfl | rfl | rfl | rfl | rfl <;> exact ⟨_, rfl⟩
theorem plain_pull (κ : List Nat) {cs : List DV} (h : ∀ c ∈ cs, ∃ p, c = DV.d p) : pullL κ cs = cs := by
  rw [pullL_eq]
  have : ∀ c ∈ cs, pullD κ c = c := fun c hc => by obtain ⟨p, rfl⟩ := h c hc; rfl
  rw [List.map_congr_left this, List.map_id']
theorem isOnce.pull (κ : List Nat) {cs : List DV} {last : List Int} (h : isOnce cs last) : pullL κ cs = cs := by
  refine plain_pull κ fun c hc => ?_
  have h1 : upC c ∈ upCs cs := List.mem_map_of_mem hc
  rw [h.2.2] at h1
  obtain ⟨p, hp⟩ := owns_d _ _ h1
  exact upC_d hp
theorem nums_pull (κ : List Nat) (last : List Int) : pullL κ (numsD last) = numsD last := plain_pull κ fun c hc => by
  simp only [numsD, List.mem_map] at hc
  obtain ⟨n, _, rfl⟩ := hc
  exact ⟨_, rfl⟩
theorem done_pull (κ : List Nat) (ds : List (Int × Int)) : pullL κ (doneC ds) = doneC ds := plain_pull κ fun c hc => by
  simp only [doneC, List.mem_flatten, List.mem_map] at hc
  obtain ⟨_, ⟨p, _, rfl⟩, hc⟩ := hc
  simp only [List.mem_cons, List.not_mem_nil, or_false] at hc
  rcases hc with rfl | rfl <;> exact ⟨_, rfl⟩
theorem nums_gi {last : List Int} {k : Nat} {n : Int} (h : last[k]? = some n) : A0.gi (numsD last) k = n := by
  simp only [A0, numsD, List.getElem?_map, h]
  rfl
theorem nums_has {last : List Int} {k : Nat} {n : Int} (h : last[k]? = some n) : A0.has (numsD last) k 1 [.d (.sc (.int .i64 n))] := by
  obtain ⟨hk, hn⟩ := List.getElem?_eq_some_iff.1 h
  refine ⟨rfl, by simp [numsD]; omega, ?_⟩
  have : k < (numsD last).length := by simp [numsD]; exact hk
  rw [List.drop_eq_getElem_cons this]
  simp [numsD, hn]
theorem nums_spl {last : List Int} {k : Nat} (h : k < last.length) (n : Int) : splice (numsD last) k [.d (.sc (.int .i64 n))] = numsD (last.set k n) := by
  have h2 : k < (numsD last).length := by simp [numsD]; exact h
  apply List.ext_getElem?
  intro j
  rw [show numsD (last.set k n) = (numsD last).set k (.d (.sc (.int .i64 n))) by simp [numsD, List.map_set]]
  rw [splice, List.length_singleton, List.set_eq_take_append_cons_drop, if_pos h2]
  simp
structure OnceS where
  i : Int
  cs : List DV
  ls : List DV
  n : Nat
  dc : List DV
  ver : Nat
def OnceI (x : OnceS) : Prop := (0 ≤ x.i ∧ x.i ≤ 60) ∧ ∃ (last : List Int) (done : List (Int × Int)), isOnce x.cs last ∧ x.ls = numsD last ∧ x.n = done.length ∧ x.dc = doneC done ∧ done.length ≤ x.i.toNat ∧
  ∀ p ∈ done, 1 ≤ p.1 ∧ p.1 ≤ 8 ∧ 1 ≤ p.2 ∧ ∃ n, last[(p.1 - 1).toNat]? = some n ∧ p.2 ≤ n
theorem done_row : ∀ {done : List (Int × Int)} {j : Nat} (h : j < done.length), (doneC done).drop (j * 2) = .d (.sc (.int .i64 done[j].1)) :: .d (.sc (.int .i64 done[j].2)) :: doneC (done.drop (j + 1))
  | p :: done, 0, _ => rfl
  | p :: done, j + 1, h => by
      have h2 : j < done.length := by simpa using h
      have e : doneC (p :: done) = .d (.sc (.int .i64 p.1)) :: .d (.sc (.int .i64 p.2)) :: doneC done := rfl
      rw [e, show (j + 1) * 2 = j * 2 + 2 by omega]
      exact done_row h2
theorem doneC_length : ∀ done : List (Int × Int), (doneC done).length = done.length * 2
  | [] => rfl
  | p :: done => by
      have e : doneC (p :: done) = .d (.sc (.int .i64 p.1)) :: .d (.sc (.int .i64 p.2)) :: doneC done := rfl
      rw [e, List.length_cons, List.length_cons, doneC_length done, List.length_cons]
      omega
theorem doneC_app (done : List (Int × Int)) (p : Int × Int) : doneC done ++ [.d (.sc (.int .i64 p.1)), .d (.sc (.int .i64 p.2))] = doneC (done ++ [p]) := by simp [doneC]
theorem done_has {done : List (Int × Int)} {j : Nat} (h : j < done.length) : A0.has (doneC done) (j * 2) 2 [.d (.sc (.int .i64 done[j].1)), .d (.sc (.int .i64 done[j].2))] := by
  refine ⟨rfl, by rw [doneC_length]; omega, ?_⟩
  rw [done_row h]
  rfl
theorem done_gi {done : List (Int × Int)} {j : Nat} (h : j < done.length) : A0.gi (doneC done) (j * 2) = done[j].1 ∧ A0.gi (doneC done) (j * 2 + 1) = done[j].2 := by
  have e := done_row h
  have e0 : (doneC done)[j * 2]? = some (.d (.sc (.int .i64 done[j].1))) := by rw [← List.head?_drop, e]; rfl
  have e1 : (doneC done)[j * 2 + 1]? = some (.d (.sc (.int .i64 done[j].2))) := by rw [← List.getElem?_drop, e]; rfl
  simp only [A0, e0, e1]
  exact ⟨trivial, trivial⟩
theorem once_inv {last : List Int} {done : List (Int × Int)} {c s n0 : Int} (h : ∀ p ∈ done, 1 ≤ p.1 ∧ p.1 ≤ 8 ∧ 1 ≤ p.2 ∧ ∃ n, last[(p.1 - 1).toNat]? = some n ∧ p.2 ≤ n) (hc : 1 ≤ c ∧ c ≤ 8) (hs : 1 ≤ s ∧ s ≤ 9) (hn0 : last[(c - 1).toNat]? = some n0) (hlt : n0 < s) :
    ∀ p ∈ done ++ [(c, s)], 1 ≤ p.1 ∧ p.1 ≤ 8 ∧ 1 ≤ p.2 ∧ ∃ n, (last.set (c - 1).toNat s)[(p.1 - 1).toNat]? = some n ∧ p.2 ≤ n := by
  have hk : (c - 1).toNat < last.length := (List.getElem?_eq_some_iff.1 hn0).1
  have hset : (last.set (c - 1).toNat s)[(c - 1).toNat]? = some s := by rw [List.getElem?_set_self hk]
  intro p hp
  rcases List.mem_append.1 hp with hp | hp
  · obtain ⟨a1, a2, a3, n, a4, a5⟩ := h p hp
    refine ⟨a1, a2, a3, ?_⟩
    by_cases e : p.1 = c
    · rw [e] at a4 ⊢
      rw [hn0, Option.some.injEq] at a4
      exact ⟨s, hset, by omega⟩
    · refine ⟨n, ?_, a5⟩
      rw [List.getElem?_set_ne (by omega)]
      exact a4
  · rw [List.mem_singleton] at hp
    subst hp
    exact ⟨hc.1, hc.2, hs.1, s, hset, Int.le_refl _⟩
theorem splice48 {zs ds : List DV} (h1 : zs.length = 48) (h2 : ds.length = 48) : splice zs 0 ds = ds := by
  simp only [splice, List.take_zero, List.nil_append, Nat.zero_add, h2]
  rw [List.drop_eq_nil_of_le (by omega), List.append_nil]
theorem bif3 {a b c : Bool} (h : (bif (bif a then b else false) then c else false) = true) : (a = true ∧ b = true) ∧ c = true := by cases a <;> cases b <;> cases c <;> simp_all
theorem once_bit {xs : List (List PD)} {ns : List Int} (hxs : xs = numsX ns) (hr : ∀ n ∈ ns, r64 n) {i : Int} (h0 : 0 ≤ i) (h1 : i < xs.length) : ∃ n, xs.getD i.toNat [] = [.sc (.int .i64 n)] ∧ r64 n := by
  have h2 : i < ns.length := by rw [hxs, numsX_length] at h1; exact h1
  exact ⟨_, nrow hxs h0 h2, hr _ (List.getElem_mem _)⟩

set_option maxRecDepth 100000 in
theorem v_once (xs : List (List PD)) (ys : List (List PD)) (hp0 : ∃ ns, xs = numsX ns ∧ ns.length ≤ 1048576 ∧ ∀ n ∈ ns, r64 n) (hp1 : ∃ ns, ys = numsX ns ∧ ns.length ≤ 1048576 ∧ ∀ n ∈ ns, r64 n) : FnV Try.prog 7 [.d (.slc 1 xs), .d (.slc 1 ys)] (boolD (((fun (_ _ : List (List PD)) => true) xs ys))) := by
  obtain ⟨ns, hxs, hnl, hnr⟩ := hp0
  obtain ⟨ms, hys, hml, hmr⟩ := hp1
  have hxl : xs.length ≤ 1048576 := by rw [hxs, numsX_length]; exact hnl
  have hyl : ys.length ≤ 1048576 := by rw [hys, numsX_length]; exact hml
  obtain ⟨GFsW, hGFsW⟩ : ∃ F, F = FsW0 := ⟨_, rfl⟩
  obtain ⟨GFsD, hGFsD⟩ : ∃ F, F = FsD0 := ⟨_, rfl⟩
  have hH : SoundK Try.prog [kn_within3 GFsW, kn_lookU GFsD, kn_noteU GFsD, kn_rightU GFsD, kn_runs GFsD] := by subst hGFsW hGFsD; exact orK_ok ok_within3 (orK_ok ok_lookU (orK_ok ok_noteU (orK_ok ok_rightU (orK_ok ok_runs noK_ok))))
  refine FnD_cbv (T := fun _ => tabY [0, 1, 33, 38, 59, 83, 89, 106, 1005, 1079] []) (H := fun _ => [kn_within3 GFsW, kn_lookU GFsD, kn_noteU GFsD, kn_rightU GFsD, kn_runs GFsD]) (tabY_ok _ _) hH follows_mixed Try.func7 rfl Try.ntmps7 (by simp) fun A X W hA hX hW => ?_
  cbv
  refine loopL (T := fun _ => tabY [0, 1, 33, 38, 59, 83, 89, 106, 1005, 1079] [8]) (H := fun _ => [kn_within3 GFsW, kn_lookU GFsD, kn_noteU GFsD, kn_rightU GFsD, kn_runs GFsD]) (tabY_ok _ _) hH follows_mixed hA hX OnceI
    (fun x => [(0, .d (.slc 1 xs)), (1, .d (.slc 1 ys)), (5, .ref 0 0 0), (6, doneV x.n x.ver), (7, .ref 1 0 0), (8, .d (.sc (.int .i64 x.i)))]) (fun x => [⟨28, x.cs, false, 0, true⟩, ⟨49, x.ls, false, 0, true⟩] ++ doneB x.n x.dc x.ver)
    (fun x => 60 - x.i.toNat) ⟨0, Z48, numsD (List.replicate 8 0), 0, [], 0⟩ ?_ ?_ ?_
  · exact ⟨⟨by decide, by decide⟩, List.replicate 8 0, [], isOnce.start, rfl, rfl, rfl, Nat.zero_le _, fun p hp => absurd hp (by simp)⟩
  · exact told_less ⟨.inl rfl, .inl rfl, .inl rfl, .inl rfl, .inl rfl, .inl rfl, trivial⟩
  rintro R ⟨i, cs, ls, n, dc, ver⟩ hR ⟨⟨i0, i1⟩, last, done, i2, i3, i4, i5, i6, i7⟩
  replace i0 : 0 ≤ i := i0
  replace i1 : i ≤ 60 := i1
  replace i2 : isOnce cs last := i2
  replace i3 : ls = numsD last := i3
  replace i4 : n = done.length := i4
  replace i5 : dc = doneC done := i5
  replace i6 : done.length ≤ i.toNat := i6
  obtain ⟨c, hc⟩ : ∃ c, GFsW.within3 (A.gi (A.lift (A.row xs i)) 0) 1 8 = c := ⟨_, rfl⟩
  obtain ⟨s, hs⟩ : ∃ s, GFsW.within3 (A.gi (A.lift (A.row ys i)) 0) 1 9 = s := ⟨_, rfl⟩
  have hc8 : 1 ≤ c ∧ c ≤ 8 := by
    subst hGFsW
    rw [← hc]
    simp only [FsW0, within3]
    omega
  have hs9 : 1 ≤ s ∧ s ≤ 9 := by
    subst hGFsW
    rw [← hs]
    simp only [FsW0, within3]
    omega
  cbv at hc hs
  have i48 := i2.own.len
  have e48 : A.tk cs 0 1 48 = cs := by subst hA; exact tk48 i48
  have f48 : A.fitv cs 0 1 48 := by subst hA; exact fit48 i48
  cbv at e48 f48
  have hlen8 : last.length = 8 := i2.1
  obtain ⟨n0, hn0⟩ : ∃ n0, last[(c - 1).toNat]? = some n0 := ⟨_, List.getElem?_eq_getElem (by omega)⟩
  have hlk := i2.look hc8 s n0 hn0
  have c11 : A.cmp .eql 1 1 = true := by subst hA; rfl
  have c12 : A.cmp .eql 1 2 = false := by subst hA; rfl
  have c21 : A.cmp .eql 2 1 = false := by subst hA; rfl
  have c22 : A.cmp .eql 2 2 = true := by subst hA; rfl
  have c31 : A.cmp .eql 3 1 = false := by subst hA; rfl
  have c32 : A.cmp .eql 3 2 = false := by subst hA; rfl
  have c33 : A.cmp .eql 3 3 = true := by subst hA; rfl
  have c00 : A.cmp .lss 0 0 = false := by subst hA; rfl
  cbv at c11 c12 c21 c22 c31 c32 c33 c00
  rcases n with _ | n
  cbv
  · repeat' first
      | (refine And.intro ?_ ?_)
    rotate_right 1
    · refine part (fun h1 => ?_) (fun h1 => ?_)
      · cbv
        repeat' first
          | (refine And.intro ?_ ?_)
        rotate_right 1
        · simp only [hc, hs]
          have hb : (i < (xs.length : Int) ∧ i < (ys.length : Int)) ∧ i < 60 := by (subst hA; have h2 := bif3 h1; exact ⟨⟨of_decide_eq_true h2.1.1, of_decide_eq_true h2.1.2⟩, of_decide_eq_true h2.2⟩)
          have wc : IntKind.wrap .i64 (c - 1) = c - 1 := wrap_i64 (by unfold r64; omega)
          have wi : IntKind.wrap .i64 (i + 1) = i + 1 := wrap_i64 (by unfold r64; omega)
          have wv1 : IntKind.wrap .i64 (100 * c) = 100 * c := wrap_i64 (by unfold r64; omega)
          have wv2 : IntKind.wrap .i64 (100 * c + s) = 100 * c + s := wrap_i64 (by unfold r64; omega)
          have hck : (c - 1).toNat < last.length := by omega
          rcases Int.lt_trichotomy n0 s with hlt | heq | hgt
          · have hl : GFsD.lookU cs c s = (1, zeroRep) := by subst hGFsD; show lookU cs c s = _; rw [hlk, decide_eq_true hlt]; rfl
            have hno := isOnce.note i2 hc8 hs9
            cbv at hl
            with_reducible refine goL (T := fun _ => tabY [0, 1, 33, 38, 59, 83, 89, 106, 1005, 1079] []) (H := fun _ => [kn_within3 GFsW, kn_lookU GFsD, kn_noteU GFsD, kn_rightU GFsD, kn_runs GFsD]) (tabY_ok _ _) hH follows_mixed hA hX ?_
            cbv
            simp only [e48, hl]
            cbv
            simp only [c11]
            cbv
            refine And.intro (by subst hA; rfl) (And.intro f48 (And.intro (by subst hGFsD; exact i2.own) ?_))
            refine unrollL (T := fun _ => tabY [0, 1, 33, 38, 59, 83, 89, 106, 1005, 1079] []) (H := fun _ => [kn_within3 GFsW, kn_lookU GFsD, kn_noteU GFsD, kn_rightU GFsD, kn_runs GFsD]) (tabY_ok _ _) hH follows_mixed hA hX 1 fun R2 hR2 => ?_
            cbv
            refine hR2 _ _ _ ?_
            cbv
            simp only [c00]
            cbv
            clear hR2
            simp only [e48]
            repeat' first
              | (refine And.intro ?_ ?_)
            all_goals clear hH c00 c11 c12 c21 c22 c31 c32 c33 hc hs
            all_goals subst hA hX hW hGFsW hGFsD hR
            all_goals simp only [A0, FsD0, nc, wc, wv1, wv2]
            all_goals first
              | rfl
              | trivial
              | exact i2.own
              | exact isP.nil
              | exact f48
              | (show 0 + 48 ≤ cs.length; omega)
              | (show _ = 48 * 1; exact hno.own.len)
              | exact ⟨by omega, by omega⟩
              | (rw [i3]; show 0 + (c - 1).toNat * 1 + 1 ≤ (numsD last).length; simp only [numsD, List.length_map]; omega)
              | (show 0 + 1 * 2 ≤ _; simp; done)
              | (rw [i5, doneC_length, ← i4]; done)
              | (rw [i5, doneC_length, ← i4]; rfl)
              | skip
            refine ⟨⟨i + 1, noteU cs c s ⟨0, false, none8, 100 * c + s, []⟩, numsD (last.set (c - 1).toNat s), 1, doneC [(c, s)], 0⟩, ⟨⟨by show 0 ≤ i + 1; omega, by show i + 1 ≤ 60; omega⟩, last.set (c - 1).toNat s, [(c, s)], hno, rfl, rfl, rfl, by show 1 ≤ (i + 1).toNat; omega, ?_⟩, ?_, ?_⟩
            · have e0 : done = [] := List.eq_nil_of_length_eq_zero i4.symm
              rw [e0] at i7
              exact once_inv i7 hc8 hs9 hn0 hlt
            · show 60 - (i + 1).toNat < 60 - i.toNat; omega
            · have es : splice cs 0 (noteU cs c s ⟨0, false, none8, 100 * c + s, []⟩) = noteU cs c s ⟨0, false, none8, 100 * c + s, []⟩ := splice48 i48 hno.own.len
              have el : splice ls (0 + (c - 1).toNat * 1) [.d (.sc (.int .i64 s))] = numsD (last.set (c - 1).toNat s) := by rw [i3, Nat.zero_add, Nat.mul_one]; exact nums_spl hck s
              simp only [es, el]
              refine told_keep [0, 1, 4] rfl ?_ ⟨.inl rfl, .inl rfl, .inl rfl, .inl rfl, .inl rfl, .inl (congrArg (fun n => DV.d (.sc (.int .i64 n))) wi.symm), trivial⟩
              simp [keepSt, pullBox, hno.pull, nums_pull, doneB, pullL, pullD, doneC]
          · obtain ⟨v, hv⟩ : ∃ v, v = 100 * c + s := ⟨_, rfl⟩
            have hl : GFsD.lookU cs c s = (2, ⟨0, false, none8, v, []⟩) := by
              subst hGFsD
              rw [hv]
              show lookU cs c s = _
              rw [hlk, decide_eq_false (by omega), decide_eq_true heq.symm]
              show (2, (onceO (c - 1).toNat n0).reply) = _
              unfold onceO
              rw [if_neg (by omega), heq, show 100 * (((c - 1).toNat : Int) + 1) = 100 * c by omega]
            cbv at hl
            with_reducible refine goL (T := fun _ => tabY [0, 1, 33, 38, 59, 83, 89, 106, 1005, 1079] []) (H := fun _ => [kn_within3 GFsW, kn_lookU GFsD, kn_noteU GFsD, kn_rightU GFsD, kn_runs GFsD]) (tabY_ok _ _) hH follows_mixed hA hX ?_
            cbv
            simp only [e48, hl]
            cbv
            simp only [c21, c22]
            cbv
            simp only [c21, c22]
            cbv
            repeat' first
              | (refine part (fun h => ?_) (fun h => ?_) <;> try cbv)
              | (refine And.intro ?_ ?_)
            all_goals clear hH c00 c11 c12 c21 c22 c31 c32 c33 hc hs
            all_goals subst hA hX hW hGFsW hGFsD hR
            all_goals have hgi : A0.gi ls (0 + (c - 1).toNat * 1) = n0 := by rw [i3, Nat.zero_add, Nat.mul_one]; exact nums_gi hn0
            all_goals have hhas : A0.has ls (0 + (c - 1).toNat * 1) 1 [.d (.sc (.int .i64 n0))] := by rw [i3, Nat.zero_add, Nat.mul_one]; exact nums_has hn0
            all_goals simp only [A0, FsD0, nc, wc, wv1, wv2] at *
            all_goals try simp only [hgi] at *
            all_goals first
              | rfl
              | trivial
              | exact i2.own
              | exact f48
              | exact hhas
              | exact ⟨by omega, by omega⟩
              | (intros; first | assumption | trivial)
              | (intro hq; revert hq; generalize decide (s = n0) = b; cases b <;> simp; done)
              | (exfalso; simp [hv, heq] at h; done)
              | (exfalso; simp at h; omega)
              | (exfalso; simp_all; done)
              | (refine ⟨⟨i + 1, cs, numsD last, 0, [], 0⟩, ⟨⟨by show 0 ≤ i + 1; omega, by show i + 1 ≤ 60; omega⟩, last, done, i2, rfl, i4, by rw [List.eq_nil_of_length_eq_zero i4.symm]; rfl, by show done.length ≤ (i + 1).toNat; omega, i7⟩, by show 60 - (i + 1).toNat < 60 - i.toNat; omega, ?_⟩
                 refine told_keep [0, 1] rfl ?_ ⟨.inl rfl, .inl rfl, .inl rfl, .inl rfl, .inl rfl, .inl (congrArg (fun n => DV.d (.sc (.int .i64 n))) wi.symm), trivial⟩
                 simp [keepSt, pullBox, i2.pull, i3, nums_pull, doneB, pullL, pullD, doneC])
          · have hl : GFsD.lookU cs c s = (3, zeroRep) := by
              subst hGFsD
              show lookU cs c s = _
              rw [hlk, decide_eq_false (by omega), decide_eq_false (by omega)]
              rfl
            cbv at hl
            with_reducible refine goL (T := fun _ => tabY [0, 1, 33, 38, 59, 83, 89, 106, 1005, 1079] []) (H := fun _ => [kn_within3 GFsW, kn_lookU GFsD, kn_noteU GFsD, kn_rightU GFsD, kn_runs GFsD]) (tabY_ok _ _) hH follows_mixed hA hX ?_
            cbv
            simp only [e48, hl]
            cbv
            simp only [c31, c32, c33]
            cbv
            simp only [c31, c32, c33]
            cbv
            simp only [c31, c32, c33]
            cbv
            repeat' first
              | (refine part (fun h => ?_) (fun h => ?_) <;> try cbv)
              | (refine And.intro ?_ ?_)
            all_goals clear hH c00 c11 c12 c21 c22 c31 c32 c33 hc hs
            all_goals subst hA hX hW hGFsW hGFsD hR
            all_goals have hgi : A0.gi ls (0 + (c - 1).toNat * 1) = n0 := by rw [i3, Nat.zero_add, Nat.mul_one]; exact nums_gi hn0
            all_goals have hhas : A0.has ls (0 + (c - 1).toNat * 1) 1 [.d (.sc (.int .i64 n0))] := by rw [i3, Nat.zero_add, Nat.mul_one]; exact nums_has hn0
            all_goals simp only [A0, FsD0, nc, wc, wv1, wv2] at *
            all_goals try simp only [hgi] at *
            all_goals first
              | rfl
              | trivial
              | exact i2.own
              | exact f48
              | exact hhas
              | exact ⟨by omega, by omega⟩
              | (intros; first | assumption | trivial)
              | (intro hq; revert hq; generalize decide (s = n0) = b; cases b <;> simp; done)
              | (exfalso; simp [hv, heq] at h; done)
              | (exfalso; simp at h; omega)
              | (exfalso; simp_all; done)
              | (refine ⟨⟨i + 1, cs, numsD last, 0, [], 0⟩, ⟨⟨by show 0 ≤ i + 1; omega, by show i + 1 ≤ 60; omega⟩, last, done, i2, rfl, i4, by rw [List.eq_nil_of_length_eq_zero i4.symm]; rfl, by show done.length ≤ (i + 1).toNat; omega, i7⟩, by show 60 - (i + 1).toNat < 60 - i.toNat; omega, ?_⟩
                 refine told_keep [0, 1] rfl ?_ ⟨.inl rfl, .inl rfl, .inl rfl, .inl rfl, .inl rfl, .inl (congrArg (fun n => DV.d (.sc (.int .i64 n))) wi.symm), trivial⟩
                 simp [keepSt, pullBox, i2.pull, i3, nums_pull, doneB, pullL, pullD, doneC])
        all_goals subst hA hGFsW
        all_goals simp only [A0, FsW0, nc] at *
        all_goals first
          | (show Region.lexB _ _ = true; kernel_rfl)
          | (intros; first | assumption | trivial)
          | (intro hq; rw [hq]; rfl)
          | rfl
          | (show span3 _ _; unfold span3; omega)
          | (have hb : (i < (xs.length : Int) ∧ i < (ys.length : Int)) ∧ i < 60 := by (have := bif3 h1; simpa only [decide_eq_true_eq] using this)
             obtain ⟨a, ha, har⟩ := once_bit hxs hnr i0 hb.1.1
             obtain ⟨b, hbb, hbr⟩ := once_bit hys hmr i0 hb.1.2
             simp only [ha, hbb]
             first
               | exact har
               | exact hbr
               | (simp; done))
          | (have hb := bif3 h1; refine ⟨i0, ?_⟩; simp only [decide_eq_true_eq] at hb; first | exact hb.1.1 | exact hb.1.2)
          | skip
      · cbv
        simp only [e48]
        repeat' first
          | (refine And.intro ?_ ?_)
        all_goals subst hA hGFsD hW
        all_goals first
          | exact f48
          | (intros; first | assumption | trivial | rfl)
          | exact i2.own
          | (simp only [A0]; intro hq; rw [hq]; rfl)
          | (refine ret_v ?_ rfl; simp only [A0, FsD0, i2.right]; rfl)
    all_goals subst hA hGFsW
    all_goals simp only [A0, FsW0, nc] at *
    all_goals first
      | (show Region.lexB _ _ = true; kernel_rfl)
      | (intros; first | assumption | trivial)
      | (intro hq; rw [hq]; rfl)
      | rfl
      | (show span3 _ _; unfold span3; omega)
      | (have hb : (i < (xs.length : Int) ∧ i < (ys.length : Int)) ∧ i < 60 := by (have := bif3 h1; simpa only [decide_eq_true_eq] using this)
         obtain ⟨a, ha, har⟩ := once_bit hxs hnr i0 hb.1.1
         obtain ⟨b, hbb, hbr⟩ := once_bit hys hmr i0 hb.1.2
         simp only [ha, hbb]
         first
           | exact har
           | exact hbr
           | (simp; done))
      | (have hb := bif3 h1; refine ⟨i0, ?_⟩; simp only [decide_eq_true_eq] at hb; first | exact hb.1.1 | exact hb.1.2)
      | skip
  · cbv
    repeat' first
      | (refine And.intro ?_ ?_)
    rotate_right 1
    · refine part (fun h1 => ?_) (fun h1 => ?_)
      · cbv
        repeat' first
          | (refine And.intro ?_ ?_)
        rotate_right 1
        · simp only [hc, hs]
          have hb : (i < (xs.length : Int) ∧ i < (ys.length : Int)) ∧ i < 60 := by (subst hA; have h2 := bif3 h1; exact ⟨⟨of_decide_eq_true h2.1.1, of_decide_eq_true h2.1.2⟩, of_decide_eq_true h2.2⟩)
          have wc : IntKind.wrap .i64 (c - 1) = c - 1 := wrap_i64 (by unfold r64; omega)
          have wi : IntKind.wrap .i64 (i + 1) = i + 1 := wrap_i64 (by unfold r64; omega)
          have wv1 : IntKind.wrap .i64 (100 * c) = 100 * c := wrap_i64 (by unfold r64; omega)
          have wv2 : IntKind.wrap .i64 (100 * c + s) = 100 * c + s := wrap_i64 (by unfold r64; omega)
          have hck : (c - 1).toNat < last.length := by omega
          rcases Int.lt_trichotomy n0 s with hlt | heq | hgt
          · have hl : GFsD.lookU cs c s = (1, zeroRep) := by subst hGFsD; show lookU cs c s = _; rw [hlk, decide_eq_true hlt]; rfl
            have hno := isOnce.note i2 hc8 hs9
            cbv at hl
            with_reducible refine goL (T := fun _ => tabY [0, 1, 33, 38, 59, 83, 89, 106, 1005, 1079] []) (H := fun _ => [kn_within3 GFsW, kn_lookU GFsD, kn_noteU GFsD, kn_rightU GFsD, kn_runs GFsD]) (tabY_ok _ _) hH follows_mixed hA hX ?_
            cbv
            simp only [e48, hl]
            cbv
            simp only [c11]
            cbv
            refine And.intro (by subst hA; rfl) (And.intro f48 (And.intro (by subst hGFsD; exact i2.own) ?_))
            refine loopL (T := fun _ => tabY [0, 1, 33, 38, 59, 83, 89, 106, 1005, 1079] []) (H := fun _ => [kn_within3 GFsW, kn_lookU GFsD, kn_noteU GFsD, kn_rightU GFsD, kn_runs GFsD]) (tabY_ok _ _) hH follows_mixed hA hX (fun j : Int => 0 ≤ j ∧ j ≤ n + 1) (fun j => [(0, .d (.slc 1 xs)), (1, .d (.slc 1 ys)), (5, .ref 0 0 0), (6, .view 2 2 ver 0 (n + 1)), (7, .ref 1 0 0), (8, .d (.sc (.int .i64 i))), (9, .d (.sc (.int .i64 c))), (10, .d (.sc (.int .i64 s))), (13, .d (.sc (.int .i64 j)))]) (fun _ => [⟨28, cs, false, 0, true⟩, ⟨49, ls, false, 0, true⟩, ⟨51, dc, true, ver, true⟩, ⟨25, [.d (.sc (.int .i64 0)), .d (.sc (.bool false)), .d (.sc (.string none8)), .d (.sc (.int .i64 0)), .d (.slc 3 [])], false, 0, true⟩]) (fun j => (n + 1 : Nat) - j.toNat) 0 ⟨Int.le_refl 0, by omega⟩ (told_less (by simp [toldP, getS])) ?_
            rintro R2 j hR2 ⟨j0, j1⟩
            cbv
            refine And.intro (by subst hA; rfl) ?_
            refine part (fun h2 => ?_) (fun h2 => ?_)
            · cbv
              repeat' first
                | (refine part (fun h => ?_) (fun h => ?_) <;> try cbv)
                | (refine And.intro ?_ ?_)
              all_goals clear hH c00 c11 c12 c21 c22 c31 c32 c33 hc hs
              all_goals subst hA hX hW hGFsW hGFsD hR hR2
              all_goals replace j0 : 0 ≤ j := j0
              all_goals have hj : j < (done.length : Int) := by (simp only [A0, nc, decide_eq_true_eq] at h2; omega)
              all_goals have hjN : j.toNat < done.length := by omega
              all_goals have hdh := done_has hjN
              all_goals have hdg := done_gi hjN
              all_goals have hdm := i7 _ (List.getElem_mem hjN)
              all_goals generalize done[j.toNat] = q at hdh hdg hdm
              all_goals obtain ⟨q1, q2⟩ := q
              all_goals rw [← i5] at hdh hdg
              all_goals have hdg1 := hdg.1
              all_goals have hdg2 := hdg.2
              all_goals have wj : IntKind.wrap .i64 (j + 1) = j + 1 := wrap_i64 (by unfold r64; omega)
              all_goals simp only [A0, nc, Nat.zero_add] at *
              all_goals try simp only [hdg1, hdg2] at *
              all_goals first
                | rfl
                | exact hdh
                | exact ⟨j0, by omega⟩
                | (exfalso
                   simp only [Bool.and_true, Bool.and_eq_true, decide_eq_true_eq] at h
                   obtain ⟨_, _, _, m, a1, a2⟩ := hdm
                   rw [h.1, hn0, Option.some.injEq] at a1
                   omega)
                | (refine ⟨j + 1, ⟨by show 0 ≤ j + 1; omega, by show j + 1 ≤ n + 1; omega⟩, by show (n + 1) - (j + 1).toNat < (n + 1) - j.toNat; omega, told_less ?_⟩
                   simp [toldP, getS, wj])
            cbv
            clear hR2
            simp only [e48]
            repeat' first
              | (refine And.intro ?_ ?_)
            all_goals clear hH c00 c11 c12 c21 c22 c31 c32 c33 hc hs
            all_goals subst hA hX hW hGFsW hGFsD hR
            all_goals simp only [A0, FsD0, nc, wc, wv1, wv2]
            all_goals first
              | rfl
              | trivial
              | exact i2.own
              | exact isP.nil
              | exact f48
              | (show 0 + 48 ≤ cs.length; omega)
              | (show _ = 48 * 1; exact hno.own.len)
              | exact ⟨by omega, by omega⟩
              | (rw [i3]; show 0 + (c - 1).toNat * 1 + 1 ≤ (numsD last).length; simp only [numsD, List.length_map]; omega)
              | (show 0 + 1 * 2 ≤ _; simp; done)
              | (rw [i5, doneC_length, ← i4]; done)
              | (rw [i5, doneC_length, ← i4]; rfl)
              | skip
            refine ⟨⟨i + 1, noteU cs c s ⟨0, false, none8, 100 * c + s, []⟩, numsD (last.set (c - 1).toNat s), n + 2, doneC (done ++ [(c, s)]), ver + 1⟩, ⟨⟨by show 0 ≤ i + 1; omega, by show i + 1 ≤ 60; omega⟩, last.set (c - 1).toNat s, done ++ [(c, s)], hno, rfl, by show n + 2 = _; rw [List.length_append]; show _ = done.length + 1; omega, rfl, by rw [List.length_append]; show done.length + 1 ≤ (i + 1).toNat; omega, once_inv i7 hc8 hs9 hn0 hlt⟩, ?_, ?_⟩
            · show 60 - (i + 1).toNat < 60 - i.toNat; omega
            · have es : splice cs 0 (noteU cs c s ⟨0, false, none8, 100 * c + s, []⟩) = noteU cs c s ⟨0, false, none8, 100 * c + s, []⟩ := splice48 i48 hno.own.len
              have el : splice ls (0 + (c - 1).toNat * 1) [.d (.sc (.int .i64 s))] = numsD (last.set (c - 1).toNat s) := by rw [i3, Nat.zero_add, Nat.mul_one]; exact nums_spl hck s
              simp only [es, el]
              refine told_keep [0, 1, 2] rfl ?_ ⟨.inl rfl, .inl rfl, .inl rfl, .inl rfl, .inl rfl, .inl (congrArg (fun n => DV.d (.sc (.int .i64 n))) wi.symm), trivial⟩
              have ea := doneC_app done (c, s)
              simp only at ea
              simp [keepSt, pullBox, hno.pull, i5, nums_pull, doneB, pullL, pullD, ea, done_pull]
          · obtain ⟨v, hv⟩ : ∃ v, v = 100 * c + s := ⟨_, rfl⟩
            have hl : GFsD.lookU cs c s = (2, ⟨0, false, none8, v, []⟩) := by
              subst hGFsD
              rw [hv]
              show lookU cs c s = _
              rw [hlk, decide_eq_false (by omega), decide_eq_true heq.symm]
              show (2, (onceO (c - 1).toNat n0).reply) = _
              unfold onceO
              rw [if_neg (by omega), heq, show 100 * (((c - 1).toNat : Int) + 1) = 100 * c by omega]
            cbv at hl
            with_reducible refine goL (T := fun _ => tabY [0, 1, 33, 38, 59, 83, 89, 106, 1005, 1079] []) (H := fun _ => [kn_within3 GFsW, kn_lookU GFsD, kn_noteU GFsD, kn_rightU GFsD, kn_runs GFsD]) (tabY_ok _ _) hH follows_mixed hA hX ?_
            cbv
            simp only [e48, hl]
            cbv
            simp only [c21, c22]
            cbv
            simp only [c21, c22]
            cbv
            repeat' first
              | (refine part (fun h => ?_) (fun h => ?_) <;> try cbv)
              | (refine And.intro ?_ ?_)
            all_goals clear hH c00 c11 c12 c21 c22 c31 c32 c33 hc hs
            all_goals subst hA hX hW hGFsW hGFsD hR
            all_goals have hgi : A0.gi ls (0 + (c - 1).toNat * 1) = n0 := by rw [i3, Nat.zero_add, Nat.mul_one]; exact nums_gi hn0
            all_goals have hhas : A0.has ls (0 + (c - 1).toNat * 1) 1 [.d (.sc (.int .i64 n0))] := by rw [i3, Nat.zero_add, Nat.mul_one]; exact nums_has hn0
            all_goals simp only [A0, FsD0, nc, wc, wv1, wv2] at *
            all_goals try simp only [hgi] at *
            all_goals first
              | rfl
              | trivial
              | exact i2.own
              | exact f48
              | exact hhas
              | exact ⟨by omega, by omega⟩
              | (intros; first | assumption | trivial)
              | (intro hq; revert hq; generalize decide (s = n0) = b; cases b <;> simp; done)
              | (exfalso; simp [hv, heq] at h; done)
              | (exfalso; simp at h; omega)
              | (exfalso; simp_all; done)
              | (refine ⟨⟨i + 1, cs, numsD last, n + 1, dc, ver⟩, ⟨⟨by show 0 ≤ i + 1; omega, by show i + 1 ≤ 60; omega⟩, last, done, i2, rfl, i4, i5, by show done.length ≤ (i + 1).toNat; omega, i7⟩, by show 60 - (i + 1).toNat < 60 - i.toNat; omega, ?_⟩
                 refine told_keep [0, 1, 2] rfl ?_ ⟨.inl rfl, .inl rfl, .inl rfl, .inl rfl, .inl rfl, .inl (congrArg (fun n => DV.d (.sc (.int .i64 n))) wi.symm), trivial⟩
                 simp [keepSt, pullBox, i2.pull, i3, i5, nums_pull, done_pull, doneB, pullL, pullD])
          · have hl : GFsD.lookU cs c s = (3, zeroRep) := by
              subst hGFsD
              show lookU cs c s = _
              rw [hlk, decide_eq_false (by omega), decide_eq_false (by omega)]
              rfl
            cbv at hl
            with_reducible refine goL (T := fun _ => tabY [0, 1, 33, 38, 59, 83, 89, 106, 1005, 1079] []) (H := fun _ => [kn_within3 GFsW, kn_lookU GFsD, kn_noteU GFsD, kn_rightU GFsD, kn_runs GFsD]) (tabY_ok _ _) hH follows_mixed hA hX ?_
            cbv
            simp only [e48, hl]
            cbv
            simp only [c31, c32, c33]
            cbv
            simp only [c31, c32, c33]
            cbv
            simp only [c31, c32, c33]
            cbv
            repeat' first
              | (refine part (fun h => ?_) (fun h => ?_) <;> try cbv)
              | (refine And.intro ?_ ?_)
            all_goals clear hH c00 c11 c12 c21 c22 c31 c32 c33 hc hs
            all_goals subst hA hX hW hGFsW hGFsD hR
            all_goals have hgi : A0.gi ls (0 + (c - 1).toNat * 1) = n0 := by rw [i3, Nat.zero_add, Nat.mul_one]; exact nums_gi hn0
            all_goals have hhas : A0.has ls (0 + (c - 1).toNat * 1) 1 [.d (.sc (.int .i64 n0))] := by rw [i3, Nat.zero_add, Nat.mul_one]; exact nums_has hn0
            all_goals simp only [A0, FsD0, nc, wc, wv1, wv2] at *
            all_goals try simp only [hgi] at *
            all_goals first
              | rfl
              | trivial
              | exact i2.own
              | exact f48
              | exact hhas
              | exact ⟨by omega, by omega⟩
              | (intros; first | assumption | trivial)
              | (intro hq; revert hq; generalize decide (s = n0) = b; cases b <;> simp; done)
              | (exfalso; simp [hv, heq] at h; done)
              | (exfalso; simp at h; omega)
              | (exfalso; simp_all; done)
              | (refine ⟨⟨i + 1, cs, numsD last, n + 1, dc, ver⟩, ⟨⟨by show 0 ≤ i + 1; omega, by show i + 1 ≤ 60; omega⟩, last, done, i2, rfl, i4, i5, by show done.length ≤ (i + 1).toNat; omega, i7⟩, by show 60 - (i + 1).toNat < 60 - i.toNat; omega, ?_⟩
                 refine told_keep [0, 1, 2] rfl ?_ ⟨.inl rfl, .inl rfl, .inl rfl, .inl rfl, .inl rfl, .inl (congrArg (fun n => DV.d (.sc (.int .i64 n))) wi.symm), trivial⟩
                 simp [keepSt, pullBox, i2.pull, i3, i5, nums_pull, done_pull, doneB, pullL, pullD])
        all_goals subst hA hGFsW
        all_goals simp only [A0, FsW0, nc] at *
        all_goals first
          | (show Region.lexB _ _ = true; kernel_rfl)
          | (intros; first | assumption | trivial)
          | (intro hq; rw [hq]; rfl)
          | rfl
          | (show span3 _ _; unfold span3; omega)
          | (have hb : (i < (xs.length : Int) ∧ i < (ys.length : Int)) ∧ i < 60 := by (have := bif3 h1; simpa only [decide_eq_true_eq] using this)
             obtain ⟨a, ha, har⟩ := once_bit hxs hnr i0 hb.1.1
             obtain ⟨b, hbb, hbr⟩ := once_bit hys hmr i0 hb.1.2
             simp only [ha, hbb]
             first
               | exact har
               | exact hbr
               | (simp; done))
          | (have hb := bif3 h1; refine ⟨i0, ?_⟩; simp only [decide_eq_true_eq] at hb; first | exact hb.1.1 | exact hb.1.2)
          | skip
      · cbv
        simp only [e48]
        repeat' first
          | (refine And.intro ?_ ?_)
        all_goals subst hA hGFsD hW
        all_goals first
          | exact f48
          | (intros; first | assumption | trivial | rfl)
          | exact i2.own
          | (simp only [A0]; intro hq; rw [hq]; rfl)
          | (refine ret_v ?_ rfl; simp only [A0, FsD0, i2.right]; rfl)
    all_goals subst hA hGFsW
    all_goals simp only [A0, FsW0, nc] at *
    all_goals first
      | (show Region.lexB _ _ = true; kernel_rfl)
      | (intros; first | assumption | trivial)
      | (intro hq; rw [hq]; rfl)
      | rfl
      | (show span3 _ _; unfold span3; omega)
      | (have hb : (i < (xs.length : Int) ∧ i < (ys.length : Int)) ∧ i < 60 := by (have := bif3 h1; simpa only [decide_eq_true_eq] using this)
         obtain ⟨a, ha, har⟩ := once_bit hxs hnr i0 hb.1.1
         obtain ⟨b, hbb, hbr⟩ := once_bit hys hmr i0 hb.1.2
         simp only [ha, hbb]
         first
           | exact har
           | exact hbr
           | (simp; done))
      | (have hb := bif3 h1; refine ⟨i0, ?_⟩; simp only [decide_eq_true_eq] at hb; first | exact hb.1.1 | exact hb.1.2)
      | skip
end Go.Proofs.Ytjlbdfehkbcmfaa
