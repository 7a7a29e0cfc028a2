/- A function that reads a row of one's own and gives scalars leaves the row one's own. No condition: lemmas of any program. -/
import Derived.Test.YtghkcmgiagodlaaAm44
import Derived.Test.YtghkcmgiagodlaaGB
import Derived.Test.YtghkcmgiagodlaaAm40
namespace Go.Proofs.Ytghkcmgiagodlaa
open Go.RowKit
set_option linter.all false
mutual
/-- Does a value hold no slice and no reference? -/
def scalD : DV → Bool
  | .d (.sc _) => true
  | .agg cs => scalL cs
  | .tup cs => scalL cs
  | _ => false
def scalL : List DV → Bool
  | [] => true
  | d :: ds => scalD d && scalL ds
end
end Go.Proofs.Ytghkcmgiagodlaa
namespace Go.Proofs.Ytghkcmgiagodlaa
open Go.RowKit
set_option linter.all false
theorem ren_box {ρ : List Nat} {n : Nat} {bx : Box} (hb : closedL 0 bx.cells = true) : Box.ren (place ρ n) bx = bx := by
  unfold Box.ren
  have := renL_pure (place ρ n) bx.cells hb
  rw [renL_eq] at this
  rw [this]
theorem set_self {st : Store} {b : Nat} {bx : Box} (hb : st[b]? = some bx) : st.set b bx = st := by
  apply List.ext_getElem?
  intro i
  rw [List.getElem?_set]
  by_cases hi : b = i
  · subst hi
    have hlt := (List.getElem?_eq_some_iff.1 hb).1
    rw [if_pos rfl, if_pos hlt, hb]
  · simp [hi]
theorem FnD.rowKeep {P : Program} {f : FuncId} {args : List DV} {bx : Box} {res : DV} {st : Store} {K : DV → Store → Prop} {sz v o n : Nat} (b : Nat) (h : FnD P f (.view sz 0 v o n :: args) [bx] fun r st' => r = res ∧ st' = [bx]) (hb : st[b]? = some bx)
    (ha : closedL 0 args = true) (hr : closedD 0 res = true) (h1 : closedL 0 bx.cells = true) (hk : K res st) : FnD P f (.view sz b v o n :: args) st K := by
  have hlt : b < st.length := (List.getElem?_eq_some_iff.1 hb).1
  refine FnD.at (args' := .view sz 0 v o n :: args) h [b] (by simp [hlt, closedL, closedD, closedL_mono (Nat.zero_le 1) _ ha]) ?_ (by simp [renL, renD, place, renL_pure _ _ ha]) ?_
  · intro k r bx0 hk hs
    cases k with
    | zero =>
      simp at hk hs
      subst hk; subst hs
      exact ⟨by rw [ren_box h1]; exact hb, closedL_mono (Nat.zero_le _) _ h1⟩
    | succ k => simp at hk
  · rintro r0 stc ⟨rfl, rfl⟩ _
    rw [renD_pure _ _ hr]
    have e2 : mergeL st [b] ([bx].map (Box.ren (place [b] st.length))) = st.set b bx := by
      apply List.ext_getElem?
      intro i
      simp only [mergeL, List.map_cons, List.map_nil, ren_box h1, List.length_singleton, List.drop_one, List.tail_cons, List.append_nil, List.getElem?_mapIdx, List.getElem?_set]
      by_cases hi : b = i
      · subst hi
        simp [hlt, List.idxOf?, List.findIdx?_cons]
      · have : ([b] : List Nat).idxOf? i = none := by rw [List.idxOf?_eq_none_iff]; simpa using fun h => hi h.symm
        simp [this, hi]
    rw [e2, set_self hb]
    exact hk
theorem FnD.rowNew {P : Program} {f : FuncId} {args : List DV} {bx bx2 : Box} {st : Store} {K : DV → Store → Prop} {sz v o n : Nat} (b : Nat) (h : FnD P f (.view sz 0 v o n :: args) [bx] fun r st' => r = .ref 1 0 0 ∧ st' = [bx, bx2]) (hb : st[b]? = some bx)
    (ha : closedL 0 args = true) (h1 : closedL 0 bx.cells = true) (h2 : closedL 0 bx2.cells = true) (hk : K (.ref st.length 0 0) (st ++ [bx2])) : FnD P f (.view sz b v o n :: args) st K := by
  have hlt : b < st.length := (List.getElem?_eq_some_iff.1 hb).1
  refine FnD.at (args' := .view sz 0 v o n :: args) h [b] (by simp [hlt, closedL, closedD, closedL_mono (Nat.zero_le 1) _ ha]) ?_ (by simp [renL, renD, place, renL_pure _ _ ha]) ?_
  · intro k r bx0 hk hs
    cases k with
    | zero =>
      simp at hk hs
      subst hk; subst hs
      exact ⟨by rw [ren_box h1]; exact hb, closedL_mono (Nat.zero_le _) _ h1⟩
    | succ k => simp at hk
  · rintro r0 stc ⟨rfl, rfl⟩ _
    have e2 : mergeL st [b] ([bx, bx2].map (Box.ren (place [b] st.length))) = st.set b bx ++ [bx2] := by
      apply List.ext_getElem?
      intro i
      simp only [mergeL, List.map_cons, List.map_nil, ren_box h1, ren_box h2, List.length_singleton, List.drop_one, List.tail_cons]
      by_cases hl : i < st.length
      · rw [List.getElem?_append_left (by simpa using hl), List.getElem?_append_left (by simpa using hl), List.getElem?_mapIdx, List.getElem?_set]
        by_cases hi : b = i
        · subst hi
          simp [hlt, List.idxOf?, List.findIdx?_cons]
        · have : ([b] : List Nat).idxOf? i = none := by rw [List.idxOf?_eq_none_iff]; simpa using fun h => hi h.symm
          simp [this, hi]
      · rw [List.getElem?_append_right (by simpa using hl), List.getElem?_append_right (by simpa using hl)]
        simp
    rw [e2, set_self hb]
    have e3 : renD (place [b] st.length) (.ref 1 0 0) = .ref st.length 0 0 := by simp [renD, place]
    rw [e3]
    exact hk
/-- At the end: boxes are kept, what holds nothing is told as settled. -/
theorem ret_upk {k : Nat} {κ : List Nat} {R : DV → Store → Prop} {d r : DV} {st st2 : Store} (h : keepB k κ st.length = true) (hu : UpD (pullD κ d) r) (hst : keepSt κ st = st2) (hR : R r st2) : RetW k R d st := by
  subst hst
  exact ⟨r, _, TellsV.trans (TellsV.turn (turn_keep κ h) rfl) (TellsV.up k _ hu), hR⟩
end Go.Proofs.Ytghkcmgiagodlaa
namespace Go.Proofs.Ytghkcmgiagodlaa
open Go.RowKit
set_option linter.all false
set_option maxHeartbeats 4000000
structure Attr where
  seq : Int
  d0 : Int
  d1 : Int
  d2 : Int
  d3 : Int
  d4 : Int
  d5 : Int
  d6 : Int
  deriving DecidableEq
def Attr.D (x : Attr) : DV := .agg [intD x.seq, intD x.d0, intD x.d1, intD x.d2, intD x.d3, intD x.d4, intD x.d5, intD x.d6]
structure Deps where
  d0 : Int
  d1 : Int
  d2 : Int
  d3 : Int
  d4 : Int
  d5 : Int
  d6 : Int
  deriving DecidableEq
def Deps.D (x : Deps) : DV := .agg [intD x.d0, intD x.d1, intD x.d2, intD x.d3, intD x.d4, intD x.d5, intD x.d6]
structure Inst where
  replica : Int
  slot : Int
  deriving DecidableEq
def Inst.D (x : Inst) : DV := .agg [intD x.replica, intD x.slot]
def rightI (i : Inst) : Bool := decide (0 ≤ i.replica) && decide (i.replica < 7) && decide (1 ≤ i.slot) && decide (i.slot ≤ 1073741824)
def okK (k : Int) : Bool := decide (0 ≤ k) && decide (k ≤ 1073741824)
def rightDs (d : Deps) : Bool := okK d.d0 && okK d.d1 && okK d.d2 && okK d.d3 && okK d.d4 && okK d.d5 && okK d.d6
def Attr.deps (a : Attr) : Deps := ⟨a.d0, a.d1, a.d2, a.d3, a.d4, a.d5, a.d6⟩
def rightA (a : Attr) : Bool := decide (0 ≤ a.seq) && decide (a.seq ≤ 1099511627776) && rightDs a.deps
def Deps.at (d : Deps) (r : Int) : Int := if r = 0 then d.d0 else if r = 1 then d.d1 else if r = 2 then d.d2 else if r = 3 then d.d3 else if r = 4 then d.d4 else if r = 5 then d.d5 else d.d6
structure FsIa where
  rightI : Inst → Bool
  rightD : Deps → Bool
  rightA : Attr → Bool
  rightAR : Attr → Bool
  imgR : Deps → Bool
  covers : Deps → Deps → Bool
  reach : Deps → Inst → Bool
  less : Inst → Inst → Bool
  join2 : Attr → Attr → Attr
end Go.Proofs.Ytghkcmgiagodlaa
namespace Go.Proofs.Ytghkcmgiagodlaa
open Go.RowKit
set_option linter.all false
set_option maxHeartbeats 4000000
def u32 (c : Int) : Prop := 0 ≤ c ∧ c < 4294967296
structure FsCr where
  on : Int → List (List PD) → Int
  onR : Int → List (List PD) → Int
  sof : List (List PD) → Int
  isB : List (List PD) → Prop
  u32 : Int → Prop
end Go.Proofs.Ytghkcmgiagodlaa
namespace Go.Proofs.Ytghkcmgiagodlaa
open Go.RowKit
set_option linter.all false
set_option maxHeartbeats 4000000
end Go.Proofs.Ytghkcmgiagodlaa
namespace Go.Proofs.Ytghkcmgiagodlaa
open Go.RowKit
set_option linter.all false
set_option maxHeartbeats 4000000
def okAt (xs : List (List PD)) (at_ n : Int) : Prop := 0 ≤ at_ ∧ at_.toNat + 4 = xs.length ∧ n = 4
structure FsWg where
  wget2 : List (List PD) → Int → Int → Int × Int
  isB : List (List PD) → Prop
  okAt : List (List PD) → Int → Int → Prop
theorem rows_closed (xs : List (List PD)) : closedL 0 (rowsD xs) = true := closedL_data 0 _
/-- A contract that makes a row of bytes of one's own, whatever boxes there are. -/
theorem FnD.newRow {P : Program} {f : FuncId} {args : List DV} {T : TypeId} {L : List UInt8} (h : FnD P f args [] (fun r st' => ∃ v cs m, cs = rowsD (bytesP L) ∧ m = L.length ∧ r = .view 1 0 v 0 m ∧ st' = [⟨T, cs, true, v, true⟩])) (ha : closedL 0 args = true) {st : Store} {K : DV → Store → Prop} (hk : ∀ v cs m, cs = rowsD (bytesP L) → m = L.length → K (.view 1 st.length v 0 m) (st ++ [⟨T, cs, true, v, true⟩])) : FnD P f args st K := by
  refine FnD.at (args' := args) h [] (by simp [ha]) (by simp) (by rw [renL_pure _ _ ha]) ?_
  rintro r0 stc ⟨v, cs, m, rfl, rfl, rfl, rfl⟩ _
  have e2 : mergeL st [] ([(⟨T, rowsD (bytesP L), true, v, true⟩ : Box)].map (Box.ren (place [] st.length))) = st ++ [⟨T, rowsD (bytesP L), true, v, true⟩] := by
    have e3 : (rowsD (bytesP L)).map (renD (place [] st.length)) = rowsD (bytesP L) := by rw [← renL_eq]; exact renL_pure _ _ (rows_closed _)
    simp only [List.map_cons, List.map_nil, Box.ren, e3]
    apply List.ext_getElem?
    intro i
    rw [mergeL]
    simp only [List.idxOf?_nil, List.length_nil, List.drop_zero]
    congr 2
    apply List.ext_getElem?
    intro j
    simp
  rw [e2]
  have e4 : renD (place [] st.length) (.view 1 0 v 0 L.length) = .view 1 st.length v 0 L.length := by simp [renD, place]
  rw [e4]
  exact hk v _ _ rfl rfl
end Go.Proofs.Ytghkcmgiagodlaa
namespace Go.Proofs.Ytghkcmgiagodlaa
open Go.RowKit
set_option linter.all false
set_option maxHeartbeats 4000000
theorem FnD.freezeTo {P : Program} {f : FuncId} {args args' : List DV} {st : Store} {K : DV → Store → Prop} (b sz : Nat) (xs : List (List PD)) (bx : Box) (hb : st[b]? = some bx) (hl : bx.live = true) (hcells : bx.cells = rowsD xs) (hsz : ∀ x ∈ xs, x.length = sz) (ha : args.map (fzD b bx.ver sz xs) = args') (h : FnD P f args' (fzSt b sz xs st) K) : FnD P f args st K := by
  subst ha
  exact FnD.freeze b sz xs bx hb hl hcells hsz h
end Go.Proofs.Ytghkcmgiagodlaa
namespace Go.Proofs.Ytghkcmgiagodlaa
open Go.RowKit
set_option linter.all false
set_option maxHeartbeats 4000000
theorem rowsB_map (bs : List UInt8) : rowsD (bytesP bs) = bs.map fun b => DV.d (.sc (.int .u8 (b.toNat : Int))) := by
  simp [rowsD, bytesP_flat]
theorem rowsB_cut (bs : List UInt8) (o n : Nat) : ((rowsD (bytesP bs)).drop o).take n = rowsD (((bytesP bs).drop o).take n) := by
  rw [bytesP_drop, bytesP_take, rowsB_map, rowsB_map, List.map_take, List.map_drop]
set_option maxRecDepth 100000 in
theorem w_grownV (xs ys : List (List PD)) (cs : List DV) (v o n : Nat) (hp0 : isB8 xs) (hcs : cs = rowsD xs) (hon : o + n ≤ xs.length) (hys : ys = (xs.drop o).take n) : FnD Try.prog 79 [.view 1 0 v o n, intD 0] [⟨5, cs, true, v, true⟩] (fun r st' => ∃ c2, c2 = rowsD ys ∧ r = .view 1 1 1 0 n ∧ st' = [⟨5, cs, true, v, true⟩, ⟨5, c2, true, 1, true⟩]) := by
  refine FnD_cbv (T := fun _ => tabY [] []) (H := fun _ => []) (tabY_ok _ _) noK_ok follows_mixed Try.func79 rfl Try.ntmps79 (by simp) fun A X W hA hX hW => ?_
  cbv
  obtain ⟨bs, hxs, hb⟩ := hp0
  have hl : xs.length = bs.length := by rw [hxs]; exact bytesP_length bs
  repeat' first
    | (refine And.intro ?_ ?_)
  all_goals subst hA hX hW
  all_goals first
    | exact rfl
    | (simp only [A0]
       rw [wrap_i64 (by unfold r64; omega)]
       omega)
    | (show o + n * 1 ≤ cs.length
       rw [hcs, hxs, rowsB_length]
       omega)
    | (show List.length [] = _; rfl)
    | (simp only [A0]; omega)
    | (refine RetW.refl ⟨rowsD ys, rfl, ?_, ?_⟩
       · show DV.view 1 1 1 0 (Int.toNat 0 + n) = _
         simp
       · show [(_ : Box), (⟨_, [] ++ (cs.drop o).take (n * 1), true, 1, true⟩ : Box)] = _
         rw [List.nil_append, Nat.mul_one, hcs, hys, hxs, rowsB_cut])
    | fail
set_option maxRecDepth 100000 in
theorem w_readV (xs ys : List (List PD)) (cs : List DV) (v o n : Nat) (hp0 : isB8 xs) (hcs : cs = rowsD xs) (hon : o + n ≤ xs.length) (hys : ys = (xs.drop o).take n) : FnD Try.prog 40 [.view 1 0 v o n] [⟨5, cs, true, v, true⟩] (fun r st' => r = .ref 1 0 0 ∧ st' = [⟨5, cs, true, v, true⟩, rdB 113 ys 0 0]) := by
  refine FnD_cbv (T := fun _ => tabY [] []) (H := fun _ => []) (tabY_ok _ _) noK_ok follows_mixed Try.func40 rfl Try.ntmps40 (by simp) fun A X W hA hX hW => ?_
  cbv
  refine callL hX ((w_grownV xs ys cs v o n hp0 hcs hon hys).mono ?_)
  rintro r st ⟨c2, hc2, rfl, rfl⟩
  cbv
  repeat' (refine And.intro ?_ ?_)
  all_goals subst hA hX hW
  have hyl : n = ys.length := by rw [hys, List.length_take, List.length_drop]; omega
  have hysz : ∀ x ∈ ys, x.length = 1 := by
    obtain ⟨bs, hxs, _⟩ := hp0
    intro x hx
    rw [hys, hxs] at hx
    exact bytesP_sz bs x (List.mem_of_mem_drop (List.mem_of_mem_take hx))
  have hfz : ∀ b w zs, fzL b w 1 zs cs = cs := fun b w zs => by
    rw [fzL_eq, hcs, rowsD, List.map_map]
    rfl
  have hpl : ∀ κ, pullL κ cs = cs := fun κ => by rw [hcs, pullL_eq]; exact pull_rows κ _
  refine ret_freeze 1 1 ys _ rfl rfl (Nat.le_refl 1) hc2 hysz ?_
  refine ret_keep [0, 2] rfl ⟨rfl, ?_⟩
  rw [hyl]
  have e1 : fzL 1 1 1 ys [DV.view 1 1 1 0 ys.length, DV.d (.sc (.int .i64 0)), DV.d (.sc (.int .i64 0))] = [DV.d (.slc 1 ys), DV.d (.sc (.int .i64 0)), DV.d (.sc (.int .i64 0))] := by simp [fzL, fzD]
  show [(⟨_, pullL [0, 2] (fzL 1 1 1 ys cs), true, v, true⟩ : Box), ⟨_, pullL [0, 2] (fzL 1 1 1 ys [DV.view 1 1 1 0 ys.length, DV.d (.sc (.int .i64 0)), DV.d (.sc (.int .i64 0))]), false, 0, true⟩] = _
  rw [hfz, hpl, e1]
  rfl
end Go.Proofs.Ytghkcmgiagodlaa
namespace Go.Proofs.Ytghkcmgiagodlaa
open Go.RowKit
set_option linter.all false
set_option maxHeartbeats 4000000
theorem isB8_cut {rx xs : List (List PD)} {o n : Nat} (h : isB8 rx) (e : xs = (rx.drop o).take n) : isB8 xs := by
  obtain ⟨bs, rfl, hb⟩ := h
  refine ⟨(bs.drop o).take n, by rw [e, bytesP_drop, bytesP_take], ?_⟩
  rw [List.length_take, List.length_drop]
  omega
set_option maxRecDepth 1000000 in
theorem w_getS (rx xs : List (List PD)) (rc : List DV) (v o n : Nat) (hrx : isB8 rx) (hrc : rc = rowsD rx) (hon : o + n ≤ rx.length) (hxs : xs = (rx.drop o).take n) : FnD Try.prog 32 [.view 1 0 v o n] [⟨5, rc, true, v, true⟩] (fun r st' => r = .tup [.agg (getSt xs).1, .d (.sc (.int .i64 (getSt xs).2))] ∧ st' = [⟨5, rc, true, v, true⟩]) := by
  have hp0 : isB8 xs := isB8_cut hrx hxs
  have hrcl : closedL 0 rc = true := by rw [hrc]; exact rows_closed rx
  obtain ⟨GFsS4, hFsS4⟩ : ∃ F, F = FsS40 := ⟨_, rfl⟩
  obtain ⟨GFsGl, hFsGl⟩ : ∃ F, F = FsGl0 := ⟨_, rfl⟩
  obtain ⟨GFsRr, hFsRr⟩ : ∃ F, F = FsRr0 := ⟨_, rfl⟩
  have hH : SoundK Try.prog [kn_rightSt GFsS4] := by subst hFsS4 hFsGl hFsRr; exact orK_ok ok_rightSt noK_ok
  have hB : SoundB Try.prog [kb_list GFsGl, kb_pNum GFsRr, kb_pFlag GFsRr, kb_pText GFsRr, kb_pEnd GFsRr] := by subst hFsS4 hFsGl hFsRr; exact orB_ok okb_list (orB_ok okb_pNum (orB_ok okb_pFlag (orB_ok okb_pText (orB_ok okb_pEnd noB_ok))))
  refine FnD_cbv (T := fun _ => tabY [7, 19, 20, 23, 24, 25, 26, 27, 30, 33, 34, 35, 36, 39, 40, 41, 42, 45, 46, 47, 48, 51, 52, 53, 54, 57, 58, 59, 1002, 1005, 1065, 1070, 1071, 5004] []) (H := fun _ => [kn_rightSt GFsS4]) (tabY_ok _ _) hH follows_mixed Try.func32 rfl Try.ntmps32 (by simp) fun A X W hA hX hW => ?_
  cbv
  obtain ⟨z, hz⟩ : ∃ z, z = DV.d (.sc (.slice none 0 0)) :: Z48 := ⟨_, rfl⟩
  have h0 := rd0 hp0
  have hup : ∀ xl : List (List PD), UpL (.d (.slc 3 xl) :: Z48) (.d (.slc 3 xl) :: ownsD (List.replicate 8 ⟨0, zeroRep⟩)) := fun xl => by
    have e : upCs (.d (.slc 3 xl) :: Z48) = .d (.slc 3 xl) :: ownsD (List.replicate 8 ⟨0, zeroRep⟩) := rfl
    rw [← e]
    exact upL_upCs _
  have hup0 : UpL (DV.d (.sc (.slice none 0 0)) :: Z48) zeroSt := by
    have e : upCs (DV.d (.sc (.slice none 0 0)) :: Z48) = zeroSt := rfl
    rw [← e]
    exact upL_upCs _
  obtain ⟨⟨pl, b0, u0⟩, hq⟩ : ∃ q, lstR xs 0 0 32 = q := ⟨_, rfl⟩
  have hl := lstR_rd h0 (most := 32) (by decide)
  rw [hq] at hl
  obtain ⟨hr0, hpl, hpv⟩ := hl
  replace hr0 : isRd xs b0 u0 := hr0
  have hpn : pl.length ≤ 4194304 := by simp only at hpl; omega
  obtain ⟨xl, hxl⟩ : ∃ xl, xl = pairsX pl := ⟨_, rfl⟩
  have eq1 : GFsGl.list xs 0 0 32 = (xl, b0, u0) := by subst hFsGl; show lsX xs 0 0 32 = _; unfold lsX; rw [hq, hxl]
  cbv at eq1
  refine callL hX (FnD.rowNew 0 (w_readV rx xs rc v o n hrx hrc hon hxs) rfl rfl hrcl rfl ?_)
  cbv
  refine callB hX hB ?_
  cbv
  refine ⟨by subst hFsGl; exact h0, by subst hFsGl; exact ⟨by decide, by decide⟩, ?_⟩
  simp only [eq1]
  refine loopL (T := fun _ => tabY [7, 19, 20, 23, 24, 25, 26, 27, 30, 33, 34, 35, 36, 39, 40, 41, 42, 45, 46, 47, 48, 51, 52, 53, 54, 57, 58, 59, 1002, 1005, 1065, 1070, 1071, 5004] []) (H := fun _ => [kn_rightSt GFsS4]) (tabY_ok _ _) hH follows_mixed hA hX (fun x : Int × Int × Int × List DV => (0 ≤ x.1 ∧ x.1 ≤ 8) ∧ ∃ os, x.2.2.2 = ownsD os ∧ owsR xs x.1.toNat b0 u0 = (os.take x.1.toNat, x.2.1, x.2.2.1) ∧ os.length = 8 ∧ os.drop x.1.toNat = List.replicate (8 - x.1.toNat) ⟨0, zeroRep⟩)
    (fun x => [(2, .ref 1 0 0), (4, .ref 2 0 0), (5, .ref 3 0 0), (14, .d (.sc (.int .i64 x.1)))]) (fun x => [⟨5, rc, true, v, true⟩, ⟨34, z, false, 0, true⟩, rdB 113 xs x.2.1 x.2.2.1, ⟨34, .d (.slc 3 xl) :: x.2.2.2, false, 0, true⟩])
    (fun x => 8 - x.1.toNat) (0, b0, u0, ownsD (List.replicate 8 ⟨0, zeroRep⟩)) ?_ ?_ ?_
  · exact ⟨⟨by simp only; omega, by simp only; omega⟩, _, rfl, rfl, rfl, rfl⟩
  · subst hz
    exact told_upst ⟨_, _, rfl, ⟨rfl, rfl, rfl, rfl, UpL.refl fun a _ => UpD.refl a⟩, _, _, rfl, ⟨rfl, rfl, rfl, rfl, UpL.refl fun a _ => UpD.refl a⟩, _, _, rfl, ⟨rfl, rfl, rfl, rfl, UpL.refl fun a _ => UpD.refl a⟩, _, _, rfl, ⟨rfl, rfl, rfl, rfl, hup xl⟩, rfl⟩ ⟨.inl (UpD.refl _), .inl (UpD.refl _), .inl (UpD.refl _), .inl (UpD.refl _), trivial⟩
  rintro R ⟨i, b, u, cs⟩ hR ⟨hi, hls⟩
  replace hi : 0 ≤ i ∧ i ≤ 8 := hi
  obtain ⟨os, hcs, hls, ho8, hod⟩ := hls
  replace hcs : cs = ownsD os := hcs
  replace hls : owsR xs i.toNat b0 u0 = (os.take i.toNat, b, u) := hls
  replace hod : os.drop i.toNat = List.replicate (8 - i.toNat) ⟨0, zeroRep⟩ := hod
  have hrd : isRd xs b u := by have := (owsR_rd hr0 i.toNat).1; rw [hls] at this; exact this
  cbv
  refine part (fun h => ?_) (fun h => ?_)
  · cbv
    have hi8 : i < 8 := by subst hA; simpa [A0] using h
    have hin : i.toNat < os.length := by omega
    have hoz : os[i.toNat]'hin = ⟨0, zeroRep⟩ := by
      have h1 := List.drop_eq_getElem_cons hin
      rw [hod, show 8 - i.toNat = (7 - i.toNat) + 1 by omega, List.replicate_succ] at h1
      exact (List.cons.inj h1).1.symm
    obtain ⟨P, hP, hPl, S, hdec, hset⟩ := own_dec (.d (.slc 3 xl)) hcs i.toNat hin
    rw [hoz] at hdec
    replace hdec : DV.d (.slc 3 xl) :: cs = P ++ (zero6 ++ S) := hdec
    have hsu := owsR_succ hls
    have hrw := owR_eq xs b u
    have k0 : ∀ d0 : DV, splice (P ++ (zero6 ++ S)) (1 + i.toNat * 6 + 0) [d0] = P ++ ([d0, .d (.sc (.int .i64 0)), .d (.sc (.bool false)), .d (.sc (.string none8)), .d (.sc (.int .i64 0)), .d (.slc 3 [])] ++ S) := fun d0 => splice_at 0 (by omega) (by decide) _
    have k1 : ∀ d0 d1 : DV, splice (P ++ ([d0, .d (.sc (.int .i64 0)), .d (.sc (.bool false)), .d (.sc (.string none8)), .d (.sc (.int .i64 0)), .d (.slc 3 [])] ++ S)) (1 + i.toNat * 6 + 1 + 0) [d1] = P ++ ([d0, d1, .d (.sc (.bool false)), .d (.sc (.string none8)), .d (.sc (.int .i64 0)), .d (.slc 3 [])] ++ S) := fun d0 d1 => splice_at 1 (by omega) (by simp only [List.length_cons, List.length_nil]; omega) _
    have k2 : ∀ d0 d1 d2 : DV, splice (P ++ ([d0, d1, .d (.sc (.bool false)), .d (.sc (.string none8)), .d (.sc (.int .i64 0)), .d (.slc 3 [])] ++ S)) (1 + i.toNat * 6 + 1 + 1) [d2] = P ++ ([d0, d1, d2, .d (.sc (.string none8)), .d (.sc (.int .i64 0)), .d (.slc 3 [])] ++ S) := fun d0 d1 d2 => splice_at 2 (by omega) (by simp only [List.length_cons, List.length_nil]; omega) _
    have k3 : ∀ d0 d1 d2 d3 : DV, splice (P ++ ([d0, d1, d2, .d (.sc (.string none8)), .d (.sc (.int .i64 0)), .d (.slc 3 [])] ++ S)) (1 + i.toNat * 6 + 1 + 2) [d3] = P ++ ([d0, d1, d2, d3, .d (.sc (.int .i64 0)), .d (.slc 3 [])] ++ S) := fun d0 d1 d2 d3 => splice_at 3 (by omega) (by simp only [List.length_cons, List.length_nil]; omega) _
    have k4 : ∀ d0 d1 d2 d3 d4 : DV, splice (P ++ ([d0, d1, d2, d3, .d (.sc (.int .i64 0)), .d (.slc 3 [])] ++ S)) (1 + i.toNat * 6 + 1 + 3) [d4] = P ++ ([d0, d1, d2, d3, d4, .d (.slc 3 [])] ++ S) := fun d0 d1 d2 d3 d4 => splice_at 4 (by omega) (by simp only [List.length_cons, List.length_nil]; omega) _
    have k5 : ∀ d0 d1 d2 d3 d4 d5 : DV, splice (P ++ ([d0, d1, d2, d3, d4, .d (.slc 3 [])] ++ S)) (1 + i.toNat * 6 + 1 + 4) [d5] = P ++ ([d0, d1, d2, d3, d4, d5] ++ S) := fun d0 d1 d2 d3 d4 d5 => splice_at 5 (by omega) (by simp only [List.length_cons, List.length_nil]; omega) _
    have g0 : ∀ (d : DV) (Q : List DV), (P ++ ((d :: Q) ++ S))[1 + i.toNat * 6 + 0]? = some d := fun d Q => (get_at 0 (by omega) (by simp)).trans rfl
    have t0 : ∀ (d : DV) (Q : List DV), ((P ++ ((d :: Q) ++ S)).drop (1 + i.toNat * 6 + 0)).take 1 = [d] := fun d Q => by rw [show 1 + i.toNat * 6 + 0 = P.length by omega, List.drop_left]; rfl
    have hrp : pullL [0, 1, 2, 3] rc = rc := pullL_closed _ _ hrcl
    have hzp : pullL [0, 1, 2, 3] z = z := by rw [hz]; exact pullL_closed _ _ rfl
    repeat' first
      | (refine part (fun h2 => ?_) (fun h2 => ?_) <;> try cbv)
      | (refine And.intro ?_ ?_)
      | (with_reducible refine callB hX hB ?_) <;> cbv
    all_goals subst hA hX hW hR hFsRr hFsGl hFsS4
    all_goals clear hH hB
    all_goals try rw [hdec]
    all_goals simp only [A0, nc, FsRr0, FsGl0, decide_eq_true_eq, decide_eq_false_iff_not] at *
    all_goals have x1 := num_rd hrd
    all_goals generalize numR xs b u = q1 at *
    all_goals obtain ⟨n1, b1, u1⟩ := q1
    all_goals try simp only at *
    all_goals have x2 := num_rd x1.1
    all_goals generalize numR xs b1 u1 = q2 at *
    all_goals obtain ⟨n2, b2, u2⟩ := q2
    all_goals try simp only at *
    all_goals have x3 := flag_rd x2.1
    all_goals generalize flagR xs b2 u2 = q3 at *
    all_goals obtain ⟨n3, b3, u3⟩ := q3
    all_goals try simp only at *
    all_goals have x4 := text_rd 64 x3
    all_goals generalize textR xs b3 u3 64 = q4 at *
    all_goals obtain ⟨n4, b4, u4⟩ := q4
    all_goals try simp only at *
    all_goals have x5 := num_rd x4
    all_goals generalize numR xs b4 u4 = q5 at *
    all_goals obtain ⟨n5, b5, u5⟩ := q5
    all_goals try simp only at *
    all_goals generalize lsX xs b5 u5 8 = q6 at *
    all_goals obtain ⟨n6, b6, u6⟩ := q6
    all_goals try simp only at *
    all_goals try simp only [k0, k1, k2, k3, k4, k5, g0, t0]
    all_goals first
      | assumption
      | exact x1.1
      | exact x2.1
      | exact x3
      | exact x4
      | exact x5.1
      | exact ⟨hi.1, hi8⟩
      | exact ⟨by decide, by decide⟩
      | (simp only [List.length_append, List.length_cons, List.length_nil, zero6, hPl]; omega)
      | (refine ⟨rfl, ?_, rfl⟩; simp only [List.length_append, List.length_cons, List.length_nil, zero6, hPl]; omega)
      | skip
    all_goals have ei : IntKind.wrap .i64 (i + 1) = i + 1 := wrap_i64 (by unfold r64; omega)
    all_goals obtain ⟨o, ho⟩ : ∃ o, o = owR xs b u := ⟨_, rfl⟩
    all_goals have how := hrw
    all_goals rw [← ho] at how
    all_goals rw [← ho] at hsu
    all_goals first
      | (refine ⟨rfl, ?_, trivial⟩; simp only [List.length_append, List.length_cons, List.length_nil, zero6, hPl]; omega)
      | skip
    all_goals rw [hdec, k0, g0] at h2
    · replace h2 : n1 = 0 := h2
      rw [if_pos h2] at how
      obtain ⟨y1, y2⟩ := own_next ⟨n1, zeroRep⟩ ho8 (show i.toNat < 8 by omega) hod
      refine ⟨(i + 1, b1, u1, ownsD (os.set i.toNat ⟨n1, zeroRep⟩)), ⟨⟨by simp only; omega, by simp only; omega⟩, os.set i.toNat ⟨n1, zeroRep⟩, rfl, ?_, by rw [List.length_set]; exact ho8, ?_⟩, by simp only; omega, told_keep [0, 1, 2, 3] rfl ?_ ?_⟩
      · simp only
        rw [show (i + 1).toNat = i.toNat + 1 by omega, hsu, how, y1]
      · simp only
        rw [show (i + 1).toNat = i.toNat + 1 by omega]
        exact y2
      · have hc1 : pullL [0, 1, 2, 3] (.d (.slc 3 xl) :: ownsD (os.set i.toNat ⟨n1, zeroRep⟩)) = .d (.slc 3 xl) :: ownsD (os.set i.toNat ⟨n1, zeroRep⟩) := pullL_closed _ _ (own_clo _)
        rw [hset] at hc1
        simp only
        rw [hset]
        simp [keepSt, pullBox, hzp, hrp, pullL, pullD]
        exact hc1.symm
      · simp [toldP, getS, pullD, ei]
        try exact ⟨rfl, rfl, rfl⟩
    · replace h2 : ¬ n1 = 0 := h2
      rw [if_neg h2] at how
      obtain ⟨y1, y2⟩ := own_next ⟨n1, ⟨n2, n3, n4, n5, n6⟩⟩ ho8 (show i.toNat < 8 by omega) hod
      refine ⟨(i + 1, b6, u6, ownsD (os.set i.toNat ⟨n1, ⟨n2, n3, n4, n5, n6⟩⟩)), ⟨⟨by simp only; omega, by simp only; omega⟩, os.set i.toNat ⟨n1, ⟨n2, n3, n4, n5, n6⟩⟩, rfl, ?_, by rw [List.length_set]; exact ho8, ?_⟩, by simp only; omega, told_keep [0, 1, 2, 3] rfl ?_ ?_⟩
      · simp only
        rw [show (i + 1).toNat = i.toNat + 1 by omega, hsu, how, y1]
      · simp only
        rw [show (i + 1).toNat = i.toNat + 1 by omega]
        exact y2
      · have hc1 : pullL [0, 1, 2, 3] (.d (.slc 3 xl) :: ownsD (os.set i.toNat ⟨n1, ⟨n2, n3, n4, n5, n6⟩⟩)) = .d (.slc 3 xl) :: ownsD (os.set i.toNat ⟨n1, ⟨n2, n3, n4, n5, n6⟩⟩) := pullL_closed _ _ (own_clo _)
        rw [hset] at hc1
        simp only
        rw [hset]
        simp [keepSt, pullBox, hzp, hrp, pullL, pullD]
        exact hc1.symm
      · simp [toldP, getS, pullD, ei]
        try exact ⟨rfl, rfl, rfl⟩
  · cbv
    have hi8 : i = 8 := by
      subst hA
      simp only [A0, decide_eq_false_iff_not] at h
      replace h : ¬ i < 8 := h
      omega
    subst hi8
    have hto : os.take (Int.toNat 8) = os := List.take_of_length_le (by show os.length ≤ 8; omega)
    rw [hto] at hls
    replace hls : owsR xs 8 b0 u0 = (os, b, u) := hls
    have hgs : getSt xs = (if endR xs b u = 0 then (if rightSt (.d (.slc 3 xl) :: cs) = true then (.d (.slc 3 xl) :: cs, 0) else (zeroSt, 4)) else (zeroSt, endR xs b u)) := by
      unfold getSt
      simp only [hq, hls]
      rw [hxl, hcs]
      rfl
    have hP : isP xl := by rw [hxl]; exact ⟨pl, rfl, hpn⟩
    have hO : isOwn cs := ⟨os, ho8, hcs, fun o ho => by
      have h9 := (owsR_rd hr0 8).2.2
      rw [hls] at h9
      obtain ⟨_, ps, e, hl, _⟩ := h9 o ho
      rw [e]
      exact ⟨ps, rfl, by omega⟩⟩
    have hst := isSt.mk hP hO
    have hcl := hO.len
    have hzl : z.length = 49 := by rw [hz]; rfl
    repeat' first
      | (refine part (fun h2 => ?_) (fun h2 => ?_) <;> try cbv)
      | (refine And.intro ?_ ?_)
      | (with_reducible refine callB hX hB ?_) <;> cbv
    all_goals subst hA hX hW hR hFsRr hFsGl hFsS4
    all_goals clear hH hB
    all_goals simp only [A0, nc, FsRr0, FsGl0, FsS40, decide_eq_true_eq, decide_eq_false_iff_not] at *
    all_goals first
      | assumption
      | (simp [hcl, hzl]; done)
      | skip
    all_goals have hkr : pullL [0] rc = rc := pullL_closed _ _ hrcl
    · have he : ¬ endR xs b u = 0 := by simpa using h2
      rw [hgs, if_neg he]
      refine ret_upk (κ := [0]) rfl ⟨_, rfl, UpL.agg (hup0) (UpL.keep UpL.done)⟩ rfl ⟨rfl, ?_⟩
      show [(⟨_, pullL [0] rc, true, v, true⟩ : Box)] = _
      rw [hkr]
      rfl
    · rename_i h3
      have he : endR xs b u = 0 := by simpa using h3
      have hr : ¬ rightSt (.d (.slc 3 xl) :: cs) = true := by simpa using h2
      rw [hgs, if_pos he, if_neg hr]
      refine ret_upk (κ := [0]) rfl ⟨_, rfl, UpL.agg (hup0) (UpL.keep UpL.done)⟩ rfl ⟨rfl, ?_⟩
      show [(⟨_, pullL [0] rc, true, v, true⟩ : Box)] = _
      rw [hkr]
      rfl
    · rename_i h3
      have he : endR xs b u = 0 := by simpa using h3
      have hr : rightSt (.d (.slc 3 xl) :: cs) = true := by simpa using h2
      have hclo := hst.closed
      rw [hgs, if_pos he, if_pos hr]
      refine ret_keep [0] rfl ⟨?_, ?_⟩
      · show DV.tup [.agg (pullL [0] (.d (.slc 3 xl) :: cs)), _] = _
        rw [pullL_closed _ _ hclo]
        rfl
      · show [(⟨_, pullL [0] rc, true, v, true⟩ : Box)] = _
        rw [hkr]
        rfl
end Go.Proofs.Ytghkcmgiagodlaa
