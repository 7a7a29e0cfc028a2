/- Right cells, written one behind the other, come back. No condition. -/
import Derived.Test.YtbhapclaochcnaaLeY
namespace Go.Proofs.Ytbhapclaochcnaa
open Go.RowKit
set_option linter.all false
set_option maxHeartbeats 4000000
def Cell.row (c : Cell) : List PD := [.sc (.int .i64 c.status), .sc (.int .i64 c.pe), .sc (.int .i64 c.pr), .sc (.int .i64 c.ve), .sc (.int .i64 c.vr), .sc (.int .i64 c.ckind), .sc (.int .i64 c.cclient), .sc (.int .i64 c.cseq), .sc (.string c.ckey), .sc (.string c.cfin), .sc (.string c.cold), .sc (.string c.cval), .sc (.int .i64 c.aseq), .sc (.int .i64 c.ad0), .sc (.int .i64 c.ad1), .sc (.int .i64 c.ad2), .sc (.int .i64 c.ad3), .sc (.int .i64 c.ad4), .sc (.int .i64 c.ad5), .sc (.int .i64 c.ad6), .sc (.bool c.same)]
def cellsX (l : List Cell) : List (List PD) := l.map Cell.row
theorem cellsX_length (l : List Cell) : (cellsX l).length = l.length := by simp [cellsX]
theorem cellsX_sz {l : List Cell} : ∀ x ∈ cellsX l, x.length = 21 := by
  intro x hx
  simp only [cellsX, List.mem_map] at hx
  obtain ⟨_, _, rfl⟩ := hx
  rfl
theorem crow {xs : List (List PD)} {l : List Cell} (hxs : xs = cellsX l) {i : Int} (h0 : 0 ≤ i) (h1 : i < l.length) : xs.getD i.toNat [] = (l[i.toNat]'(by omega)).row := by
  subst hxs
  have : i.toNat < l.length := by omega
  simp [cellsX, List.getD_eq_getElem?_getD, this]
def isCells (xs : List (List PD)) : Prop := ∃ l : List Cell, xs = cellsX l ∧ l.length ≤ 1048576 ∧ ∀ c ∈ l, okCell c
def allB (ws : List Cell) : List UInt8 := (ws.map cellB).flatten
theorem allB_snoc (ws : List Cell) (c : Cell) : allB (ws ++ [c]) = allB ws ++ cellB c := by simp [allB]
theorem cellB_pos (c : Cell) : 0 < (cellB c).length := by
  have : 0 < (numB c.status).length := numF_pos 9 _
  simp only [cellB, List.length_append]
  omega
def wantV : Nat → Nat → DV
  | 0, _ => .d (.sc (.slice none 0 0))
  | n + 1, v => .view 21 0 v 0 (n + 1)
def wantB : Nat → List DV → Nat → Store
  | 0, _, _ => []
  | n + 1, dc, v => [⟨35, dc, true, v, true⟩]
theorem putC_gt (xs : List (List PD)) (c : Cell) : decide ((xs.length : Int) < ((putCellX xs c).length : Nat)) = rightCell c := by
  unfold putCellX
  cases h : rightCell c
  · simp
  · have := cellB_pos c
    simp only [if_true, List.length_append, bytesP_length, decide_eq_true_eq]
    omega
def wOk (i : Int) (ws : List Cell) : Prop := ws.length ≤ i.toNat ∧ (allB ws).length ≤ 1000 * ws.length ∧ ∀ c ∈ ws, rightCell c = true ∧ okCell c
theorem wOk.more {i : Int} {ws : List Cell} (h : wOk i ws) (h0 : 0 ≤ i) : wOk (i + 1) ws := ⟨Nat.le_trans h.1 (by omega), h.2⟩
theorem wOk.snoc {i : Int} {ws : List Cell} (h : wOk i ws) (h0 : 0 ≤ i) {c : Cell} (hr : rightCell c = true) (hk : okCell c) : wOk (i + 1) (ws ++ [c]) := by
  obtain ⟨h1, h2, h3⟩ := h
  have hp := cellB_small hr
  refine ⟨by rw [List.length_append, List.length_singleton]; omega, by rw [allB_snoc, List.length_append, List.length_append, List.length_singleton]; omega, fun x hx => ?_⟩
  rcases List.mem_append.1 hx with hx | hx
  · exact h3 x hx
  · rw [List.mem_singleton] at hx
    subst hx
    exact ⟨hr, hk⟩
theorem pullRows (κ : List Nat) (xs : List (List PD)) : pullL κ (rowsD xs) = rowsD xs := by
  rw [pullL_eq]
  have : ∀ c ∈ rowsD xs, pullD κ c = c := fun c hc => by
    simp only [rowsD, List.mem_map] at hc
    obtain ⟨p, _, rfl⟩ := hc
    rfl
  rw [List.map_congr_left this, List.map_id']
theorem cmd_cells : ∀ {ws : List Cell} {j : Nat} (h : j < ws.length), (rowsD (cellsX ws)).drop (j * 21) = ws[j].row.map .d ++ rowsD (cellsX (ws.drop (j + 1)))
  | c :: ws, 0, _ => by simp [cellsX, rowsD, Cell.row]
  | c :: ws, j + 1, h => by
      have h2 : j < ws.length := by simpa using h
      have e : rowsD (cellsX (c :: ws)) = c.row.map .d ++ rowsD (cellsX ws) := by simp [cellsX, rowsD]
      have ih := cmd_cells h2
      rw [e, show (j + 1) * 21 = 21 + j * 21 by omega, ← List.drop_drop]
      have e2 : (c.row.map DV.d ++ rowsD (cellsX ws)).drop 21 = rowsD (cellsX ws) := rfl
      rw [e2, ih]
      rfl
theorem rowsD_length : ∀ ws : List Cell, (rowsD (cellsX ws)).length = ws.length * 21
  | [] => rfl
  | c :: ws => by
      have e : rowsD (cellsX (c :: ws)) = c.row.map .d ++ rowsD (cellsX ws) := by simp [cellsX, rowsD]
      rw [e, List.length_append, rowsD_length ws, List.length_cons, List.length_map]
      simp only [Cell.row, List.length_cons, List.length_nil]
      omega
theorem cmd_get {ws : List Cell} {j : Nat} (h : j < ws.length) (f : Nat) : (rowsD (cellsX ws))[j * 21 + f]? = (ws[j].row.map DV.d ++ rowsD (cellsX (ws.drop (j + 1))))[f]? := by
  rw [← cmd_cells h, List.getElem?_drop]
theorem cmd_has {ws : List Cell} {j : Nat} (h : j < ws.length) : A0.has (rowsD (cellsX ws)) (j * 21) 21 (ws[j].row.map .d) := by
  refine ⟨rfl, by rw [rowsD_length]; omega, ?_⟩
  rw [cmd_cells h]
  rfl
theorem allB_take {ws : List Cell} {j : Nat} (h : j < ws.length) : allB (ws.take (j + 1)) = allB (ws.take j) ++ cellB ws[j] := by
  rw [List.take_succ_eq_append_getElem h, allB_snoc]
theorem allB_split {ws : List Cell} {j : Nat} (h : j < ws.length) : allB ws = allB (ws.take j) ++ (cellB ws[j] ++ allB (ws.drop (j + 1))) := by
  have e : ws = ws.take j ++ (ws[j] :: ws.drop (j + 1)) := by
    rw [← List.drop_eq_getElem_cons h, List.take_append_drop]
  rw [congrArg allB e]
  simp only [allB, List.map_append, List.flatten_append, List.map_cons, List.flatten_cons]
/-- The next command comes back. -/
theorem next_back {ws : List Cell} (hw : ∀ c ∈ ws, rightCell c = true ∧ okCell c) {j : Nat} (h : j < ws.length) : getCellX (bytesP (allB ws)) ((allB (ws.take j)).length : Int) 0 = (ws[j], ((allB (ws.take (j + 1))).length : Int), 0) := by
  have hc := hw _ (List.getElem_mem h)
  rw [cell_back (allB (ws.take j)) (allB (ws.drop (j + 1))) ws[j] hc.1 hc.2 (allB_split h) rfl, allB_take h]
theorem okLet_cell (c : Cell) (h : okCell c) : okLet ⟨0, 0, 0, 0, 0, 0, 0, 0, 0, 0, none8, none8, none8, none8, 0, 0, 0, 0, 0, 0, 0, 0, c.status, c.pe, c.pr, c.ve, c.vr, c.ckind, c.cclient, c.cseq, c.ckey, c.cfin, c.cold, c.cval, c.aseq, c.ad0, c.ad1, c.ad2, c.ad3, c.ad4, c.ad5, c.ad6, c.same, 0, 0, 0, 0, 0, 0, 0, none8⟩ := by
  have z : r64 0 := by unfold r64; decide
  have z8 : (none8 : ByteArray).size ≤ 1048576 := by decide
  exact ⟨⟨z, z, z⟩, ⟨z, z⟩, ⟨z, z⟩, ⟨z, z, z, z8, z8, z8, z8⟩, ⟨z, z, z, z, z, z, z, z⟩, h, ⟨z, z, z, z, z, z, z⟩, z8⟩
structure BackS where
  i : Int
  n : Nat
  dc : List DV
  bx : List (List PD)
  ver : Nat
def BackI (x : BackS) : Prop := (0 ≤ x.i ∧ x.i ≤ 10) ∧ ∃ ws : List Cell, wOk x.i ws ∧ x.n = ws.length ∧ x.dc = rowsD (cellsX ws) ∧ x.bx = bytesP (allB ws)
theorem rows_snoc (ws : List Cell) (c : Cell) : rowsD (cellsX ws) ++ c.row.map .d = rowsD (cellsX (ws ++ [c])) := by simp [cellsX, rowsD]
theorem bif2 {a b : Bool} (h : (bif a then b else false) = true) : a = true ∧ b = true := by cases a <;> simp_all

set_option maxRecDepth 100000 in
theorem v_cells15 (ls : List (List PD)) (hp0 : isCells ls) : FnV Try.prog 8 [.d (.slc 21 ls)] (boolD true) := by
  obtain ⟨l, hls, hll, hlo⟩ := hp0
  have hln : ls.length = l.length := by rw [hls]; exact cellsX_length l
  obtain ⟨GFsL9, hFsL9⟩ : ∃ F, F = FsL90 := ⟨_, rfl⟩
  obtain ⟨GFsL4, hFsL4⟩ : ∃ F, F = FsL40 := ⟨_, rfl⟩
  obtain ⟨GFsL1, hFsL1⟩ : ∃ F, F = FsL10 := ⟨_, rfl⟩
  obtain ⟨GFsK, hFsK⟩ : ∃ F, F = FsK0 := ⟨_, rfl⟩
  obtain ⟨GFsS, hFsS⟩ : ∃ F, F = FsS0 := ⟨_, rfl⟩
  obtain ⟨GFsLG, hFsLG⟩ : ∃ F, F = FsLG0 := ⟨_, rfl⟩
  obtain ⟨GFsR, hFsR⟩ : ∃ F, F = FsR0 := ⟨_, rfl⟩
  have hH : SoundK Try.prog [kn_light GFsL9, kn_putCellX GFsL4, kn_rightCell GFsL1, kn_runs15 GFsK] := by subst hFsL9 hFsL4 hFsL1 hFsK hFsS hFsLG hFsR; exact orK_ok ok_light (orK_ok ok_putCellX (orK_ok ok_rightCell (orK_ok ok_runs15 noK_ok)))
  have hB : SoundB Try.prog [kb_pRead GFsS, kb_gCell GFsLG, kb_pEnd GFsR] := by subst hFsL9 hFsL4 hFsL1 hFsK hFsS hFsLG hFsR; exact orB_ok okb_pRead (orB_ok okb_gCell (orB_ok okb_pEnd noB_ok))
  refine FnD_cbv (T := fun _ => tabY [21, 31, 40, 51, 70] []) (H := fun _ => [kn_light GFsL9, kn_putCellX GFsL4, kn_rightCell GFsL1, kn_runs15 GFsK]) (tabY_ok _ _) hH follows_mixed Try.func8 rfl Try.ntmps8 (by simp) fun A X W hA hX hW => ?_
  cbv
  refine loopL (T := fun _ => tabY [21, 31, 40, 51, 70] []) (H := fun _ => [kn_light GFsL9, kn_putCellX GFsL4, kn_rightCell GFsL1, kn_runs15 GFsK]) (tabY_ok _ _) hH follows_mixed hA hX BackI
    (fun x => [(0, .d (.slc 21 ls)), (3, .d (.slc 1 x.bx)), (4, wantV x.n x.ver), (5, .d (.sc (.int .i64 x.i)))]) (fun x => wantB x.n x.dc x.ver)
    (fun x => 10 - x.i.toNat) ⟨0, 0, [], [], 0⟩ ?_ ?_ ?_
  · exact ⟨⟨by decide, by decide⟩, [], ⟨Nat.le_refl _, by decide, fun c hc => absurd hc (by simp)⟩, rfl, rfl, rfl⟩
  · refine told_up ?_
    simp [toldUP, UpD, getS, intD, boolD, wantV]
  rintro R ⟨i, n, dc, bx, ver⟩ hR ⟨⟨i0, i1⟩, ws, i2, hn, hdc, hbx⟩
  replace i0 : 0 ≤ i := i0
  replace i1 : i ≤ 10 := i1
  replace i2 : wOk i ws := i2
  replace hn : n = ws.length := hn
  replace hdc : dc = rowsD (cellsX ws) := hdc
  replace hbx : bx = bytesP (allB ws) := hbx
  have hbk : isBn 2000000 bx := ⟨allB ws, hbx, by have := i2.1; have := i2.2.1; omega⟩
  rcases n with _ | n
  cbv
  · repeat' first
      | (refine And.intro ?_ ?_)
    rotate_right 1
    · refine part (fun h1 => ?_) (fun h1 => ?_)
      · cbv
        repeat' first
          | (refine part (fun h => ?_) (fun h => ?_) <;> try cbv)
          | (refine And.intro ?_ ?_)
        all_goals clear hH hB
        all_goals subst hA hX hW hFsL9 hFsL4 hFsL1 hFsK hFsS hFsLG hFsR hR
        all_goals simp only [A0, nc, FsL90, FsL40, FsL10, FsK0, FsS0, FsLG0, FsR0, Nat.zero_add, decide_eq_true_eq, decide_eq_false_iff_not, Bool.not_eq_true', Bool.not_eq_false'] at *
        all_goals have hb := bif2 h1
        all_goals try simp only [decide_eq_true_eq] at hb
        all_goals replace hb : i < (ls.length : Int) ∧ i < 10 := hb
        all_goals have hlN : i.toNat < l.length := by omega
        all_goals have hro : ls.getD i.toNat [] = (l[i.toNat]).row := crow hls i0 (by omega)
        all_goals have hco := hlo _ (List.getElem_mem hlN)
        all_goals generalize l[i.toNat] = c at hro hco
        all_goals generalize ls.getD i.toNat [] = r at *
        all_goals subst hro
        all_goals try simp only [Cell.row, List.drop_zero, List.drop_succ_cons, List.map_cons, List.map_nil, List.getElem?_cons_zero, List.getElem?_cons_succ] at *
        all_goals have wi : IntKind.wrap .i64 (i + 1) = i + 1 := wrap_i64 (by unfold r64; omega)
        all_goals have hgt := putC_gt bx c
        all_goals have hwo := i2.more i0
        all_goals first
          | (show Region.lexB _ _ = true; kernel_rfl)
          | assumption
          | exact hco
          | exact okLet_cell c hco
          | exact hbk
          | exact ⟨i0, hb.1⟩
          | rfl
          | (simp; done)
          | exact ⟨by simp [szT], by decide⟩
          | exact absurd hgt h
          | (refine ⟨⟨i + 1, 0, [], bx, 0⟩, ⟨⟨by show 0 ≤ i + 1; omega, by show i + 1 ≤ 10; omega⟩, ⟨ws, hwo, hn, by rw [List.eq_nil_of_length_eq_zero hn.symm]; rfl, hbx⟩⟩, by show 10 - (i + 1).toNat < 10 - i.toNat; omega, told_keep [] rfl ?_ ⟨.inl rfl, .inl rfl, .inl rfl, .inl (congrArg (fun n => DV.d (.sc (.int .i64 n))) wi.symm), trivial⟩⟩
             simp [keepSt, pullBox, wantB, hdc, pullRows])
          | (have hrc : rightCell c = false := by rw [← hgt]; exact decide_eq_false ‹¬ (bx.length : Int) < _›
             have hpx : putCellX bx c = bx := by unfold putCellX; rw [hrc]; rfl
             refine ⟨⟨i + 1, 0, [], bx, 0⟩, ⟨⟨by show 0 ≤ i + 1; omega, by show i + 1 ≤ 10; omega⟩, ⟨ws, hwo, hn, by rw [List.eq_nil_of_length_eq_zero hn.symm]; rfl, hbx⟩⟩, by show 10 - (i + 1).toNat < 10 - i.toNat; omega, told_keep [] rfl ?_ ⟨.inl rfl, .inl (by show DV.d (.slc 1 _) = DV.d (.slc 1 (putCellX bx c)); rw [hpx]), .inl rfl, .inl (congrArg (fun n => DV.d (.sc (.int .i64 n))) wi.symm), trivial⟩⟩
             simp [keepSt, pullBox, wantB, hdc, pullRows])
          | (have hrc : rightCell c = true := by rw [← hgt]; exact decide_eq_true ‹(bx.length : Int) < _›
             have hpx : putCellX bx c = bytesP (allB (ws ++ [c])) := by unfold putCellX; rw [hrc, allB_snoc, show bytesP (allB ws ++ cellB c) = bytesP (allB ws) ++ bytesP (cellB c) from by simp [bytesP], hbx]; rfl
             have rows_snoc2 := rows_snoc ws c
             simp only [Cell.row, List.map_cons, List.map_nil] at rows_snoc2
             refine ⟨⟨i + 1, 1, rowsD (cellsX [c]), putCellX bx c, 0⟩, ⟨⟨by show 0 ≤ i + 1; omega, by show i + 1 ≤ 10; omega⟩, ⟨ws ++ [c], i2.snoc i0 hrc hco, by rw [List.eq_nil_of_length_eq_zero hn.symm]; rfl, by rw [List.eq_nil_of_length_eq_zero hn.symm]; rfl, hpx⟩⟩, by show 10 - (i + 1).toNat < 10 - i.toNat; omega, told_keep [1] rfl ?_ ⟨.inl rfl, .inl rfl, .inl rfl, .inl (congrArg (fun n => DV.d (.sc (.int .i64 n))) wi.symm), trivial⟩⟩
             simp [keepSt, pullBox, wantB, Cell.row, rowsD, cellsX, Cell.row, pullL, pullD])
          | exact ⟨by rw [hdc, rowsD_length, ← hn], rfl⟩
          | (rw [hdc, rowsD_length, ← hn]; rfl)
          | (rw [hdc, rowsD_length, ← hn]; done)
          | exact ⟨by have := i2.1; omega, by have := i2.1; omega⟩
          | skip
      · cbv
        refine callB hX hB ?_
        cbv
        refine And.intro (by subst hFsS; exact ⟨allB ws, hbx, by have := i2.1; have := i2.2.1; omega⟩) ?_
        have c00 : A.cmp .lss 0 0 = false := by subst hA; rfl
        have hrd : isRd bx 0 0 := rd0 ⟨allB ws, hbx, by have := i2.1; have := i2.2.1; omega⟩
        have hen : GFsR.fin bx 0 0 = 0 := by subst hFsR; rw [hbx, List.eq_nil_of_length_eq_zero hn.symm]; rfl
        cbv at c00 hen
        have z00 : A.cmp .eql 0 0 = true := by subst hA; rfl
        have n2 : A.not false = true := by subst hA; rfl
        have o2 : A.cond true true false = true := by subst hA; rfl
        refine unrollL (T := fun _ => tabY [21, 31, 40, 51, 70] [17]) (H := fun _ => [kn_light GFsL9, kn_putCellX GFsL4, kn_rightCell GFsL1, kn_runs15 GFsK]) (tabY_ok _ _) hH follows_mixed hA hX 1 fun R2 hR2 => ?_
        cbv
        refine hR2 _ _ _ ?_
        cbv
        simp only [c00]
        cbv
        clear hR2
        cbv at z00 n2 o2
        repeat' first
          | (simp only [hen, z00, n2, o2]; cbv)
          | (refine And.intro ?_ ?_)
          | ((with_reducible refine callB hX hB ?_) <;> cbv)
        all_goals clear hH hB
        all_goals subst hA hX hW hFsL9 hFsL4 hFsL1 hFsK hFsS hFsLG hFsR
        all_goals first
          | exact hrd
          | (simp only [A0]; intros; first | assumption | trivial | (simp_all; done))
          | (refine ret_v ?_ rfl; rfl)
    all_goals subst hA
    all_goals simp only [A0]
    all_goals first
      | (intro hq; rw [hq]; rfl)
      | (intros; first | assumption | trivial | (simp_all; done))
  · cbv
    repeat' first
      | (refine And.intro ?_ ?_)
    rotate_right 1
    · refine part (fun h1 => ?_) (fun h1 => ?_)
      · cbv
        repeat' first
          | (refine part (fun h => ?_) (fun h => ?_) <;> try cbv)
          | (refine And.intro ?_ ?_)
        all_goals clear hH hB
        all_goals subst hA hX hW hFsL9 hFsL4 hFsL1 hFsK hFsS hFsLG hFsR hR
        all_goals simp only [A0, nc, FsL90, FsL40, FsL10, FsK0, FsS0, FsLG0, FsR0, Nat.zero_add, decide_eq_true_eq, decide_eq_false_iff_not, Bool.not_eq_true', Bool.not_eq_false'] at *
        all_goals have hb := bif2 h1
        all_goals try simp only [decide_eq_true_eq] at hb
        all_goals replace hb : i < (ls.length : Int) ∧ i < 10 := hb
        all_goals have hlN : i.toNat < l.length := by omega
        all_goals have hro : ls.getD i.toNat [] = (l[i.toNat]).row := crow hls i0 (by omega)
        all_goals have hco := hlo _ (List.getElem_mem hlN)
        all_goals generalize l[i.toNat] = c at hro hco
        all_goals generalize ls.getD i.toNat [] = r at *
        all_goals subst hro
        all_goals try simp only [Cell.row, List.drop_zero, List.drop_succ_cons, List.map_cons, List.map_nil, List.getElem?_cons_zero, List.getElem?_cons_succ] at *
        all_goals have wi : IntKind.wrap .i64 (i + 1) = i + 1 := wrap_i64 (by unfold r64; omega)
        all_goals have hgt := putC_gt bx c
        all_goals have hwo := i2.more i0
        all_goals first
          | (show Region.lexB _ _ = true; kernel_rfl)
          | assumption
          | exact hco
          | exact okLet_cell c hco
          | exact hbk
          | exact ⟨i0, hb.1⟩
          | rfl
          | (simp; done)
          | exact ⟨by simp [szT], by decide⟩
          | exact absurd hgt h
          | (refine ⟨⟨i + 1, n + 1, dc, bx, ver⟩, ⟨⟨by show 0 ≤ i + 1; omega, by show i + 1 ≤ 10; omega⟩, ⟨ws, hwo, hn, hdc, hbx⟩⟩, by show 10 - (i + 1).toNat < 10 - i.toNat; omega, told_keep [0] rfl ?_ ⟨.inl rfl, .inl rfl, .inl rfl, .inl (congrArg (fun n => DV.d (.sc (.int .i64 n))) wi.symm), trivial⟩⟩
             simp [keepSt, pullBox, wantB, hdc, pullRows])
          | (have hrc : rightCell c = false := by rw [← hgt]; exact decide_eq_false ‹¬ (bx.length : Int) < _›
             have hpx : putCellX bx c = bx := by unfold putCellX; rw [hrc]; rfl
             refine ⟨⟨i + 1, n + 1, dc, bx, ver⟩, ⟨⟨by show 0 ≤ i + 1; omega, by show i + 1 ≤ 10; omega⟩, ⟨ws, hwo, hn, hdc, hbx⟩⟩, by show 10 - (i + 1).toNat < 10 - i.toNat; omega, told_keep [0] rfl ?_ ⟨.inl rfl, .inl (by show DV.d (.slc 1 _) = DV.d (.slc 1 (putCellX bx c)); rw [hpx]), .inl rfl, .inl (congrArg (fun n => DV.d (.sc (.int .i64 n))) wi.symm), trivial⟩⟩
             simp [keepSt, pullBox, wantB, hdc, pullRows])
          | (have hrc : rightCell c = true := by rw [← hgt]; exact decide_eq_true ‹(bx.length : Int) < _›
             have hpx : putCellX bx c = bytesP (allB (ws ++ [c])) := by unfold putCellX; rw [hrc, allB_snoc, show bytesP (allB ws ++ cellB c) = bytesP (allB ws) ++ bytesP (cellB c) from by simp [bytesP], hbx]; rfl
             have rows_snoc2 := rows_snoc ws c
             simp only [Cell.row, List.map_cons, List.map_nil] at rows_snoc2
             refine ⟨⟨i + 1, n + 2, dc ++ c.row.map .d, putCellX bx c, ver + 1⟩, ⟨⟨by show 0 ≤ i + 1; omega, by show i + 1 ≤ 10; omega⟩, ⟨ws ++ [c], i2.snoc i0 hrc hco, by show n + 2 = _; rw [List.length_append, ← hn]; rfl, by show dc ++ c.row.map .d = _; rw [hdc, rows_snoc], hpx⟩⟩, by show 10 - (i + 1).toNat < 10 - i.toNat; omega, told_keep [0] rfl ?_ ⟨.inl rfl, .inl rfl, .inl rfl, .inl (congrArg (fun n => DV.d (.sc (.int .i64 n))) wi.symm), trivial⟩⟩
             simp [keepSt, pullBox, wantB, Cell.row, hdc, rows_snoc2, pullRows])
          | exact ⟨by rw [hdc, rowsD_length, ← hn], rfl⟩
          | (rw [hdc, rowsD_length, ← hn]; rfl)
          | (rw [hdc, rowsD_length, ← hn]; done)
          | exact ⟨by have := i2.1; omega, by have := i2.1; omega⟩
          | skip
      · cbv
        refine callB hX hB ?_
        cbv
        refine And.intro (by subst hFsS; exact ⟨allB ws, hbx, by have := i2.1; have := i2.2.1; omega⟩) ?_
        refine loopL (T := fun _ => tabY [21, 31, 40, 51, 70] [17]) (H := fun _ => [kn_light GFsL9, kn_putCellX GFsL4, kn_rightCell GFsL1, kn_runs15 GFsK]) (tabY_ok _ _) hH follows_mixed hA hX (fun x : Int × Int => (0 ≤ x.1 ∧ x.1 ≤ ((n + 1 : Nat) : Int)) ∧ x.2 = (allB (ws.take x.1.toNat)).length)
          (fun x => [(4, .view 21 0 ver 0 (n + 1)), (7, .ref 1 0 0), (8, .d (.sc (.int .i64 x.1)))]) (fun x => [⟨35, dc, true, ver, true⟩, rdB 95 bx x.2 0])
          (fun x => (n + 1) - x.1.toNat) (0, 0) ?_ ?_ ?_
        · exact ⟨⟨Int.le_refl 0, by show (0 : Int) ≤ ((n + 1 : Nat) : Int); omega⟩, rfl⟩
        · exact told_less (by simp [toldP, getS])
        rintro R2 ⟨j, a⟩ hR2 ⟨⟨j0, j1⟩, ja⟩
        cbv
        replace j0 : 0 ≤ j := j0
        replace j1 : j ≤ ((n + 1 : Nat) : Int) := j1
        replace ja : a = (allB (ws.take j.toNat)).length := ja
        refine And.intro (by subst hA; rfl) ?_
        refine part (fun h2 => ?_) (fun h2 => ?_)
        · cbv
          have hj : j < ((n + 1 : Nat) : Int) := by subst hA; exact of_decide_eq_true h2
          have hjN : j.toNat < ws.length := by omega
          have hnx := next_back i2.2.2 hjN
          have hrd : isRd bx a 0 := by
            obtain ⟨m, hm⟩ : ∃ m : Nat, m = (allB (ws.take j.toNat)).length := ⟨_, rfl⟩
            have jm : a = (m : Int) := by rw [hm]; exact ja
            have hbl : bx.length = (allB ws).length := by rw [hbx, bytesP_length]
            have hsp := congrArg List.length (allB_split hjN)
            rw [List.length_append, ← hm, ← hbl] at hsp
            exact ⟨⟨allB ws, hbx, by have := i2.1; have := i2.2.1; omega⟩, by omega, by omega, by decide, by decide⟩
          have hch := cmd_has hjN
          have hcg := cmd_get hjN
          generalize ws[j.toNat] = q at hnx hch hcg
          obtain ⟨q1, q2, q3, q4, q5, q6, q7, q8, q9, q10, q11, q12, q13, q14, q15, q16, q17, q18, q19, q20, q21⟩ := q
          obtain ⟨a2, ha2⟩ : ∃ a2 : Int, a2 = (allB (ws.take (j.toNat + 1))).length := ⟨_, rfl⟩
          have hge : GFsLG.cell bx a 0 = (⟨q1, q2, q3, q4, q5, q6, q7, q8, q9, q10, q11, q12, q13, q14, q15, q16, q17, q18, q19, q20, q21⟩, a2, 0) := by (subst hFsLG; show getCellX bx a 0 = _; rw [ja, ha2, hbx]; exact hnx)
          cbv at hge
          (with_reducible refine regionL [25] [0, 0, 0, 0, 0, 0, 0, 0, 0, 0, 0] (T := fun _ => tabY [21, 31, 40, 51, 70] []) (H := fun _ => [kn_light GFsL9, kn_putCellX GFsL4, kn_rightCell GFsL1, kn_runs15 GFsK]) (B := fun _ => [kb_pRead GFsS, kb_gCell GFsLG, kb_pEnd GFsR]) (R := fun _ => []) (A := A) (tabY_ok _ _) hH hB noR_ok follows_mixed hA hX (by kernel_rfl) (by kernel_rfl) (by kernel_rfl) ?_)
          cbv
          simp only [hge]
          repeat' first
            | (refine part (fun h => ?_) (fun h => ?_) <;> try cbv)
            | (refine And.intro ?_ ?_)
          all_goals clear hH hB
          all_goals subst hA hX hW hFsL9 hFsL4 hFsL1 hFsK hFsS hFsLG hFsR hR2
          all_goals rw [← hdc] at hch
          all_goals have hd0 : dc[j.toNat * 21]? = some (.d (.sc (.int .i64 q1))) := by rw [hdc]; exact hcg 0
          all_goals have hd1 : dc[j.toNat * 21 + 1]? = some (.d (.sc (.int .i64 q2))) := by rw [hdc]; exact hcg 1
          all_goals have hd2 : dc[j.toNat * 21 + 2]? = some (.d (.sc (.int .i64 q3))) := by rw [hdc]; exact hcg 2
          all_goals have hd3 : dc[j.toNat * 21 + 3]? = some (.d (.sc (.int .i64 q4))) := by rw [hdc]; exact hcg 3
          all_goals have hd4 : dc[j.toNat * 21 + 4]? = some (.d (.sc (.int .i64 q5))) := by rw [hdc]; exact hcg 4
          all_goals have hd5 : dc[j.toNat * 21 + 5]? = some (.d (.sc (.int .i64 q6))) := by rw [hdc]; exact hcg 5
          all_goals have hd6 : dc[j.toNat * 21 + 6]? = some (.d (.sc (.int .i64 q7))) := by rw [hdc]; exact hcg 6
          all_goals have hd7 : dc[j.toNat * 21 + 7]? = some (.d (.sc (.int .i64 q8))) := by rw [hdc]; exact hcg 7
          all_goals have hd8 : dc[j.toNat * 21 + 8]? = some (.d (.sc (.string q9))) := by rw [hdc]; exact hcg 8
          all_goals have hd9 : dc[j.toNat * 21 + 9]? = some (.d (.sc (.string q10))) := by rw [hdc]; exact hcg 9
          all_goals have hd10 : dc[j.toNat * 21 + 10]? = some (.d (.sc (.string q11))) := by rw [hdc]; exact hcg 10
          all_goals have hd11 : dc[j.toNat * 21 + 11]? = some (.d (.sc (.string q12))) := by rw [hdc]; exact hcg 11
          all_goals have hd12 : dc[j.toNat * 21 + 12]? = some (.d (.sc (.int .i64 q13))) := by rw [hdc]; exact hcg 12
          all_goals have hd13 : dc[j.toNat * 21 + 13]? = some (.d (.sc (.int .i64 q14))) := by rw [hdc]; exact hcg 13
          all_goals have hd14 : dc[j.toNat * 21 + 14]? = some (.d (.sc (.int .i64 q15))) := by rw [hdc]; exact hcg 14
          all_goals have hd15 : dc[j.toNat * 21 + 15]? = some (.d (.sc (.int .i64 q16))) := by rw [hdc]; exact hcg 15
          all_goals have hd16 : dc[j.toNat * 21 + 16]? = some (.d (.sc (.int .i64 q17))) := by rw [hdc]; exact hcg 16
          all_goals have hd17 : dc[j.toNat * 21 + 17]? = some (.d (.sc (.int .i64 q18))) := by rw [hdc]; exact hcg 17
          all_goals have hd18 : dc[j.toNat * 21 + 18]? = some (.d (.sc (.int .i64 q19))) := by rw [hdc]; exact hcg 18
          all_goals have hd19 : dc[j.toNat * 21 + 19]? = some (.d (.sc (.int .i64 q20))) := by rw [hdc]; exact hcg 19
          all_goals have hd20 : dc[j.toNat * 21 + 20]? = some (.d (.sc (.bool q21))) := by rw [hdc]; exact hcg 20
          all_goals clear hcg hnx hge
          all_goals have wj : IntKind.wrap .i64 (j + 1) = j + 1 := wrap_i64 (by unfold r64; have := i2.1; omega)
          all_goals first
            | rfl
            | exact hrd
            | exact ⟨j0, hj⟩
            | (simp only [A0, nc, Nat.zero_add, hd0, hd1, hd2, hd3, hd4, hd5, hd6, hd7, hd8, hd9, hd10, hd11, hd12, hd13, hd14, hd15, hd16, hd17, hd18, hd19, hd20]; exact hch)
            | (exfalso
               simp only [A0, nc, Nat.zero_add, hd0, hd1, hd2, hd3, hd4, hd5, hd6, hd7, hd8, hd9, hd10, hd11, hd12, hd13, hd14, hd15, hd16, hd17, hd18, hd19, hd20] at h
               simp at h
               done)
            | (refine ⟨(j + 1, a2), ⟨⟨by show 0 ≤ j + 1; omega, by show j + 1 ≤ ((n + 1 : Nat) : Int); omega⟩, by show a2 = (allB (ws.take (j + 1).toNat)).length; rw [ha2, show (j + 1).toNat = j.toNat + 1 by omega]⟩, by show (n + 1) - (j + 1).toNat < (n + 1) - j.toNat; omega, told_less ?_⟩
               simp [toldP, getS, A0, wj])
        · have hen2 : ¬ j < ((n + 1 : Nat) : Int) := by subst hA; exact of_decide_eq_false h2
          have hta : ws.take j.toNat = ws := List.take_of_length_le (by omega)
          have hab : a = (bx.length : Int) := by rw [ja, hta, hbx, bytesP_length]
          have hrd : isRd bx a 0 := ⟨⟨allB ws, hbx, by have := i2.1; have := i2.2.1; omega⟩, by omega, by omega, by decide, by decide⟩
          have hen : GFsR.fin bx a 0 = 0 := by subst hFsR; show endR bx a 0 = 0; unfold endR; rw [if_neg (by rintro ⟨_, h⟩; omega)]
          cbv at hen
          have z00 : A.cmp .eql 0 0 = true := by subst hA; rfl
          have n2 : A.not false = true := by subst hA; rfl
          have o2 : A.cond true true false = true := by subst hA; rfl
          cbv
          cbv at z00 n2 o2
          repeat' first
            | (simp only [hen, z00, n2, o2]; cbv)
            | (refine And.intro ?_ ?_)
            | ((with_reducible refine callB hX hB ?_) <;> cbv)
          all_goals clear hH hB
          all_goals subst hA hX hW hFsL9 hFsL4 hFsL1 hFsK hFsS hFsLG hFsR
          all_goals first
            | exact hrd
            | (simp only [A0]; intros; first | assumption | trivial | (simp_all; done))
            | (refine ret_v ?_ rfl; rfl)

    all_goals subst hA
    all_goals simp only [A0]
    all_goals first
      | (intro hq; rw [hq]; rfl)
      | (intros; first | assumption | trivial | (simp_all; done))
end Go.Proofs.Ytbhapclaochcnaa
