/- Right commands, written one behind the other, come back. No condition. -/
import Derived.Test.YtdcelfgdnepghaaRdD
namespace Go.Proofs.Ytdcelfgdnepghaa
open Go.RowKit
set_option linter.all false
set_option maxHeartbeats 4000000
def Cmd.row (c : Cmd) : List PD := [.sc (.int .i64 c.kind), .sc (.int .i64 c.client), .sc (.int .i64 c.seq), .sc (.string c.key), .sc (.string c.fin), .sc (.string c.old), .sc (.string c.val)]
def cmdsX (l : List Cmd) : List (List PD) := l.map Cmd.row
theorem cmdsX_length (l : List Cmd) : (cmdsX l).length = l.length := by simp [cmdsX]
theorem cmdsX_sz {l : List Cmd} : ∀ x ∈ cmdsX l, x.length = 7 := by
  intro x hx
  simp only [cmdsX, List.mem_map] at hx
  obtain ⟨_, _, rfl⟩ := hx
  rfl
theorem crow {xs : List (List PD)} {l : List Cmd} (hxs : xs = cmdsX l) {i : Int} (h0 : 0 ≤ i) (h1 : i < l.length) : xs.getD i.toNat [] = (l[i.toNat]'(by omega)).row := by
  subst hxs
  have : i.toNat < l.length := by omega
  simp [cmdsX, List.getD_eq_getElem?_getD, this]
def isCs (xs : List (List PD)) : Prop := ∃ l : List Cmd, xs = cmdsX l ∧ l.length ≤ 1048576 ∧ ∀ c ∈ l, okC c
def allB (ws : List Cmd) : List UInt8 := (ws.map putB).flatten
theorem allB_snoc (ws : List Cmd) (c : Cmd) : allB (ws ++ [c]) = allB ws ++ putB c := by simp [allB]
/-- The bytes of a command of that size. -/
theorem putB_length {c : Cmd} (h : c.key.size + c.fin.size + c.old.size + c.val.size ≤ 500) : (putB c).length ≤ 1000 := by
  have h1 := numB_length c.kind
  have h2 := numB_length c.client
  have h3 := numB_length c.seq
  have h4 := textB_length c.key
  have h5 := textB_length c.fin
  have h6 := textB_length c.old
  have h7 := textB_length c.val
  unfold putB
  split
  · simp only [List.length_append, List.length_nil]; omega
  · simp only [List.length_append]
    split
    · omega
    split
    · simp only [List.length_append]; omega
    split
    · omega
    · simp only [List.length_nil]; omega
def wantV : Nat → Nat → DV
  | 0, _ => .d (.sc (.slice none 0 0))
  | n + 1, v => .view 7 0 v 0 (n + 1)
def wantB : Nat → List DV → Nat → Store
  | 0, _, _ => []
  | n + 1, dc, v => [⟨23, dc, true, v, true⟩]
theorem putX_gt (xs : List (List PD)) (c : Cmd) : decide ((xs.length : Int) < ((putX xs c).length : Nat)) = rightC c := by
  unfold putX
  cases h : rightC c
  · simp
  · have := putB_pos c
    simp only [if_true, List.length_append, bytesP_length, decide_eq_true_eq]
    omega
def wOk (i : Int) (ws : List Cmd) : Prop := ws.length ≤ i.toNat ∧ (allB ws).length ≤ 1000 * ws.length ∧ ∀ c ∈ ws, rightC c = true ∧ okC c
theorem wOk.more {i : Int} {ws : List Cmd} (h : wOk i ws) (h0 : 0 ≤ i) : wOk (i + 1) ws := ⟨Nat.le_trans h.1 (by omega), h.2⟩
theorem wOk.snoc {i : Int} {ws : List Cmd} (h : wOk i ws) (h0 : 0 ≤ i) {c : Cmd} (hr : rightC c = true) (hk : okC c) (hs : c.key.size + c.fin.size + c.old.size + c.val.size ≤ 500) : wOk (i + 1) (ws ++ [c]) := by
  obtain ⟨h1, h2, h3⟩ := h
  have hp := putB_length hs
  refine ⟨by rw [List.length_append, List.length_singleton]; omega, by rw [allB_snoc, List.length_append, List.length_append, List.length_singleton]; omega, fun x hx => ?_⟩
  rcases List.mem_append.1 hx with hx | hx
  · exact h3 x hx
  · rw [List.mem_singleton] at hx
    subst hx
    exact ⟨hr, hk⟩
theorem pullRows (κ : List Nat) (xs : List (List PD)) : pullL κ (rowsD xs) = rowsD xs := by
  rw [pullL_eq]
  have : ∀ c ∈ rowsD xs, pullD κ c = c := fun c hc => by
    simp only [rowsD, List.mem_map] at hc
    obtain ⟨p, _, rfl⟩ := hc
    rfl
  rw [List.map_congr_left this, List.map_id']
theorem cmd_cells : ∀ {ws : List Cmd} {j : Nat} (h : j < ws.length), (rowsD (cmdsX ws)).drop (j * 7) = ws[j].row.map .d ++ rowsD (cmdsX (ws.drop (j + 1)))
  | c :: ws, 0, _ => by simp [cmdsX, rowsD, Cmd.row]
  | c :: ws, j + 1, h => by
      have h2 : j < ws.length := by simpa using h
      have e : rowsD (cmdsX (c :: ws)) = c.row.map .d ++ rowsD (cmdsX ws) := by simp [cmdsX, rowsD]
      have ih := cmd_cells h2
      rw [e, show (j + 1) * 7 = 7 + j * 7 by omega, ← List.drop_drop]
      have e2 : (c.row.map DV.d ++ rowsD (cmdsX ws)).drop 7 = rowsD (cmdsX ws) := rfl
      rw [e2, ih]
      rfl
theorem rowsD_length : ∀ ws : List Cmd, (rowsD (cmdsX ws)).length = ws.length * 7
  | [] => rfl
  | c :: ws => by
      have e : rowsD (cmdsX (c :: ws)) = c.row.map .d ++ rowsD (cmdsX ws) := by simp [cmdsX, rowsD]
      rw [e, List.length_append, rowsD_length ws, List.length_cons, List.length_map]
      simp only [Cmd.row, List.length_cons, List.length_nil]
      omega
theorem cmd_get {ws : List Cmd} {j : Nat} (h : j < ws.length) (f : Nat) : (rowsD (cmdsX ws))[j * 7 + f]? = (ws[j].row.map DV.d ++ rowsD (cmdsX (ws.drop (j + 1))))[f]? := by
  rw [← cmd_cells h, List.getElem?_drop]
theorem cmd_has {ws : List Cmd} {j : Nat} (h : j < ws.length) : A0.has (rowsD (cmdsX ws)) (j * 7) 7 (ws[j].row.map .d) := by
  refine ⟨rfl, by rw [rowsD_length]; omega, ?_⟩
  rw [cmd_cells h]
  rfl
theorem allB_take {ws : List Cmd} {j : Nat} (h : j < ws.length) : allB (ws.take (j + 1)) = allB (ws.take j) ++ putB ws[j] := by
  rw [List.take_succ_eq_append_getElem h, allB_snoc]
theorem allB_split {ws : List Cmd} {j : Nat} (h : j < ws.length) : allB ws = allB (ws.take j) ++ (putB ws[j] ++ allB (ws.drop (j + 1))) := by
  have e : ws = ws.take j ++ (ws[j] :: ws.drop (j + 1)) := by
    rw [← List.drop_eq_getElem_cons h, List.take_append_drop]
  rw [congrArg allB e]
  simp only [allB, List.map_append, List.flatten_append, List.map_cons, List.flatten_cons]
/-- The next command comes back. -/
theorem next_back {ws : List Cmd} (hw : ∀ c ∈ ws, rightC c = true ∧ okC c) {j : Nat} (h : j < ws.length) : getX (bytesP (allB ws)) ((allB (ws.take j)).length : Int) 0 = (ws[j], ((allB (ws.take (j + 1))).length : Int), 0) := by
  have hc := hw _ (List.getElem_mem h)
  rw [allB_split h, putB_back _ _ _ hc.1 hc.2, allB_take h]
structure BackS where
  i : Int
  n : Nat
  dc : List DV
  bx : List (List PD)
  ver : Nat
def BackI (x : BackS) : Prop := (0 ≤ x.i ∧ x.i ≤ 20) ∧ ∃ ws : List Cmd, wOk x.i ws ∧ x.n = ws.length ∧ x.dc = rowsD (cmdsX ws) ∧ x.bx = bytesP (allB ws)
theorem rows_snoc (ws : List Cmd) (c : Cmd) : rowsD (cmdsX ws) ++ c.row.map .d = rowsD (cmdsX (ws ++ [c])) := by simp [cmdsX, rowsD]
theorem bif2 {a b : Bool} (h : (bif a then b else false) = true) : a = true ∧ b = true := by cases a <;> simp_all

set_option maxRecDepth 100000 in
theorem v_back5 (ls : List (List PD)) (hp0 : isCs ls) : FnV Try.prog 8 [.d (.slc 7 ls)] (boolD true) := by
  obtain ⟨l, hls, hll, hlo⟩ := hp0
  have hln : ls.length = l.length := by rw [hls]; exact cmdsX_length l
  obtain ⟨GFs6, hFs6⟩ : ∃ F, F = Fs60 := ⟨_, rfl⟩
  obtain ⟨GFs5, hFs5⟩ : ∃ F, F = Fs50 := ⟨_, rfl⟩
  obtain ⟨GFsS, hFsS⟩ : ∃ F, F = FsS0 := ⟨_, rfl⟩
  obtain ⟨GFsG, hFsG⟩ : ∃ F, F = FsG0 := ⟨_, rfl⟩
  obtain ⟨GFsR, hFsR⟩ : ∃ F, F = FsR0 := ⟨_, rfl⟩
  have hH : SoundK Try.prog [kn_put GFs6, kn_right GFs5, kn_runs GFs6] := by subst hFs6 hFs5 hFsS hFsG hFsR; exact orK_ok ok_put (orK_ok ok_right (orK_ok ok_runs noK_ok))
  have hB : SoundB Try.prog [kb_pRead GFsS, kb_cGet GFsG, kb_pEnd GFsR] := by subst hFs6 hFs5 hFsS hFsG hFsR; exact orB_ok okb_pRead (orB_ok okb_cGet (orB_ok okb_pEnd noB_ok))
  refine FnD_cbv (T := fun _ => tabY [21, 22, 27, 28, 34, 35, 41, 42, 52, 61, 72, 91] []) (H := fun _ => [kn_put GFs6, kn_right GFs5, kn_runs GFs6]) (tabY_ok _ _) hH follows_mixed Try.func8 rfl Try.ntmps8 (by simp) fun A X W hA hX hW => ?_
  cbv
  refine loopL (T := fun _ => tabY [21, 22, 27, 28, 34, 35, 41, 42, 52, 61, 72, 91] []) (H := fun _ => [kn_put GFs6, kn_right GFs5, kn_runs GFs6]) (tabY_ok _ _) hH follows_mixed hA hX BackI
    (fun x => [(0, .d (.slc 7 ls)), (3, .d (.slc 1 x.bx)), (4, wantV x.n x.ver), (5, .d (.sc (.int .i64 x.i)))]) (fun x => wantB x.n x.dc x.ver)
    (fun x => 20 - x.i.toNat) ⟨0, 0, [], [], 0⟩ ?_ ?_ ?_
  · exact ⟨⟨by decide, by decide⟩, [], ⟨Nat.le_refl _, by decide, fun c hc => absurd hc (by simp)⟩, rfl, rfl, rfl⟩
  · refine told_up ?_
    simp [toldUP, UpD, getS, intD, boolD, wantV]
  rintro R ⟨i, n, dc, bx, ver⟩ hR ⟨⟨i0, i1⟩, ws, i2, hn, hdc, hbx⟩
  replace i0 : 0 ≤ i := i0
  replace i1 : i ≤ 20 := i1
  replace i2 : wOk i ws := i2
  replace hn : n = ws.length := hn
  replace hdc : dc = rowsD (cmdsX ws) := hdc
  replace hbx : bx = bytesP (allB ws) := hbx
  have hbk : isBk 4000000 bx := ⟨allB ws, hbx, by have := i2.1; have := i2.2.1; omega⟩
  rcases n with _ | n
  cbv
  · repeat' first
      | (refine And.intro ?_ ?_)
    rotate_right 1
    · refine part (fun h1 => ?_) (fun h1 => ?_)
      · cbv
        repeat' first
          | (refine part (fun h => ?_) (fun h => ?_) <;> try cbv)
          | (refine And.intro ?_ ?_)
        all_goals clear hH hB
        all_goals subst hA hX hW hFs6 hFs5 hFsS hFsG hFsR hR
        all_goals simp only [A0, nc, Fs60, Fs50, FsS0, FsG0, FsR0, Nat.zero_add, decide_eq_true_eq, decide_eq_false_iff_not, Bool.not_eq_true', Bool.not_eq_false'] at *
        all_goals have hb := bif2 h1
        all_goals try simp only [decide_eq_true_eq] at hb
        all_goals replace hb : i < (ls.length : Int) ∧ i < 20 := hb
        all_goals have hlN : i.toNat < l.length := by omega
        all_goals have hro : ls.getD i.toNat [] = (l[i.toNat]).row := crow hls i0 (by omega)
        all_goals have hco := hlo _ (List.getElem_mem hlN)
        all_goals generalize l[i.toNat] = c at hro hco
        all_goals generalize ls.getD i.toNat [] = r at *
        all_goals subst hro
        all_goals try simp only [Cmd.row, List.drop_zero, List.drop_succ_cons, List.map_cons, List.map_nil, List.getElem?_cons_zero, List.getElem?_cons_succ] at *
        all_goals have hk := hco
        all_goals obtain ⟨k1, k2, k3, k4, k5, k6, k7⟩ := hk
        all_goals have v1 : IntKind.wrap .i64 ((c.key.size : Int) + c.fin.size) = c.key.size + c.fin.size := wrap_i64 (by unfold r64; omega)
        all_goals have v2 : IntKind.wrap .i64 ((c.key.size : Int) + c.fin.size + c.old.size) = c.key.size + c.fin.size + c.old.size := wrap_i64 (by unfold r64; omega)
        all_goals have v3 : IntKind.wrap .i64 ((c.key.size : Int) + c.fin.size + c.old.size + c.val.size) = c.key.size + c.fin.size + c.old.size + c.val.size := wrap_i64 (by unfold r64; omega)
        all_goals have wi : IntKind.wrap .i64 (i + 1) = i + 1 := wrap_i64 (by unfold r64; omega)
        all_goals have hgt := putX_gt bx c
        all_goals have hwo := i2.more i0
        all_goals first
          | (show Region.lexB _ _ = true; kernel_rfl)
          | assumption
          | exact hco
          | exact ⟨i0, hb.1⟩
          | rfl
          | (simp; done)
          | exact ⟨by simp [szT], by decide⟩
          | exact absurd hgt h
          | (refine ⟨⟨i + 1, 0, [], bx, 0⟩, ⟨⟨by show 0 ≤ i + 1; omega, by show i + 1 ≤ 20; omega⟩, ⟨ws, hwo, hn, by rw [List.eq_nil_of_length_eq_zero hn.symm]; rfl, hbx⟩⟩, by show 20 - (i + 1).toNat < 20 - i.toNat; omega, told_keep [] rfl ?_ ⟨.inl rfl, .inl rfl, .inl rfl, .inl (congrArg (fun n => DV.d (.sc (.int .i64 n))) wi.symm), trivial⟩⟩
             simp [keepSt, pullBox, wantB, hdc, pullRows])
          | (have hrc : rightC c = false := by rw [← hgt]; exact decide_eq_false ‹¬ (bx.length : Int) < _›
             have hpx : putX bx c = bx := by unfold putX; rw [hrc]; rfl
             refine ⟨⟨i + 1, 0, [], bx, 0⟩, ⟨⟨by show 0 ≤ i + 1; omega, by show i + 1 ≤ 20; omega⟩, ⟨ws, hwo, hn, by rw [List.eq_nil_of_length_eq_zero hn.symm]; rfl, hbx⟩⟩, by show 20 - (i + 1).toNat < 20 - i.toNat; omega, told_keep [] rfl ?_ ⟨.inl rfl, .inl (by show DV.d (.slc 1 _) = DV.d (.slc 1 (putX bx c)); rw [hpx]), .inl rfl, .inl (congrArg (fun n => DV.d (.sc (.int .i64 n))) wi.symm), trivial⟩⟩
             simp [keepSt, pullBox, wantB, hdc, pullRows])
          | (have hrc : rightC c = true := by rw [← hgt]; exact decide_eq_true ‹(bx.length : Int) < _›
             have hpx : putX bx c = bytesP (allB (ws ++ [c])) := by unfold putX; rw [hrc, allB_snoc, show bytesP (allB ws ++ putB c) = bytesP (allB ws) ++ bytesP (putB c) from by simp [bytesP], hbx]; rfl
             have hsz : c.key.size + c.fin.size + c.old.size + c.val.size ≤ 500 := by
               have h9 := ‹¬ (500 : Int) < _›
               rw [v1, v2, v3] at h9
               omega
             have rows_snoc2 := rows_snoc ws c
             simp only [Cmd.row, List.map_cons, List.map_nil] at rows_snoc2
             refine ⟨⟨i + 1, 1, rowsD (cmdsX [c]), putX bx c, 0⟩, ⟨⟨by show 0 ≤ i + 1; omega, by show i + 1 ≤ 20; omega⟩, ⟨ws ++ [c], i2.snoc i0 hrc hco hsz, by rw [List.eq_nil_of_length_eq_zero hn.symm]; rfl, by rw [List.eq_nil_of_length_eq_zero hn.symm]; rfl, hpx⟩⟩, by show 20 - (i + 1).toNat < 20 - i.toNat; omega, told_keep [1] rfl ?_ ⟨.inl rfl, .inl rfl, .inl rfl, .inl (congrArg (fun n => DV.d (.sc (.int .i64 n))) wi.symm), trivial⟩⟩
             simp [keepSt, pullBox, wantB, Cmd.row, rowsD, cmdsX, Cmd.row, pullL, pullD])
          | exact ⟨by rw [hdc, rowsD_length, ← hn], rfl⟩
          | (rw [hdc, rowsD_length, ← hn]; rfl)
          | (rw [hdc, rowsD_length, ← hn]; done)
          | exact ⟨by have := i2.1; omega, by have := i2.1; omega⟩
          | skip
      · cbv
        refine callB hX hB ?_
        cbv
        refine And.intro (by subst hFsS; exact ⟨allB ws, hbx, by have := i2.1; have := i2.2.1; omega⟩) ?_
        have c00 : A.cmp .lss 0 0 = false := by subst hA; rfl
        have hrd : isRd bx 0 0 := rd0 ⟨allB ws, hbx, by have := i2.1; have := i2.2.1; omega⟩
        have hen : GFsR.fin bx 0 0 = 0 := by subst hFsR; rw [hbx, List.eq_nil_of_length_eq_zero hn.symm]; rfl
        cbv at c00 hen
        have z00 : A.cmp .eql 0 0 = true := by subst hA; rfl
        have n2 : A.not false = true := by subst hA; rfl
        have o2 : A.cond true true false = true := by subst hA; rfl
        refine unrollL (T := fun _ => tabY [21, 22, 27, 28, 34, 35, 41, 42, 52, 61, 72, 91] [17]) (H := fun _ => [kn_put GFs6, kn_right GFs5, kn_runs GFs6]) (tabY_ok _ _) hH follows_mixed hA hX 1 fun R2 hR2 => ?_
        cbv
        refine hR2 _ _ _ ?_
        cbv
        simp only [c00]
        cbv
        clear hR2
        cbv at z00 n2 o2
        repeat' first
          | (simp only [hen, z00, n2, o2]; cbv)
          | (refine And.intro ?_ ?_)
          | ((with_reducible refine callB hX hB ?_) <;> cbv)
        all_goals clear hH hB
        all_goals subst hA hX hW hFs6 hFs5 hFsS hFsG hFsR
        all_goals first
          | exact hrd
          | (simp only [A0]; intros; first | assumption | trivial | (simp_all; done))
          | (refine ret_v ?_ rfl; rfl)
    all_goals subst hA
    all_goals simp only [A0]
    all_goals first
      | (intro hq; rw [hq]; rfl)
      | (intros; first | assumption | trivial | (simp_all; done))
  · cbv
    repeat' first
      | (refine And.intro ?_ ?_)
    rotate_right 1
    · refine part (fun h1 => ?_) (fun h1 => ?_)
      · cbv
        repeat' first
          | (refine part (fun h => ?_) (fun h => ?_) <;> try cbv)
          | (refine And.intro ?_ ?_)
        all_goals clear hH hB
        all_goals subst hA hX hW hFs6 hFs5 hFsS hFsG hFsR hR
        all_goals simp only [A0, nc, Fs60, Fs50, FsS0, FsG0, FsR0, Nat.zero_add, decide_eq_true_eq, decide_eq_false_iff_not, Bool.not_eq_true', Bool.not_eq_false'] at *
        all_goals have hb := bif2 h1
        all_goals try simp only [decide_eq_true_eq] at hb
        all_goals replace hb : i < (ls.length : Int) ∧ i < 20 := hb
        all_goals have hlN : i.toNat < l.length := by omega
        all_goals have hro : ls.getD i.toNat [] = (l[i.toNat]).row := crow hls i0 (by omega)
        all_goals have hco := hlo _ (List.getElem_mem hlN)
        all_goals generalize l[i.toNat] = c at hro hco
        all_goals generalize ls.getD i.toNat [] = r at *
        all_goals subst hro
        all_goals try simp only [Cmd.row, List.drop_zero, List.drop_succ_cons, List.map_cons, List.map_nil, List.getElem?_cons_zero, List.getElem?_cons_succ] at *
        all_goals have hk := hco
        all_goals obtain ⟨k1, k2, k3, k4, k5, k6, k7⟩ := hk
        all_goals have v1 : IntKind.wrap .i64 ((c.key.size : Int) + c.fin.size) = c.key.size + c.fin.size := wrap_i64 (by unfold r64; omega)
        all_goals have v2 : IntKind.wrap .i64 ((c.key.size : Int) + c.fin.size + c.old.size) = c.key.size + c.fin.size + c.old.size := wrap_i64 (by unfold r64; omega)
        all_goals have v3 : IntKind.wrap .i64 ((c.key.size : Int) + c.fin.size + c.old.size + c.val.size) = c.key.size + c.fin.size + c.old.size + c.val.size := wrap_i64 (by unfold r64; omega)
        all_goals have wi : IntKind.wrap .i64 (i + 1) = i + 1 := wrap_i64 (by unfold r64; omega)
        all_goals have hgt := putX_gt bx c
        all_goals have hwo := i2.more i0
        all_goals first
          | (show Region.lexB _ _ = true; kernel_rfl)
          | assumption
          | exact hco
          | exact ⟨i0, hb.1⟩
          | rfl
          | (simp; done)
          | exact ⟨by simp [szT], by decide⟩
          | exact absurd hgt h
          | (refine ⟨⟨i + 1, n + 1, dc, bx, ver⟩, ⟨⟨by show 0 ≤ i + 1; omega, by show i + 1 ≤ 20; omega⟩, ⟨ws, hwo, hn, hdc, hbx⟩⟩, by show 20 - (i + 1).toNat < 20 - i.toNat; omega, told_keep [0] rfl ?_ ⟨.inl rfl, .inl rfl, .inl rfl, .inl (congrArg (fun n => DV.d (.sc (.int .i64 n))) wi.symm), trivial⟩⟩
             simp [keepSt, pullBox, wantB, hdc, pullRows])
          | (have hrc : rightC c = false := by rw [← hgt]; exact decide_eq_false ‹¬ (bx.length : Int) < _›
             have hpx : putX bx c = bx := by unfold putX; rw [hrc]; rfl
             refine ⟨⟨i + 1, n + 1, dc, bx, ver⟩, ⟨⟨by show 0 ≤ i + 1; omega, by show i + 1 ≤ 20; omega⟩, ⟨ws, hwo, hn, hdc, hbx⟩⟩, by show 20 - (i + 1).toNat < 20 - i.toNat; omega, told_keep [0] rfl ?_ ⟨.inl rfl, .inl (by show DV.d (.slc 1 _) = DV.d (.slc 1 (putX bx c)); rw [hpx]), .inl rfl, .inl (congrArg (fun n => DV.d (.sc (.int .i64 n))) wi.symm), trivial⟩⟩
             simp [keepSt, pullBox, wantB, hdc, pullRows])
          | (have hrc : rightC c = true := by rw [← hgt]; exact decide_eq_true ‹(bx.length : Int) < _›
             have hpx : putX bx c = bytesP (allB (ws ++ [c])) := by unfold putX; rw [hrc, allB_snoc, show bytesP (allB ws ++ putB c) = bytesP (allB ws) ++ bytesP (putB c) from by simp [bytesP], hbx]; rfl
             have hsz : c.key.size + c.fin.size + c.old.size + c.val.size ≤ 500 := by
               have h9 := ‹¬ (500 : Int) < _›
               rw [v1, v2, v3] at h9
               omega
             have rows_snoc2 := rows_snoc ws c
             simp only [Cmd.row, List.map_cons, List.map_nil] at rows_snoc2
             refine ⟨⟨i + 1, n + 2, dc ++ c.row.map .d, putX bx c, ver + 1⟩, ⟨⟨by show 0 ≤ i + 1; omega, by show i + 1 ≤ 20; omega⟩, ⟨ws ++ [c], i2.snoc i0 hrc hco hsz, by show n + 2 = _; rw [List.length_append, ← hn]; rfl, by show dc ++ c.row.map .d = _; rw [hdc, rows_snoc], hpx⟩⟩, by show 20 - (i + 1).toNat < 20 - i.toNat; omega, told_keep [0] rfl ?_ ⟨.inl rfl, .inl rfl, .inl rfl, .inl (congrArg (fun n => DV.d (.sc (.int .i64 n))) wi.symm), trivial⟩⟩
             simp [keepSt, pullBox, wantB, Cmd.row, hdc, rows_snoc2, pullRows])
          | exact ⟨by rw [hdc, rowsD_length, ← hn], rfl⟩
          | (rw [hdc, rowsD_length, ← hn]; rfl)
          | (rw [hdc, rowsD_length, ← hn]; done)
          | exact ⟨by have := i2.1; omega, by have := i2.1; omega⟩
          | skip
      · cbv
        refine callB hX hB ?_
        cbv
        refine And.intro (by subst hFsS; exact ⟨allB ws, hbx, by have := i2.1; have := i2.2.1; omega⟩) ?_
        refine loopL (T := fun _ => tabY [21, 22, 27, 28, 34, 35, 41, 42, 52, 61, 72, 91] [17]) (H := fun _ => [kn_put GFs6, kn_right GFs5, kn_runs GFs6]) (tabY_ok _ _) hH follows_mixed hA hX (fun x : Int × Int => (0 ≤ x.1 ∧ x.1 ≤ ((n + 1 : Nat) : Int)) ∧ x.2 = (allB (ws.take x.1.toNat)).length)
          (fun x => [(4, .view 7 0 ver 0 (n + 1)), (7, .ref 1 0 0), (8, .d (.sc (.int .i64 x.1)))]) (fun x => [⟨23, dc, true, ver, true⟩, rdB 59 bx x.2 0])
          (fun x => (n + 1) - x.1.toNat) (0, 0) ?_ ?_ ?_
        · exact ⟨⟨Int.le_refl 0, by show (0 : Int) ≤ ((n + 1 : Nat) : Int); omega⟩, rfl⟩
        · exact told_less (by simp [toldP, getS])
        rintro R2 ⟨j, a⟩ hR2 ⟨⟨j0, j1⟩, ja⟩
        cbv
        replace j0 : 0 ≤ j := j0
        replace j1 : j ≤ ((n + 1 : Nat) : Int) := j1
        replace ja : a = (allB (ws.take j.toNat)).length := ja
        refine And.intro (by subst hA; rfl) ?_
        refine part (fun h2 => ?_) (fun h2 => ?_)
        · cbv
          have hj : j < ((n + 1 : Nat) : Int) := by subst hA; exact of_decide_eq_true h2
          have hjN : j.toNat < ws.length := by omega
          have hnx := next_back i2.2.2 hjN
          have hrd : isRd bx a 0 := by
            obtain ⟨m, hm⟩ : ∃ m : Nat, m = (allB (ws.take j.toNat)).length := ⟨_, rfl⟩
            have jm : a = (m : Int) := by rw [hm]; exact ja
            have hbl : bx.length = (allB ws).length := by rw [hbx, bytesP_length]
            have hsp := congrArg List.length (allB_split hjN)
            rw [List.length_append, ← hm, ← hbl] at hsp
            exact ⟨⟨allB ws, hbx, by have := i2.1; have := i2.2.1; omega⟩, by omega, by omega, by decide, by decide⟩
          have hch := cmd_has hjN
          have hcg := cmd_get hjN
          generalize ws[j.toNat] = q at hnx hch hcg
          obtain ⟨q1, q2, q3, q4, q5, q6, q7⟩ := q
          obtain ⟨a2, ha2⟩ : ∃ a2 : Int, a2 = (allB (ws.take (j.toNat + 1))).length := ⟨_, rfl⟩
          have hge : GFsG.get bx a 0 = (⟨q1, q2, q3, q4, q5, q6, q7⟩, a2, 0) := by (subst hFsG; show getX bx a 0 = _; rw [ja, ha2, hbx]; exact hnx)
          cbv at hge
          (with_reducible refine regionL [23] [0, 0, 0, 0, 0, 0, 0, 0, 0, 0, 0] (T := fun _ => tabY [21, 22, 27, 28, 34, 35, 41, 42, 52, 61, 72, 91] []) (H := fun _ => [kn_put GFs6, kn_right GFs5, kn_runs GFs6]) (B := fun _ => [kb_pRead GFsS, kb_cGet GFsG, kb_pEnd GFsR]) (R := fun _ => []) (A := A) (tabY_ok _ _) hH hB noR_ok follows_mixed hA hX (by kernel_rfl) (by kernel_rfl) (by kernel_rfl) ?_)
          cbv
          simp only [hge]
          repeat' first
            | (refine part (fun h => ?_) (fun h => ?_) <;> try cbv)
            | (refine And.intro ?_ ?_)
          all_goals clear hH hB
          all_goals subst hA hX hW hFs6 hFs5 hFsS hFsG hFsR hR2
          all_goals rw [← hdc] at hch
          all_goals have hd0 : dc[j.toNat * 7]? = some (.d (.sc (.int .i64 q1))) := by rw [hdc]; exact hcg 0
          all_goals have hd1 : dc[j.toNat * 7 + 1]? = some (.d (.sc (.int .i64 q2))) := by rw [hdc]; exact hcg 1
          all_goals have hd2 : dc[j.toNat * 7 + 2]? = some (.d (.sc (.int .i64 q3))) := by rw [hdc]; exact hcg 2
          all_goals have hd3 : dc[j.toNat * 7 + 3]? = some (.d (.sc (.string q4))) := by rw [hdc]; exact hcg 3
          all_goals have hd4 : dc[j.toNat * 7 + 4]? = some (.d (.sc (.string q5))) := by rw [hdc]; exact hcg 4
          all_goals have hd5 : dc[j.toNat * 7 + 5]? = some (.d (.sc (.string q6))) := by rw [hdc]; exact hcg 5
          all_goals have hd6 : dc[j.toNat * 7 + 6]? = some (.d (.sc (.string q7))) := by rw [hdc]; exact hcg 6
          all_goals clear hcg hnx hge
          all_goals have wj : IntKind.wrap .i64 (j + 1) = j + 1 := wrap_i64 (by unfold r64; have := i2.1; omega)
          all_goals first
            | rfl
            | exact hrd
            | exact ⟨j0, hj⟩
            | (simp only [A0, nc, Nat.zero_add, hd0, hd1, hd2, hd3, hd4, hd5, hd6]; exact hch)
            | (exfalso
               simp only [A0, nc, Nat.zero_add, hd0, hd1, hd2, hd3, hd4, hd5, hd6] at h
               simp at h
               done)
            | (refine ⟨(j + 1, a2), ⟨⟨by show 0 ≤ j + 1; omega, by show j + 1 ≤ ((n + 1 : Nat) : Int); omega⟩, by show a2 = (allB (ws.take (j + 1).toNat)).length; rw [ha2, show (j + 1).toNat = j.toNat + 1 by omega]⟩, by show (n + 1) - (j + 1).toNat < (n + 1) - j.toNat; omega, told_less ?_⟩
               simp [toldP, getS, A0, wj])
        · have hen2 : ¬ j < ((n + 1 : Nat) : Int) := by subst hA; exact of_decide_eq_false h2
          have hta : ws.take j.toNat = ws := List.take_of_length_le (by omega)
          have hab : a = (bx.length : Int) := by rw [ja, hta, hbx, bytesP_length]
          have hrd : isRd bx a 0 := ⟨⟨allB ws, hbx, by have := i2.1; have := i2.2.1; omega⟩, by omega, by omega, by decide, by decide⟩
          have hen : GFsR.fin bx a 0 = 0 := by subst hFsR; show endR bx a 0 = 0; unfold endR; rw [if_neg (by rintro ⟨_, h⟩; omega)]
          cbv at hen
          have z00 : A.cmp .eql 0 0 = true := by subst hA; rfl
          have n2 : A.not false = true := by subst hA; rfl
          have o2 : A.cond true true false = true := by subst hA; rfl
          cbv
          cbv at z00 n2 o2
          repeat' first
            | (simp only [hen, z00, n2, o2]; cbv)
            | (refine And.intro ?_ ?_)
            | ((with_reducible refine callB hX hB ?_) <;> cbv)
          all_goals clear hH hB
          all_goals subst hA hX hW hFs6 hFs5 hFsS hFsG hFsR
          all_goals first
            | exact hrd
            | (simp only [A0]; intros; first | assumption | trivial | (simp_all; done))
            | (refine ret_v ?_ rfl; rfl)

    all_goals subst hA
    all_goals simp only [A0]
    all_goals first
      | (intro hq; rw [hq]; rfl)
      | (intros; first | assumption | trivial | (simp_all; done))
end Go.Proofs.Ytdcelfgdnepghaa
